/- A piece of the proof. Proved: where the arguments are together of bulk at most 1048576, the law ZoneTells returns true (what is at a name, what beyond a cut), and what it was given reads afterwards as it did before. No other conditions. -/
import Derived.WalkKit
import Derived.CallsIn
import Derived.RangeFuncIn
import Derived.RangeFuncLeaves
import Derived.Orders
import Derived.OrdersIn
import Derived.Scope
import Derived.RangeFuncOwn
import Derived.Stop.SameAnswer
import Derived.Laws.Externs
import Derived.Lib.Bytealg
import Derived.ProofKit
import Derived.OpenShut
import Derived.ReadAgain
import Derived.Deep.Slices
import Derived.ChangeSame
import Derived.Test.YtgencolcibpcaaaGreatProg
import Derived.KernelRfl
import Derived.Test.YtgencolcibpcaaaGreatRows
import Derived.Maps.RangeRun
import Derived.JoinedCond
import Derived.Test.YtgencolcibpcaaaGreatL1
set_option linter.unusedSimpArgs false
set_option linter.unusedVariables false
set_option linter.unusedSectionVars false
namespace Go.Vm
variable [TK]
noncomputable section
theorem bp.one {g w a v} (h:Rel g w a v):bp g w [a] [v]:=bp.cons h (bp.nil _ _)
theorem Pg {g w a vs} (h:bp g w [a] vs):∃ v,vs=[v]∧Rel g w a v:=by
 match vs,h with
 | [v],h=>exact ⟨v,rfl,h.head⟩
 | [],h=>have:=h.1;simp at this
 |_::_::_,h=>have:=h.1;simp at this
def ax9 {α:Type} (ofV:Value→Option α) (l:List AV):Option α:=
 match l with
 | [a]=>a.exact.bind ofV
 |_=>none
def Uj {α:Type} (kd:LK) (gn : α→Value) (ofV:Value→Option α) (h1:∀ x,ofV (gn x)=some x) (h2:∀ v x,ofV v=some x→v=gn x) (h3:∀ x,(gn x).cells = #[gn x]) (h4:∀ x,(gn x).oneCell'=true) (h5:∀ x,ld (gn x)=kd):dh α where
 kd:=kd
 G7 _ _ _ _ _ _ _ hc hr:=by
  simp at hc;subst hc
  have:=hr.exact rfl
  subst this
  exact h5 _
 sz:=1
 agg:=false
 cells _ x:=[.sc (gn x)]
 dec _ _ l:=ax9 ofV l
 len _ _:=rfl
 rt _ _ _ x _:=h1 x
 one _ _ x:=⟨_,rfl,by simp [AV.cells,h3],rfl⟩
 pl _ x c hc:=by simp at hc;subst hc;exact ⟨fun τ=>by simp [AV.dr],by simp [AV.names],h4 x,rfl⟩
 fr x c hc:=by simp at hc;subst hc;rfl
 ok:=by
  intro fr g h w K b0 l vs x _ _ _ hr hd
  match l,hd with
  | [a],hd=>
   obtain ⟨u,rfl,hu⟩:=Pg hr
   cases a with
   |sc v=>
    have:=hu.exact rfl
    subst this
    have:=h2 _ _ hd
    subst this
    exact bp.one (.sc _)
   |_=>cases hd
def ao5 (k:IntKind) (v:Value):Option Int:=
 match v with
 |.int k' n=>bif decide (k'=k) then some n else none
 |_=>none
def ba (k:IntKind):dh Int:=Uj (.int k) (fun n=>.int k n) (ao5 k) (fun x=>by simp [ao5]) (fun v x h=>by
 cases v<;>simp [ao5] at h
 rename_i k' n
 by_cases e:k'=k
 ·subst e;simp at h;rw [h]
 ·simp [e] at h) (fun x=>rfl) (fun x=>rfl) (fun x=>rfl)
def az:dh Bool:=Uj .bool (fun b=>.bool b) nn (fun x=>rfl) (fun v x h=>by cases v<;>simp [nn] at h;rw [h]) (fun x=>rfl) (fun x=>rfl) (fun x=>rfl)
def ai:dh ByteArray:=Uj .str (fun s=>.string s) strOf (fun x=>rfl) (fun v x h=>by cases v<;>simp [strOf] at h;rw [h]) (fun x=>rfl) (fun x=>rfl) (fun x=>rfl)
def u8V (v:Value):Option UInt8:=
 match v with
 |.int k n=>bif decide (k = .u8) && decide (0≤n) && decide (n<256) then some (UInt8.ofNat n.toNat) else none
 |_=>none
def bg:dh UInt8:=Uj (.int .u8) (fun n=>.int .u8 n.toNat) u8V (fun x=>by
 have:=x.toNat_lt
 simp [u8V,show (x.toNat:Int)<256 by omega]) (fun v x h=>by
 cases v<;>simp [u8V] at h
 rename_i k n
 cases hb:(decide (k = .u8) && decide (0≤n) && decide (n<256)) with
 |false=>rw [hb] at h;cases h
 |true=>
  rw [hb] at h
  simp at hb h
  obtain ⟨⟨rfl,h0⟩,h1⟩:=hb
  subst h
  congr 1
  rw [UInt8.toNat_ofNat']
  omega) (fun x=>rfl) (fun x=>rfl) (fun x=>rfl)
def ap2 (v:Value):Option UInt16:=
 match v with
 |.int k n=>bif decide (k = .u16) && decide (0≤n) && decide (n<65536) then some (UInt16.ofNat n.toNat) else none
 |_=>none
def cw:dh UInt16:=Uj (.int .u16) (fun n=>.int .u16 n.toNat) ap2 (fun x=>by
 have:=x.toNat_lt
 simp [ap2,show (x.toNat:Int)<65536 by omega]) (fun v x h=>by
 cases v<;>simp [ap2] at h
 rename_i k n
 cases hb:(decide (k = .u16) && decide (0≤n) && decide (n<65536)) with
 |false=>rw [hb] at h;cases h
 |true=>
  rw [hb] at h
  simp at hb h
  obtain ⟨⟨rfl,h0⟩,h1⟩:=hb
  subst h
  congr 1
  rw [UInt16.toNat_ofNat']
  omega) (fun x=>rfl) (fun x=>rfl) (fun x=>rfl)
def apd (v:Value):Option UInt32:=
 match v with
 |.int k n=>bif decide (k = .u32) && decide (0≤n) && decide (n<4294967296) then some (UInt32.ofNat n.toNat) else none
 |_=>none
def cg:dh UInt32:=Uj (.int .u32) (fun n=>.int .u32 n.toNat) apd (fun x=>by
 have:=x.toNat_lt
 simp [apd,show (x.toNat:Int)<4294967296 by omega]) (fun v x h=>by
 cases v<;>simp [apd] at h
 rename_i k n
 cases hb:(decide (k = .u32) && decide (0≤n) && decide (n<4294967296)) with
 |false=>rw [hb] at h;cases h
 |true=>
  rw [hb] at h
  simp at hb h
  obtain ⟨⟨rfl,h0⟩,h1⟩:=hb
  subst h
  congr 1
  rw [UInt32.toNat_ofNat']
  omega) (fun x=>rfl) (fun x=>rfl) (fun x=>rfl)
theorem axk {g w l n es v} (h:Rel g w (.vl l n es) v):ld v = .no:=by cases h<;>rfl
def br {α:Type} (C:dh α):dh (List α) where
 sz:=1
 kd:=.no
 G7 _ _ _ _ _ _ _ hc hr:=by simp at hc;subst hc;exact axk hr
 agg:=false
 cells l xs:=[.vl l C.sz (xs.map (C.val l))]
 dec:=ar6 C
 len _ _:=rfl
 rt:=by
  intro fr h l x hl
  simp only [ar6,ij]
  cases hb:(Nat.beq C.sz C.sz && (l || !fr)) with
  |false=>cases fr<;>simp_all
  |true=>rw [cond_true,S2 C fr h l hl]
 one _ _ x:=⟨_,rfl,rfl,rfl⟩
 pl l xs c hc:=by
  simp at hc;subst hc
  exact ⟨fun τ=>by rw [AV.dr,Pf (fun c hc=>by obtain ⟨x,_,rfl⟩:=List.mem_map.1 hc;exact Lv C τ l x)],by simp [AV.names],rfl,rfl⟩
 fr xs c hc:=by
  simp at hc;subst hc
  simp only [AV.fresh,Bool.true_and]
  exact K3 (fun c hc=>by obtain ⟨x,_,rfl⟩:=List.mem_map.1 hc;exact aom C x)
 ok:=by
  intro fr g h w K b0 l vs x hok hl hb hr hd
  match l,hd with
  | [a],hd=>
   obtain ⟨u,rfl,hu⟩:=Pg hr
   exact bp.one (asz C hok hl hb hu hd)
def jq {α β:Type} (A:dh α) (B:dh β):dh (α × β) where
 sz:=A.sz+B.sz
 kd:=bif Nat.beq A.sz 1 then A.kd else B.kd
 G7 e _ _ l x c v hc hr:=by
  rcases Nat.lt_or_ge 0 A.sz with h|h
  ·have ha:A.sz=1:=by omega
   have hb:B.cells l x.2=[]:=List.eq_nil_of_length_eq_zero (by rw [B.len];omega)
   rw [hb,List.append_nil] at hc
   rw [ha]
   exact A.G7 ha hc hr
  ·have ha:A.sz=0:=by omega
   have hb:A.cells l x.1=[]:=List.eq_nil_of_length_eq_zero (by rw [A.len];omega)
   rw [hb,List.nil_append] at hc
   rw [ha]
   exact B.G7 (by omega) hc hr
 agg:=true
 cells l p:=A.cells l p.1++B.cells l p.2
 dec fr h l:=match A.dec fr h (l.take A.sz),B.dec fr h (l.drop A.sz) with
  |some x,some y=>some (x,y)
  |_,_=>none
 len l p:=by simp [A.len,B.len]
 rt:=by
  intro fr h l p hl
  have h1:(A.cells l p.1++B.cells l p.2).take A.sz=A.cells l p.1:=by rw [← A.len l p.1,List.take_left]
  have h2:(A.cells l p.1++B.cells l p.2).drop A.sz=B.cells l p.2:=by rw [← A.len l p.1,List.drop_left]
  simp only [h1,h2,A.rt fr h l _ hl,B.rt fr h l _ hl]
 one e:=by cases e
 pl l p c hc:=by rcases List.mem_append.1 hc with h|h;exact A.pl l _ c h;exact B.pl l _ c h
 fr p c hc:=by rcases List.mem_append.1 hc with h|h;exact A.fr _ c h;exact B.fr _ c h
 ok:=by
  intro fr g h w K b0 l vs x hok hl hb hr hd
  split at hd
  ·rename_i x1 y1 hx hy
   simp at hd;subst hd
   have:=(A.ok hok hl hb (hr.take A.sz) hx).append (B.ok hok hl hb (hr.drop A.sz) hy)
   rwa [List.take_append_drop] at this
  ·cases hd
def yj {α β:Type} (C:dh α) (f : β → α) (i : α → β) (h1:∀ y,i (f y)=y) (h2:∀ x,f (i x)=x):dh β where
 sz:=C.sz
 kd:=C.kd
 G7 e _ _ _ _ _ _ hc hr:=C.G7 e hc hr
 agg:=C.agg
 cells l y:=C.cells l (f y)
 dec fr h l:=(C.dec fr h l).map i
 len l y:=C.len l (f y)
 rt fr h l y hl:=by rw [C.rt fr h l _ hl];simp [h1]
 one e l y:=C.one e l (f y)
 pl l y:=C.pl l (f y)
 fr y:=C.fr (f y)
 ok:=by
  intro fr g h w K b0 l vs x hok hl hb hr hd
  rw [Option.map_eq_some_iff] at hd
  obtain ⟨y,hy,rfl⟩:=hd
  rw [h2]
  exact C.ok hok hl hb hr hy
structure AC (α:Type) where
 E : α→List AV
 D:Tr bh→List AV→Option α
 rt:∀ h x,D h (E x)=some x
 ok:∀ {g h w K b0 l vs x},Ok g h w→v7 g h K→bp g w l vs→D h l=some x→bp (gK b0 K) w (E x) vs
def AC.get {α:Type} (A:AC α) (h:Tr bh) (l:List AV):Option α:=A.D h l
def a0:AC Unit where
 E _:=[]
 D _ l:=match l with
  | []=>some ()
  |_=>none
 rt _ _:=rfl
 ok:=by
  intro g h w K b0 l vs x _ _ hr hd
  match l,hd with
  | [],_=>
   have:=hr.1
   simp at this
   subst this
   exact bp.nil _ _
def aC {α β:Type} (C:dh α) (R:AC β):AC (α × β) where
 E p:=C.val false p.1::R.E p.2
 D h l:=match l with
  | []=>none
  |a::r=>match C.fq false h a,R.D h r with
   |some x,some y=>some (x,y)
   |_,_=>none
 rt h p:=by simp only [C.Jv false h false p.1 (fun e=>by cases e),R.rt]
 ok:=by
  intro g h w K b0 l vs x hok hl hr hd
  match l,hd with
  |a::r,hd=>
   simp only at hd
   split at hd
   ·rename_i x1 y1 hx hy
    simp at hd;subst hd
    match vs,hr with
    | [],hr=>have:=hr.1;simp at this
    |v::vs,hr=>exact bp.cons (C.Rr hok hl (fun e=>by cases e) hr.head hx) (R.ok hok hl hr.tail hy)
   ·cases hd
structure RC (α:Type) where
 E:Bool → α→AV
 D:Bool→Tr bh→AV→Option α
 ok:∀ {fr g h w K b0 a v x},Ok g h w→v7 g h K→(fr=true→b0≤g.b0)→Rel g w a v→D fr h a=some x→Rel (gK b0 K) w (E fr x) v
def RC.get {α:Type} (R:RC α) (fr:Bool) (h:Tr bh) (a:AV):Option α:=R.D fr h a
def r1 {α:Type} (C:dh α):RC α where
 E:=C.val
 D:=C.fq
 ok hok hl hb hr hd:=C.Rr hok hl hb hr hd
def H5 (a:AV):Option (List AV):=
 match a with
 |.ga l=>some l
 |.sc v=>match v with
  |.tuple vs=>some (vs.toList.map .sc)
  |_=>none
 |_=>none
theorem af8 {g w a v l} (hr:Rel g w a v) (h:H5 a=some l):∃ vs,v = .tuple vs∧bp g w l vs.toList:=by
 cases hr with
 |ga l' vs hs hh=>
  simp [H5] at h;subst h
  exact ⟨vs,rfl,⟨by simpa using hs,fun i a v ha hv=>hh i a v ha (by simpa using hv)⟩⟩
 |sc v=>
  cases v<;>simp [H5] at h
  subst h
  exact ⟨_,rfl,bp.C7 g w _⟩
 |_=>cases h
theorem agu {g w l} {vs:Array Value} (h:bp g w l vs.toList):Rel g w (.ga l) (.tuple vs):=
 .ga l vs (by simpa using h.1) (fun i a v ha hv=>h.2 i a v ha (by simpa using hv))
def r2 {α β:Type} (A:dh α) (B:dh β):RC (α × β) where
 E l p:=.ga [A.val l p.1,B.val l p.2]
 D fr h a:=match H5 a with
  |some [a,b]=>match A.fq fr h a,B.fq fr h b with
   |some x,some y=>some (x,y)
   |_,_=>none
  |_=>none
 ok:=by
  intro fr g h w K b0 a v x hok hl hb hr hd
  cases ht:H5 a with
  |none=>rw [ht] at hd;cases hd
  |some l=>
   rw [ht] at hd
   obtain ⟨vs,rfl,hrel⟩:=af8 hr ht
   match l,hd with
   | [a,b],hd=>
    simp only at hd
    split at hd
    ·rename_i x1 y1 hx hy
     simp at hd;subst hd
     obtain ⟨vl⟩:=vs
     match vl,hrel with
     | [u,v],hrel=>exact agu (bp.cons (A.Rr hok hl hb hrel.head hx) (bp.one (B.Rr hok hl hb hrel.tail.head hy)))
     | [],hrel=>have:=hrel.1;simp at this
     | [_],hrel=>have:=hrel.1;simp at this
     |_::_::_::_,hrel=>have:=hrel.1;simp at this
    ·cases hd
def r3 {α β γ:Type} (A:dh α) (B:dh β) (C:dh γ):RC (α × β × γ) where
 E l p:=.ga [A.val l p.1,B.val l p.2.1,C.val l p.2.2]
 D fr h a:=match H5 a with
  |some [a,b,c]=>match A.fq fr h a,B.fq fr h b,C.fq fr h c with
   |some x,some y,some z=>some (x,y,z)
   |_,_,_=>none
  |_=>none
 ok:=by
  intro fr g h w K b0 a v x hok hl hb hr hd
  cases ht:H5 a with
  |none=>rw [ht] at hd;cases hd
  |some l=>
   rw [ht] at hd
   obtain ⟨vs,rfl,hrel⟩:=af8 hr ht
   match l,hd with
   | [a,b,c],hd=>
    simp only at hd
    split at hd
    ·rename_i x1 y1 z1 hx hy hz
     simp at hd;subst hd
     obtain ⟨vl⟩:=vs
     match vl,hrel with
     | [u,v,t],hrel=>exact agu (bp.cons (A.Rr hok hl hb hrel.head hx) (bp.cons (B.Rr hok hl hb hrel.tail.head hy) (bp.one (C.Rr hok hl hb hrel.tail.tail.head hz))))
     | [],hrel=>have:=hrel.1;simp at this
     | [_],hrel=>have:=hrel.1;simp at this
     | [_,_],hrel=>have:=hrel.1;simp at this
     |_::_::_::_::_,hrel=>have:=hrel.1;simp at this
    ·cases hd
structure yz (w w':World):Prop where
 size:w.heap.size≤w'.heap.size
 heap:∀ b,b<w.heap.size→w'.heap[b]? = w.heap[b]?
 os:w'.os=w.os
 tape:w'.tape=w.tape
 output:w'.output=w.output
def Ju (K:Nat→Nat→Prop) (w w':World):Nat→Nat→Prop:=fun b j=>K b j∨(w.heap.size≤b∧b<w'.heap.size)
def aht (P:Program) (f:Nat) (vs:List Value) (w:World) (X:Value→World→Prop):Prop:=
 (∃ v,(callFunc f vs.toArray).run P w = .ok (.value v) w∧X v w) ∨
 ((callFunc f vs.toArray).run P w = .ok (.enter f vs.toArray) w∧Calls P f vs.toArray w (fun e w'=>∃ v,e = .returned v∧X v w'))
def bc (P:Program) (f:Nat) (args:List AV) (r:AV):Prop:=
 ∀ (K:Nat→Nat→Prop) (w:World) (vs:List Value),(∀ b j,K b j→b<w.heap.size)→bp (gK w.heap.size K) w args vs →
  aht P f vs w (fun v w'=>yz w w'∧Rel (gK w.heap.size (Ju K w w')) w' r v)
theorem U6 {P:Program} [KP P] {g w nt} {L:SL} {tmps:Array Value} {st:St} (hok:Ok g st.h w) (hs:gv g w nt L tmps):∀ (rs:List ResultVar) (l:List AV),ri P L st rs=some l →
 ∃ vs,(rs.mapM (ua tmps)).run P w = .ok vs w∧bp g w l vs:=by
 intro rs
 induction rs with
 |nil=>intro l h;simp [ri] at h;subst h;exact ⟨[],by simp,bp.nil _ _⟩
 |cons r rs ih=>
  intro l h
  cases r with
  |tmp t=>
   simp only [ri,Option.map_eq_some_iff] at h
   obtain ⟨l',h1,rfl⟩:=h
   obtain ⟨vs,h2,h3⟩:=ih l' h1
   refine ⟨tmps.getD t undef::vs,?_,bp.cons (hs.2 t) h3⟩
   simp only [List.mapM_cons,Sem.run_bind,ua,Sem.run_pure,Result.andThen_ok,h2]
  |cell c t=>
   simp only [ri] at h
   split at h
   ·rename_i v st' hl
    rw [Option.map_eq_some_iff] at h
    obtain ⟨l',h1,rfl⟩:=h
    obtain ⟨vs,h2,h3⟩:=ih l' h1
    have hrel:=hs.2 c
    have hptr:∃ ad,tmps.getD c undef = .pointer (some ad):=by
     generalize lk L c=x at hrel hl
     generalize tmps.getD c undef=v at hrel
     cases hrel<;>first|exact ⟨_,rfl⟩|cases hl
    obtain ⟨ad,had⟩:=hptr
    obtain ⟨u,h4,h5⟩:=ajr (P:=P) hok hrel hl had
    refine ⟨u::vs,?_,bp.cons h5 h3⟩
    have h6:(ua tmps (.cell c t)).run P w = .ok u w:=by simp [ua,had,asAddr,h4]
    simp only [List.mapM_cons,Sem.run_bind,h6,Result.andThen_ok,h2]
    rfl
   ·cases h
theorem Uo {P:Program} [KP P] {g w} {fn:Func} {tmps:Array Value} {l:List AV} {vs:List Value} (h:(fn.results.toList.mapM (ua tmps)).run P w = .ok vs w) (q4:bp g w l vs) :
 ∃ v,(results fn tmps).run P w = .ok v w∧Rel g w (pack l) v:=by
 have hmap:(fn.results.mapM (ua tmps)).run P w = .ok vs.toArray w:=by
  rw [Array.mapM_eq_mapM_toList]
  simp [h]
 rw [ah9]
 simp only [Sem.run_bind,hmap,Result.andThen_ok,Sem.run_pure]
 refine ⟨_,rfl,?_⟩
 match l,vs,q4 with
 | [a1],[v1],q4=>simpa [pack] using q4.head
 | [],[],q4=>simp [pack];exact .ga _ _ rfl (fun i a v h _=>by simp at h)
 |a1::a2::l,v1::v2::vs,q4=>
  simp [pack]
  exact .ga _ _ (by have:=q4.1;simp at this ⊢;omega) (fun i a v h1 h2=>q4.2 i a v h1 (by simpa using h2))
 | [],v::vs,q4=>have:=q4.1;simp at this
 |a::l,[],q4=>have:=q4.1;simp at this
 | [a1],v1::v2::vs,q4=>have:=q4.1;simp at this
 |a1::a2::l,[v1],q4=>have:=q4.1;simp at this
theorem Uh {P:Program} [KP P] {T:ec} (hT:ak P T) (hm:P.follows .mixedOrders=true) {f:Nat} {fn:Func} {body:Code} (hf:P.funcs[f]? = some fn) (hb:fn.body=some body) (he:nv P f=true) (hs:du fn.ntmps body=true)
 {args:List AV} (hl:args.length≤fn.ntmps) {ρ:Type} (R:RC ρ) (fr:Bool) (x : ρ)
 (h:wl P T 0 body (db P fn.results.toList (fun r st=>R.get fr st.h r=some x)) (cd 0 args) (bk [])):bc P f args (R.E fr x):=by
 intro K w vs hK hrel
 refine .inr ⟨ur he _ _,wk (ro:=none) (n:=0) (callsIn_of_wp_marks hf hb trivial ?_)⟩
 let B:fj:={ b0:=w.heap.size,w,K,O:=fun _=>False,aw:=0,pb:=fun _=>none,n0:=w.heap.size }
 have hcur:jh B (gK w.heap.size K) (bk []) w:=by
  refine ⟨⟨Nat.le_refl _,fun o x hx=>?_,fun o o' x x' b base base' _ hx=>?_,hK⟩,fun o _ _=>rfl,⟨rfl,(fun o ho=>(by rcases ho with ho|ho;cases ho;exact ho.elim)),fun _ _ h=>h,fun _ _ _=>rfl,Nat.le_refl _,rfl,rfl,rfl,fun _ _ _=>rfl,fun o b base ho=>?_,fun _ _ h=>.inl h,fun b cs e fr h=>⟨cs,fr,h,rfl⟩,fun b l h=>⟨l,h⟩,fun _ _ _ _ _ _=>rfl⟩,Nat.zero_le _⟩
  ·simp [bk,l5,Tr.get_nil] at hx
  ·simp [bk,l5,Tr.get_nil] at hx
  ·simp [bk,l5,Tr.get_nil] at ho
 refine wpIn_mono (aii hT hm (N:=0) (B:=B) (nt:=fn.ntmps) (fun _ h=>h) (by show (0:Nat)≤1000;omega) (Nat.le_refl _) body hs _ _ _ (gK w.heap.size K) w _ h hcur (Cc hrel hl) (Marks.nil _ _ _ _)) ?_
 rintro ex a w' ⟨e,L,st,g,rfl,hq,hc,hr,hd⟩
 have fin:E8 (ri P L st fn.results.toList) (fun r st=>R.get fr st.h r=some x) st→bodyPostM (g8 none) 0 P fn (fun e w'=>∃ v,e = .returned v∧yz w w'∧Rel (gK w.heap.size (Ju K w w')) w' (R.E fr x) v) .ret a w':=by
  intro hq
  show LeavesInM (g8 none) 0 P fn a.tmps _ a.defers .returning w'
  unfold E8 at hq
  cases hres:ri P L st fn.results.toList with
  |none=>rw [hres] at hq;exact hq.elim
  |some l=>
   rw [hres] at hq
   have hbs:=hc.base
   obtain ⟨bs,e1,e2,e3⟩:=hd
   have e1:=e1.trans (List.append_nil _)
   rw [e1]
   refine Ff (Good:=fun u=>Ok g st.h u∧yz w u∧(∀ a v,Rel g w' a v→Rel g u a v)∧u.heap.size=w'.heap.size) (S:=fun b=>w.heap.size≤b∧ia g st.h b) ?_ ?_ bs w'
    ⟨hc.ok,⟨hbs.size,fun b hlt=>hbs.frame b hlt (fun h=>h),hbs.os,hbs.tape,hbs.output⟩,fun _ _ h=>h,rfl⟩ e2 (fun b hb=>⟨⟨(e3 b hb).1,(e3 b hb).2.2⟩,(e3 b hb).2.1⟩)
   ·rintro u b ⟨g1,g2,g3,g4⟩ ⟨hb1,hb2⟩ hb3
    have hput:=Ok.E6 (ds':=none) g1 hb3 hb2
    exact ⟨hput.1,⟨by rw [lg];exact g2.size,fun c hc=>(ef u _ (by omega)).trans (g2.heap c hc),g2.os,g2.tape,g2.output⟩,fun a v h=>hput.2 a v (g3 a v h),by rw [lg];exact g4⟩
   ·rintro u ⟨g1,g2,g3,g4⟩
    obtain ⟨us,h1,h2⟩:=U6 (P:=P) g1 ⟨hr.1,fun t=>g3 _ _ (hr.2 t)⟩ fn.results.toList l hres
    obtain ⟨v,h3,h4⟩:=Uo h1 h2
    refine ⟨v,h3,v,rfl,g2,?_⟩
    refine R.ok g1 ⟨fun b j hk=>?_,fun o cells k s e ho b base hi j hj=>?_⟩ (fun _=>?_) h4 hq
    ·rcases hbs.oh b j hk with h5|h5|h5
     ·exact .inl h5
     ·exact .inr ⟨h5,g1.K b j hk⟩
     ·exact h5.elim
    ·obtain ⟨b',base',h5,_,h6⟩:=g1.obj o _ ho
     rw [hi] at h5;cases h5
     rcases hbs.own o b base (by rw [ho];rfl) hi with h7|h7
     ·exact .inr ⟨h7,h6.lt⟩
     ·exact h7.elim
    ·rw [hbs.b0];exact Nat.le_refl _
 cases e with
 |normal=>exact fin hq
 |ret=>exact fin hq
 |exit id=>exact hq.elim
theorem Rel.lift {b0 K g w a v} (h:Rel (gK b0 K) w a v) (hb:g.b0≤b0) (hK:∀ b j,K b j→g.K b j):Rel g w a v:=by
 have hno:∀ o p,(gK b0 K).inj o≠some p:=fun o p e=>by cases e
 generalize hg:gK b0 K=g0 at h hno
 have hK':∀ b j,g0.K b j→g.K b j:=by subst hg;exact hK
 have hb':g.b0≤g0.b0:=by subst hg;exact hb
 clear hg
 induction h with
 |sc x=>exact .sc x
 |agg l vs hs _ ih=>exact .agg l vs hs ih
 |ga l vs hs _ ih=>exact .ga l vs hs ih
 |vl loc sz es b off cap c hsz hl hcap h _ hw ih=>exact .vl loc sz es b off cap c hsz (fun e=>Nat.le_trans hb' (hl e)) hcap (fun j a hj=>⟨hK' _ _ (h j a hj).1,(h j a hj).2⟩) ih (fun e=>⟨fun j=>hK' _ _ ((hw e).K j),(hw e).rn,(hw e).none,(hw e).cm⟩)
 |j4 loc sz=>exact .j4 loc sz
 |qz loc sz a=>exact .qz loc sz a
 |sl o off len sz b base cap hi hc hm hr=>exact (hno _ _ hi).elim
 |sq o off sz a=>exact .sq o off sz a
 |tf o off sz=>exact .tf o off sz
 |ez a=>exact .ez a
 |ptr o off b base hi=>exact (hno _ _ hi).elim
 |ft l b off c h _ ih=>exact .ft l b off c (fun j a hj=>⟨hK' _ _ (h j a hj).1,(h j a hj).2⟩) ih
 |fn f first captured va vb hs _ hs' _ ih ih'=>exact .fn f first captured va vb hs ih hs' ih'
 |mp o b base hi=>exact (hno _ _ hi).elim
 |pd t a v _ ih=>exact .pd t a v ih
 |yl o b base hi=>exact (hno _ _ hi).elim
 |bad v=>exact .bad v
theorem Cr {l:List AV} (h:AV.fresh.go l=true):∀ a ∈ l,a.fresh=true:=by
 induction l with
 |nil=>intro a ha;cases ha
 |cons x l ih=>
  simp only [AV.fresh.go,Bool.and_eq_true] at h
  intro a ha
  rcases List.mem_cons.1 ha with rfl|ha
  ·exact h.1
  ·exact ih h.2 a ha
theorem aea {a:AV} (h:a.fresh=true):∀ c ∈ a.cells,c.fresh=true:=by
 cases a with
 |agg l=>exact Cr h
 |sc v=>intro c hc;simp only [AV.cells,List.mem_map] at hc;obtain ⟨x,_,rfl⟩:=hc;rfl
 |_=>intro c hc;simp only [AV.cells,List.mem_singleton] at hc;subst hc;exact h
theorem Rel.fresh {b0 K g w a v} (h:Rel (gK b0 K) w a v) (hf:a.fresh=true) (hb:g.b0≤b0) (hK:∀ b j,K b j→b0≤b→g.K b j):Rel g w a v:=by
 generalize hg:gK b0 K=g0 at h
 have hK':∀ b j,g0.K b j→g0.b0≤b→g.K b j:=by subst hg;exact hK
 have hb':g.b0≤g0.b0:=by subst hg;exact hb
 clear hg hb hK
 induction h with
 |sc x=>exact .sc x
 |agg l vs hs _ ih=>exact .agg l vs hs (fun i a v ha hv=>ih i a v ha hv (Cr hf a (List.mem_of_getElem? ha)))
 |ga l vs hs _ ih=>exact .ga l vs hs (fun i a v ha hv=>ih i a v ha hv (Cr hf a (List.mem_of_getElem? ha)))
 |vl loc sz es b off cap c hsz hl hcap h _ hw ih=>
  simp only [AV.fresh,Bool.and_eq_true] at hf
  have hbb:=hl hf.1
  refine .vl loc sz es b off cap c hsz (fun e=>Nat.le_trans hb' hbb) hcap (fun j a hj=>⟨hK' _ _ (h j a hj).1 hbb,(h j a hj).2⟩) (fun j a hj=>ih j a hj ?_) (fun e=>⟨fun j=>hK' _ _ ((hw e).K j) hbb,(hw e).rn,(hw e).none,(hw e).cm⟩)
  obtain ⟨e,he,hc⟩:=List.mem_flatMap.1 (List.mem_of_getElem? hj)
  exact aea (Cr hf.2 e he) a hc
 |j4 loc sz=>exact .j4 loc sz
 |qz loc sz a=>exact .qz loc sz a
 |sl o off len sz b base cap hi hc hm hr=>cases hf
 |sq o off sz a=>cases hf
 |tf o off sz=>cases hf
 |ez a=>exact .ez a
 |ptr o off b base hi=>cases hf
 |ft l b off c h _ ih=>cases hf
 |fn f first captured va vb hs _ hs' _ ih ih'=>
  simp only [AV.fresh,Bool.and_eq_true] at hf
  exact .fn f first captured va vb hs (fun i a v ha hv=>ih i a v ha hv (Cr hf.1 a (List.mem_of_getElem? ha))) hs' (fun i a v ha hv=>ih' i a v ha hv (Cr hf.2 a (List.mem_of_getElem? ha)))
 |mp o b base hi=>cases hf
 |pd t a v _ ih=>exact .pd t a v (ih hf)
 |yl o b base hi=>cases hf
 |bad v=>cases hf
def Gh.more (g:Gh) (w w':World):Gh:={ g with K:=Ju g.K w w' }
theorem Rk {g h w w'} {lo hi:Nat} (hok:Ok g h w) (q:yz w w'):Step g h w lo hi (g.more w w') h w'∧Ok (g.more w w') h w':=by
 have hext:Ext g w (g.more w w') w':=by
  refine ⟨rfl,fun _ _ h=>h,fun _ _ h=>.inl h,fun b j hj=>nq (q.heap b (hok.K b j hj)),fun b cs e fr hb=>⟨cs,fr,(q.heap b (bt hb)).trans hb,rfl⟩,fun b l hb=>⟨l,(q.heap b (bt hb)).trans hb⟩,fun b cs e fr hb _=>q.heap b (bt hb)⟩
 refine ⟨⟨hext,q.size,q.os,q.tape,q.output,fun b hb _=>q.heap b hb,fun _ h _=>h,fun o b base ho hi=>.inr ⟨o,base,ho,hi⟩,fun b j hk=>?_⟩,⟨Nat.le_trans hok.size q.size,fun o x hx=>?_,hok.sep,fun b j hk=>?_⟩⟩
 ·rcases hk with hk|hk
  ·exact .inl hk
  ·exact .inr (.inl hk.1)
 ·refine (hok.qi o x hx).imp id ?_
  rintro ⟨b,base,h1,h2,h3⟩
  refine ⟨b,base,h1,h2,h3.ext hext (q.heap b h3.lt) (fun j hk=>?_)⟩
  rcases hk with hk|hk
  ·exact hk
  ·have:=h3.lt;omega
 ·rcases hk with hk|hk
  ·exact Nat.lt_of_lt_of_le (hok.K b j hk) q.size
  ·exact hk.2
noncomputable def cx {α:Type} (A:AC α) (F : α→Option AV) (args:List AV):M AV:=fun st=>
 match A.get .nil args with
 |some x=>(F x).map fun r=>(r,st)
 |none=>
  match A.get st.h args with
  |some x=>
   match F x with
   |some r=>bif r.fresh then some (r,st) else some (r,{ st with h:=.nil })
   |none=>none
  |none=>none
theorem aj {P:Program} [KP P] {f:Nat} {α:Type} {A:AC α} {F : α→Option AV} (h:∀ x r,F x=some r→bc P f (A.E x) r) (args:List AV):Cf P f args (cx A F args):=by
 intro g st w vs r st' hok hfree hrel hm
 have go:∀ (X:Value→World→Prop),aht P f vs w X→(∀ v w',X v w'→yz w w'∧Rel (g.more w w') w' r v)→st'=st →
  (∃ v w' g',(callFunc f vs.toArray).run P w = .ok (.value v) w'∧Step g st.h w st.nx st'.nx g' st'.h w'∧Ok g' st'.h w'∧Rel g' w' r v) ∨
  ((callFunc f vs.toArray).run P w = .ok (.enter f vs.toArray) w∧Calls P f vs.toArray w (fun e w'=>∃ v g',e = .returned v∧Step g st.h w st.nx st'.nx g' st'.h w'∧Ok g' st'.h w'∧Rel g' w' r v)):=by
  intro X hx hX e
  subst e
  rcases hx with ⟨v,h1,h2⟩|⟨h1,h2⟩
  ·obtain ⟨q,hr⟩:=hX v w h2
   have:=Rk (lo:=st'.nx) (hi:=st'.nx) hok q
   exact .inl ⟨v,w,_,h1,this.1,this.2,hr⟩
  ·refine .inr ⟨h1,h2.mono ?_⟩
   rintro e w' ⟨v,rfl,h3⟩
   obtain ⟨q,hr⟩:=hX v w' h3
   have:=Rk (lo:=st'.nx) (hi:=st'.nx) hok q
   exact ⟨v,_,rfl,this.1,this.2,hr⟩
 unfold cx at hm
 cases h1:A.get .nil args with
 |some x=>
  rw [h1] at hm
  simp only [Option.map_eq_some_iff] at hm
  obtain ⟨r',h2,h3⟩:=hm
  cases h3
  have hargs:=A.ok (b0:=w.heap.size) (hok.part (hm:=.nil) (fun o x hx=>by rw [Tr.get_nil] at hx;cases hx)) (v7.nil g g.K (fun _ _ h=>h)) hrel h1
  refine go _ (h x r h2 g.K w vs hok.K hargs) (fun v w' hv=>⟨hv.1,hv.2.lift hok.size (fun b j hk=>hk)⟩) rfl
 |none=>
  rw [h1] at hm
  simp only at hm
  cases h2:A.get st.h args with
  |none=>rw [h2] at hm;cases hm
  |some x=>
   rw [h2] at hm
   simp only at hm
   cases h3:F x with
   |none=>rw [h3] at hm;cases hm
   |some r'=>
    rw [h3] at hm
    simp only at hm
    cases h4:r'.fresh with
    |false=>
     rw [h4] at hm
     cases hm
     obtain ⟨K1,eK⟩:∃ K1:Nat→Nat→Prop,(fun b j=>g.K b j∨((∃ o base,(st.h.get o).isSome=true∧g.inj o=some (b,base))∧b<w.heap.size))=K1:=⟨_,rfl⟩
     have hK1:∀ b j,K1 b j↔(g.K b j∨((∃ o base,(st.h.get o).isSome=true∧g.inj o=some (b,base))∧b<w.heap.size)):=fun b j=>by rw [← eK]
     have hK1s:∀ b j,K1 b j→b<w.heap.size:=fun b j hk=>((hK1 b j).1 hk).elim (hok.K b j) (fun q=>q.2)
     have hargs:=A.ok (b0:=w.heap.size) (K:=K1) hok ⟨fun b j hk=>(hK1 b j).2 (.inl hk),fun o cells k s e ho b base hi j hj=>by
      obtain ⟨b',base',h5,_,h6⟩:=hok.obj o _ ho
      rw [hi] at h5;cases h5
      exact (hK1 _ _).2 (.inr ⟨⟨o,base,by rw [ho];rfl,hi⟩,h6.lt⟩)⟩ hrel h2
     have fin:∀ (v:Value) (w':World),yz w w'∧Rel (gK w.heap.size (Ju K1 w w')) w' r v →
      Step g st.h w st.nx st.nx { g with K:=Ju K1 w w' } .nil w'∧Ok { g with K:=Ju K1 w w' } .nil w'∧Rel { g with K:=Ju K1 w w' } w' r v:=by
      rintro v w' ⟨q,hr⟩
      refine ⟨⟨⟨rfl,fun _ _ h=>h,fun b j h=>.inl ((hK1 b j).2 (.inl h)),fun b j hj=>nq (q.heap b (hok.K b j hj)),fun b cs e fr hb=>⟨cs,fr,(q.heap b (bt hb)).trans hb,rfl⟩,fun b l hb=>⟨l,(q.heap b (bt hb)).trans hb⟩,fun b cs e fr hb _=>q.heap b (bt hb)⟩,
       q.size,q.os,q.tape,q.output,fun b hb _=>q.heap b hb,fun _ h _=>h,fun o b base ho hi=>(by rw [Tr.get_nil] at ho;cases ho),fun b j hk=>?_⟩,
       ⟨Nat.le_trans hok.size q.size,fun o x hx=>(by rw [Tr.get_nil] at hx;cases hx),fun o o' x x' b base base' _ hx=>(by rw [Tr.get_nil] at hx;cases hx),fun b j hk=>?_⟩,hr.lift hok.size (fun b j hk=>hk)⟩
      ·rcases hk with hk|hk
       ·rcases (hK1 b j).1 hk with hk|⟨hk,_⟩
        ·exact .inl hk
        ·exact .inr (.inr hk)
       ·exact .inr (.inl hk.1)
      ·rcases hk with hk|hk
       ·exact Nat.lt_of_lt_of_le (hK1s b j hk) q.size
       ·exact hk.2
     rcases h x r h3 K1 w vs hK1s hargs with ⟨v,p1,p2⟩|⟨p1,p2⟩
     ·have q:=fin v w p2
      exact .inl ⟨v,w,_,p1,q.1,q.2.1,q.2.2⟩
     ·refine .inr ⟨p1,p2.mono ?_⟩
      rintro e w' ⟨v,rfl,p3⟩
      have q:=fin v w' p3
      exact ⟨v,_,rfl,q.1,q.2.1,q.2.2⟩
    |true=>
     rw [h4] at hm
     cases hm
     have hargs:=A.ok (b0:=w.heap.size) (K:=fun b _=>b<w.heap.size) hok ⟨fun b j hk=>hok.K b j hk,fun o cells k s e ho b base hi j hj=>by
      obtain ⟨b',base',h5,_,h6⟩:=hok.obj o _ ho
      rw [hi] at h5;cases h5
      exact h6.lt⟩ hrel h2
     refine go _ (h x r h3 (fun b _=>b<w.heap.size) w vs (fun _ _ h=>h) hargs) (fun v w' hv=>⟨hv.1,hv.2.fresh h4 hok.size (fun b j hk hle=>?_)⟩) rfl
     rcases hk with hk|hk
     ·omega
     ·exact .inr hk
theorem ak.nil (P:Program):ak P []:=fun f b m h=>by cases h
theorem ak.cons {P:Program} [KP P] {f:Nat} {b:Bool} {m:List AV→M AV} {T:ec} (h:∀ args,Cf P f args (m args)) (hT:ak P T):ak P ((f,b,m)::T):=by
 intro f' b' m' hf args
 simp only [ec.find] at hf
 by_cases e:f=f'
 ·subst e
  simp only [Nat.beq_refl,cond_true,Option.some.injEq] at hf
  cases hf
  exact h args
 ·rw [n8 e,cond_false] at hf
  exact hT f' b' m' hf args
def aj9 (g:Gh) (st:St) (w:World):fj:={ j6 g st.h w st.nx (fun _=>False) with n0:=w.heap.size }
theorem jh.ofC {g st w} (hok:Ok g st.h w) (hfr:∀ o,st.nx≤o→g.inj o=none):jh (aj9 g st w) g st w:=
 ⟨hok,fun o h1 _=>hfr o h1,⟨rfl,fun _o _ho=>rfl,fun _ _ h=>h,fun _ _ _=>rfl,Nat.le_refl _,rfl,rfl,rfl,fun _ _ _=>rfl,fun o _b base ho hi=>.inr (.inr ⟨o,base,ho,hi⟩),fun _ _ h=>.inl h,
  fun _b cs _e fr h=>⟨cs,fr,h,rfl⟩,fun _b l h=>⟨l,h⟩,fun _ _ _ _ _ _=>rfl⟩,Nat.le_refl _⟩
theorem jh.axc {g st w g' st' w'} (h:jh (aj9 g st w) g' st' w') (hfr:∀ o,st.nx≤o→g.inj o=none):Step g st.h w st.nx st'.nx g' st'.h w':=by
 have b:=h.base
 have pins:∀ o,o<st.nx→g'.inj o=g.inj o:=fun o ho=>b.pins o (.inl ho)
 refine ⟨⟨b.b0,fun o p hp=>?_,b.K,b.cell,b.rn,b.lp,b.whole⟩,b.size,b.os,b.tape,b.output,fun c hc hn=>b.frame c hc (fun hO=>?_),fun o ho hr=>?_,fun o c base ho hi=>?_,fun c j hk=>?_⟩
 ·by_cases h1:st.nx≤o
  ·rw [hfr o h1] at hp;cases hp
  ·rw [pins o (by omega)];exact hp
 ·rcases hO with hO|⟨o,base,h1,h2⟩
  ·exact hO
  ·exact hn o base h1 h2
 ·by_cases h1:o<st.nx
  ·rw [pins o h1];exact ho
  ·exact h.fresh o (by omega) (fun hf=>hf)
 ·rcases b.own o c base ho hi with h1|h1|h1
  ·exact .inl h1
  ·exact h1.elim
  ·exact .inr h1
 ·rcases b.oh c j hk with h1|h1|h1|h1
  ·exact .inl h1
  ·exact .inr (.inl h1)
  ·exact h1.elim
  ·exact .inr (.inr h1)
theorem c8 {P:Program} [KP P] {T:ec} (hT:ak P T) (hm:P.follows .mixedOrders=true) {f:Nat} {fn:Func} {body:Code} (hf:P.funcs[f]? = some fn) (hb:fn.body=some body) (he:nv P f=true) (hs:du fn.ntmps body=true)
 {args:List AV} (hl:Nat.ble args.length fn.ntmps=true) {st:St} (hp:Nat.ble st.nx 1000=true) {R:AV→St→Prop}
 (h:wl P T st.nx body (db P fn.results.toList R) (cd 0 args) st):xo P f args st R:=by
 intro g w vs hok hfr hrel
 refine .inr ⟨ur he _ _,wk (ro:=none) (n:=0) (callsIn_of_wp_marks hf hb trivial ?_)⟩
 have hcur:=jh.ofC (w:=w) hok hfr
 refine wpIn_mono (aii hT hm (N:=0) (B:=aj9 g st w) (nt:=fn.ntmps) (fun _ h=>h) (Nat.le_of_ble_eq_true hp) (Nat.le_refl _) body hs _ _ _ g w _ h hcur (Cc hrel (Nat.le_of_ble_eq_true hl)) (Marks.nil _ _ _ _)) ?_
 rintro ex a w' ⟨e,L,st',g',rfl,hq,hc,hr,hd⟩
 have fin:E8 (ri P L st' fn.results.toList) R st'→bodyPostM (g8 none) 0 P fn (fun e w'=>∃ v g' r st',e = .returned v∧R r st'∧st.nx≤st'.nx∧Step g st.h w st.nx st'.nx g' st'.h w'∧Ok g' st'.h w'∧Rel g' w' r v) .ret a w':=by
  intro hq
  show LeavesInM (g8 none) 0 P fn a.tmps _ a.defers .returning w'
  unfold E8 at hq
  cases hres:ri P L st' fn.results.toList with
  |none=>rw [hres] at hq;exact hq.elim
  |some l=>
   rw [hres] at hq
   obtain ⟨bs,e1,e2,e3⟩:=hd
   have e1:=e1.trans (List.append_nil _)
   rw [e1]
   refine Ff (Good:=fun u=>Ok g' st'.h u∧Step g st.h w st.nx st'.nx g' st'.h u∧(∀ a v,Rel g' w' a v→Rel g' u a v)) (S:=fun b=>w.heap.size≤b∧ia g' st'.h b) ?_ ?_ bs w'
    ⟨hc.ok,hc.axc hfr,fun _ _ h=>h⟩ e2 (fun b hb=>⟨⟨(e3 b hb).1,(e3 b hb).2.2⟩,(e3 b hb).2.1⟩)
   ·rintro u b ⟨g1,g2,g3⟩ ⟨hb1,hb2⟩ hb3
    have hput:=Ok.E6 (ds':=none) g1 hb3 hb2
    exact ⟨hput.1,Step.ap8 (ds':=none) hok g2 hb1,fun a v h=>hput.2 a v (g3 a v h)⟩
   ·rintro u ⟨g1,g2,g3⟩
    obtain ⟨us,h1,h2⟩:=U6 (P:=P) g1 ⟨hr.1,fun t=>g3 _ _ (hr.2 t)⟩ fn.results.toList l hres
    obtain ⟨v,h3,h4⟩:=Uo h1 h2
    exact ⟨v,h3,v,g',_,st',rfl,hq,hc.aw,g2,g1,h4⟩
 cases e with
 |normal=>exact fin hq
 |ret=>exact fin hq
 |exit id=>exact hq.elim
end
end Go.Vm
namespace Go.Vm
variable [TK]
noncomputable section
section code
variable (P : Program) (T : ec) (aw : Nat) (Q : QL) (L : SL) (st : St)
theorem agy:wl P T aw .skip Q L st=Q .normal L st:=id rfl
theorem V4 (i ops d):wl P T aw (.region i ops d) Q L st=Ct P T ops d (Q .normal) L st:=id rfl
theorem am7 (a b):wl P T aw (.seq a b) Q L st=wl P T aw a (Fb (wl P T aw b) Q) L st:=id rfl
theorem ag7 (c a b):wl P T aw (.cond c a b) Q L st=ti (dt L c) (wl P T aw a Q) (wl P T aw b Q) L st:=id rfl
theorem acm (i b):wl P T aw (.block i b) Q L st=wl P T aw b (Hh i Q) L st:=id rfl
theorem ahv (b):wl P T aw (.loop b) Q L st=qo aw (wl P T aw b) Q L st:=id rfl
theorem ahb (i):wl P T aw (.exit i) Q L st=Q (.exit i) L st:=id rfl
theorem ann:wl P T aw .ret Q L st=Q .ret L st:=id rfl
theorem amr (W):Fb W Q .normal L st=W Q L st:=id rfl
theorem ak0 (W i):Fb W Q (.exit i) L st=Q (.exit i) L st:=id rfl
theorem aoa (W):Fb W Q .ret L st=Q .ret L st:=id rfl
theorem amv (i):Hh i Q .normal L st=Q .normal L st:=id rfl
theorem ao3 (i):Hh i Q .ret L st=Q .ret L st:=id rfl
theorem anz (i j):Hh i Q (.exit j) L st=bif Nat.beq j i then Q .normal L st else Q (.exit j) L st:=id rfl
theorem af2 (keep X):uq aw keep X Q .normal L st=X (gi aw keep L st) (ep aw keep L st):=id rfl
theorem afx (keep X i):uq aw keep X Q (.exit i) L st=Q (.exit i) L st:=id rfl
theorem ahj (keep X):uq aw keep X Q .ret L st=Q .ret L st:=id rfl
theorem amf (rs R):db P rs R .normal L st=E8 (ri P L st rs) R st:=id rfl
theorem amq (rs R):db P rs R .ret L st=E8 (ri P L st rs) R st:=id rfl
theorem Wt (ops K):Ct P T ops false K L st=opsL P T ops ops.toList K L st:=id rfl
theorem Zu (ops K):opsL P T ops [] K L st=K L st:=id rfl
theorem Xh (ops o r K):opsL P T ops (o::r) K L st=wi ops o.guard (T0 P T o (opsL P T ops r K)) (Fw o.dst (opsL P T ops r K)) L st:=id rfl
theorem Y0 (ops K recs):Dh P T ops [] K recs L st=(eu (Region.before ops) 0 recs=true∧K L st):=id rfl
theorem V9 (ops o r K recs):Dh P T ops (o::r) K recs L st=wi ops o.guard (fv P T o recs (Dh P T ops r K)) (Fw o.dst (Dh P T ops r K (recs++[⟨[],[]⟩]))) L st:=id rfl
theorem Sh (ops X Y):wi ops none X Y L st=X L st:=id rfl
theorem Rn (ops j c X Y):wi ops (some (j,c)) X Y L st=C8 (lk L (tj ops j)) c X Y L st:=id rfl
theorem aak (b:Bool) (X Y:SL→St→Prop):C8 (.sc (.bool b)) true X Y L st=ti (.sc (.bool b)) X Y L st:=by cases b<;>simp [C8,zh,Az,Ej,ti,o8,AV.bool,AV.exact,nn]
theorem ab4 (b:Bool) (X Y:SL→St→Prop):C8 (.sc (.bool b)) false X Y L st=ti (.sc (.bool b)) Y X L st:=by cases b<;>simp [C8,zh,Az,Ej,ti,o8,AV.bool,AV.exact,nn]
theorem adr (c:Bool) (X Y:SL→St→Prop):C8 (.sc undef) c X Y L st=Y L st:=by simp [C8,zh,Az,Ej,AV.exact,undef]
theorem ag1 (o K):T0 P T o K L st=Fx (gx P T o (dt L) st) P o L st K:=id rfl
theorem Zh (v o K st'):Fx (some (v,st')) P o L st K=K (m4 o.dst v L) st':=id rfl
theorem abq (K d r):il K d L r st=K (m4 d r L) st:=id rfl
theorem ac6 (ro F o recs K v ff):Cz ro F o recs K L st (some (v,ff))=((Ew st.nx F=true∧Nat.ble ff.nx dk=true)∧same (pc st.h F) ff.h (bif ro then F else []) ∧
 K (recs++[⟨F,(bif ro then [] else F)++dx st.nx (ff.nx - st.nx)⟩]) (m4 o.dst v L) { h:=su ff.h (F++dx st.nx (ff.nx - st.nx)) st.h,nx:=ff.nx,rl:=[],wl:=[] }):=id rfl
theorem Vw (d K):Fw d K L st=K (m4 d (.sc undef) L) st:=id rfl
theorem cy (b X Y):ti (.sc (.bool b)) X Y L st=((b=true→X L st)∧(b=false→Y L st)):=id rfl
theorem F1 (X Y):ti (.sc (.bool true)) X Y L st=X L st:=by simp [ti,o8,AV.bool,AV.exact,nn]
theorem F6 (X Y):ti (.sc (.bool false)) X Y L st=Y L st:=by simp [ti,o8,AV.bool,AV.exact,nn]
theorem Wm (v d K):Gm (some (v,st)) d L K=K (m4 d v L) st:=id rfl
theorem Vn (d v):m4 (some d) v L=(d,v)::L:=id rfl
theorem Vo (v):m4 none v L=L:=id rfl
theorem aow (l R):E8 (some l) R st=R (pack l) st:=id rfl
theorem anx (d v):lk ((d,v)::L) d=v:=by simp [lk]
theorem ag9 (d t v) (h:(d == t)=false):lk ((d,v)::L) t=lk L t:=by
 have e:d≠t:=by simpa using h
 rw [s7,if_neg e]
theorem arw (t):dt L (.tmp t)=lk L t:=id rfl
theorem ar9 (v):dt L (.const v) = .sc v:=id rfl
theorem asn (f):dt L (.func f) = .sc (.func (.func f) #[] #[]):=id rfl
theorem al1:ri P L st []=some []:=id rfl
theorem alj (t r):ri P L st (.tmp t::r)=(ri P L st r).map (lk L t :: ·):=id rfl
theorem aoo (a t r):ri P L st (.cell a t::r)=match po P t (lk L a) st with|some (v,_)=>(ri P L st r).map (v :: ·)|none=>none:=id rfl
end code
section ops
variable (P : Program) (T : ec) (ρ : Operand → AV) (d : Option Tmp) (ty : TypeId) (pos : String) (af : Array Edge) (gd : Option (Nat × Bool))
theorem Ht (x):gx P T ⟨d,.move x,ty,pos,af,gd⟩ ρ=mono (M.pure (ρ x)):=id rfl
theorem C9 (x):gx P T ⟨d,.assign x,ty,pos,af,gd⟩ ρ=mono (M.pure (ρ x)):=id rfl
theorem Hb (t a):gx P T ⟨d,.load t a,ty,pos,af,gd⟩ ρ=mono (po P t (ρ a)):=id rfl
theorem ya (s x f):gx P T ⟨d,.fieldAddr s x f,ty,pos,af,gd⟩ ρ=mono (ql P s (ρ x) f):=id rfl
theorem Nx (op t x y u):gx P T ⟨d,.binOp op t x y u,ty,pos,af,gd⟩ ρ=mono (He P ρ ⟨d,.binOp op t x y u,ty,pos,af,gd⟩ op t x y):=id rfl
theorem Hs (c a b):gx P T ⟨d,.pick c a b,ty,pos,af,gd⟩ ρ=mono (Dc (ρ c) (ρ a) (ρ b)):=id rfl
theorem Fj (t a x):gx P T ⟨d,.store t a x,ty,pos,af,gd⟩ ρ=mono (um P t (ρ a) (ρ x)):=id rfl
theorem It (t i):gx P T ⟨d,.extract t i,ty,pos,af,gd⟩ ρ=mono (wz (ρ t) i):=id rfl
theorem x9 (t x i):gx P T ⟨d,.indexAddr t x i,ty,pos,af,gd⟩ ρ=mono (qe P t (ρ x) (ρ i)):=id rfl
theorem Am (x):gx P T ⟨d,.nilCheck x,ty,pos,af,gd⟩ ρ=mono (od (ρ x)):=id rfl
theorem M1 (t):gx P T ⟨d,.alloc t,ty,pos,af,gd⟩ ρ=mono (zq P t):=id rfl
theorem Vh (t x):gx P T ⟨d,.box t x,ty,pos,af,gd⟩ ρ=mono (G1 t (ρ x)):=id rfl
theorem E9 (t ps):gx P T ⟨d,.build t ps,ty,pos,af,gd⟩ ρ=mono (wt P t (ps.toList.map fun p=>(p.1,ρ p.2))):=id rfl
theorem v9 (t n ps):gx P T ⟨d,.buildSlice t n ps,ty,pos,af,gd⟩ ρ=mono (nc P t n (ps.toList.map fun p=>(p.1,ρ p.2))):=id rfl
theorem Es (t l c):gx P T ⟨d,.makeSlice t l c,ty,pos,af,gd⟩ ρ=mono (sw P t (ρ l) (ρ c)):=id rfl
theorem F0 (f a b):gx P T ⟨d,.makeFunc f a b,ty,pos,af,gd⟩ ρ=mono (M.pure (.fn f (a.toList.map ρ) (b.toList.map ρ))):=id rfl
theorem B0 (s u x):gx P T ⟨d,.convert s u x,ty,pos,af,gd⟩ ρ=mono (tu P ρ ⟨d,.convert s u x,ty,pos,af,gd⟩ s u (ρ x)):=id rfl
theorem Ol (s x f):gx P T ⟨d,.field s x f,ty,pos,af,gd⟩ ρ=mono (Cn P s (ρ x) f):=id rfl
theorem Ng (t x i):gx P T ⟨d,.index t x i,ty,pos,af,gd⟩ ρ=mono (zk P ρ ⟨d,.index t x i,ty,pos,af,gd⟩ t x i):=id rfl
theorem M5 (t x l h m):gx P T ⟨d,.slice t x l h m,ty,pos,af,gd⟩ ρ=mono (z8 P ρ ⟨d,.slice t x l h m,ty,pos,af,gd⟩ t x l h m):=id rfl
theorem J8 (x ts):gx P T ⟨d,.call { callee:=.builtin .len,args:=#[x],argTypes:=ts },ty,pos,af,gd⟩ ρ=mono (tm ((ts[0]?).bind P.underlying) (ρ x)):=id rfl
theorem Dv (s x ts):gx P T ⟨d,.call { callee:=.builtin .append,args:=#[s,x],argTypes:=ts },ty,pos,af,gd⟩ ρ=mono (oz P ts[0]? ((ts[1]?).bind P.underlying) (ρ s) (ρ x)):=id rfl
theorem Qk (f args ts):gx P T ⟨d,.call { callee:=.value f,args,argTypes:=ts },ty,pos,af,gd⟩ ρ=u9 T (ρ f) (args.toList.map ρ):=id rfl
end ops
section monad
variable {α β : Type} (s : St)
theorem ar1 (m:M α):mono m s=match m s with|none=>none|some (a,s')=>bif decide (s.nx≤s'.nx) then some (a,s') else none:=by
 have:∀ a b,Nat.ble a b=decide (a≤b):=fun a b=>by rw [Bool.eq_iff_iff];simp
 unfold mono
 cases m s with
 |none=>rfl
 |some p=>simp only [this]
theorem arx (m:M α) (f : α→M β):(m.bind f) s=match m s with|none=>none|some (a,s')=>f a s':=id rfl
theorem asa (a : α):(M.pure a) s=some (a,s):=id rfl
theorem asp:(M.fail:M α) s=none:=id rfl
theorem asv (a : α):(M.of (some a)) s=some (a,s):=id rfl
theorem ar7 (b:Bool) (m m':M α):(bif b then m else m') s=bif b then m s else m' s:=by cases b<;>rfl
theorem ar4 (o:Nat):ed o s=match s.h.get o with|some x=>some (x,{ s with rl:=o::s.rl })|none=>none:=id rfl
theorem asq (x:bh):lx x s=bif decide (s.nx≤dk) then some (s.nx,{ s with h:=s.h.set depth s.nx (some x),nx:=s.nx+1,wl:=s.nx::s.wl }) else none:=by
 have:Nat.ble s.nx dk=decide (s.nx≤dk):=by rw [Bool.eq_iff_iff];simp
 unfold lx;rw [this]
theorem asi (o:Nat) (x:bh):qh o x s=match s.h.get o with|some _=>bif decide (o≤dk) then some ((),{ s with h:=s.h.set depth o (some x),wl:=o::s.wl }) else none|none=>none:=by
 have:Nat.ble o dk=decide (o≤dk):=by rw [Bool.eq_iff_iff];simp
 unfold qh;rw [this];rfl
theorem asd (o:Nat):Hq o s=match s.h.get o with|some _=>bif decide (o≤dk) then some ((),{ s with h:=s.h.set depth o none,wl:=o::s.wl }) else none|none=>none:=by
 have:Nat.ble o dk=decide (o≤dk):=by rw [Bool.eq_iff_iff];simp
 unfold Hq;rw [this];rfl
theorem acj (t:Tr bh) (n m:Nat) (x:Option bh) (h:n≤16777214):(Tr.set depth t n x).get m=if m=n then x else t.get m:=i7 t n m x h
theorem ac5 (n:Nat):(Tr.nil:Tr bh).get n=none:=id rfl
theorem apw (a b:Nat):Nat.ble a b=decide (a≤b):=by rw [Bool.eq_iff_iff];simp
theorem awo (a b:Nat):Nat.blt a b=decide (a<b):=by rw [Bool.eq_iff_iff];simp
theorem aix (a b:Nat):Nat.beq a b=decide (a=b):=by rw [Bool.eq_iff_iff];simp
end monad
theorem M3 {a:AV} {x y x' y':Prop} (h1:x→x') (h2:y→y') (h:o8 a x y):o8 a x' y':=by
 unfold o8 at *
 split at h
 ·exact ⟨fun e=>h1 (h.1 e),fun e=>h2 (h.2 e)⟩
 ·exact h.elim
theorem yi {ops L gd} {x y x' y':Prop} (h1:x→x') (h2:y→y') (h:guarded ops L gd x y):guarded ops L gd x' y':=by
 unfold guarded at *
 split at h
 ·exact h1 h
 ·unfold zh at *
  split at h
  ·exact ⟨fun e=>h1 (h.1 e),fun e=>h2 (h.2 e)⟩
  ·exact h.elim
theorem xo.mono {P f args st} {R R':AV→St→Prop} (h:∀ r st,R r st→R' r st) (hc:xo P f args st R):xo P f args st R':=by
 intro g w vs h1 h2 h3
 rcases hc g w vs h1 h2 h3 with ⟨v,w',g',r,st',q1,q2,q3⟩|⟨q1,q2⟩
 ·exact .inl ⟨v,w',g',r,st',q1,h _ _ q2,q3⟩
 ·refine .inr ⟨q1,q2.mono ?_⟩
  rintro e w' ⟨v,g',r,st',p1,p2,p3⟩
  exact ⟨v,g',r,st',p1,h _ _ p2,p3⟩
theorem ah3 {P o L st} {K K':SL→St→Prop} (h:∀ L st,K L st→K' L st) (hc:Mb P o L st K):Mb P o L st K':=by
 unfold Mb aif at *
 split at hc
 ·split at hc
  ·exact xo.mono (fun r st hk=>h _ _ hk) hc
  ·exact hc.elim
 ·exact hc.elim
theorem Ep {P T ops} {K K':SL→St→Prop} (h:∀ L st,K L st→K' L st):∀ (l:List Oper) (L:SL) (st:St),opsL P T ops l K L st→opsL P T ops l K' L st
 | [],L,st,hh=>h L st hh
 |o::r,L,st,hh=>yi (fun q=>by
  unfold T0 Fx at *
  split at q
  ·exact Ep h r _ _ q
  ·exact ah3 (fun L st=>Ep h r L st) q) (fun q=>Ep h r _ _ q) hh
theorem Ed {P T ops} {K K':SL→St→Prop} (h:∀ L st,K L st→K' L st):∀ (l:List Oper) (recs:List Rec) (L:SL) (st:St),Dh P T ops l K recs L st→Dh P T ops l K' recs L st
 | [],recs,L,st,hh=>⟨hh.1,h L st hh.2⟩
 |o::r,recs,L,st,hh=>yi (fun q=>by
  unfold fv kh Cz at *
  split at q
  ·exact ⟨q.1,q.2.1,Ed h r _ _ _ q.2.2⟩
  ·exact q.elim) (fun q=>Ed h r _ _ _ q) hh
theorem Ea {P T ops} {K K':SL→St→Prop} (h:∀ L st,K L st→K' L st):∀ (l:List Oper) (recs:List Rec) (L:SL) (st:St),Kh P T ops l K recs L st→Kh P T ops l K' recs L st
 | [],recs,L,st,hh=>⟨hh.1,h L st hh.2⟩
 |o::r,recs,L,st,hh=>yi (fun q=>Qh (fun _ _ _ k=>Ea h r _ _ _ k) q) (fun q=>Ea h r _ _ _ q) hh
theorem xj {P T l aw ops} {R:Gp} (hR:∀ p args (X X':Ex→St→Prop) st,(∀ e st,X e st→X' e st)→R p args X st→R p args X' st) {K K':Option Ex→SL→St→Prop} (h:∀ pe L st,K pe L st→K' pe L st) :
 ∀ (ls:List Oper) (pe:Option Ex) (L:SL) (st:St),Dw P T l R aw ops ls K pe L st→Dw P T l R aw ops ls K' pe L st
 | [],pe,L,st,hh=>h pe L st hh
 |o::r,pe,L,st,hh=>yi (fun q=>by
  unfold opI T9 at *
  split at q
  ·unfold Gm at *
   split at q
   ·exact xj hR h r _ _ _ q
   ·exact q.elim
  ·obtain ⟨h0,keep,q⟩:=q
   refine ⟨h0,keep,hR _ _ _ _ _ (fun e st q=>?_) q⟩
   cases e with
   |normal=>exact xj hR h r _ _ _ q
   |ret=>exact xj hR h r _ _ _ q
   |exit id=>exact xj hR h r _ _ _ q) (fun q=>xj hR h r _ _ _ q) hh
theorem O3 {P:Program} {T:ec} {l aw:Nat} {R:Gp} (hR:∀ p args (X X':Ex→St→Prop) st,(∀ e st,X e st→X' e st)→R p args X st→R p args X' st) :
 ∀ (c:Code) (Q Q':QI),(∀ e pe L st,Q e pe L st→Q' e pe L st)→∀ pe L st,oa P T l R aw c Q pe L st→oa P T l R aw c Q' pe L st:=by
 intro c
 induction c with
 |skip=>intro Q Q' h pe L st hh;exact h _ _ _ _ hh
 |label l=>intro Q Q' h pe L st hh;exact h _ _ _ _ hh
 |exit i=>intro Q Q' h pe L st hh;exact h _ _ _ _ hh
 |ret=>intro Q Q' h pe L st hh;exact h _ _ _ _ hh
 |region i ops draw=>
  intro Q Q' h pe L st hh
  cases draw with
  |false=>exact xj hR (h _) _ _ _ _ hh
  |true=>exact ⟨hh.1,hh.2.imp (Ed (h _ _) _ _ _ _) (Ea (h _ _) _ _ _ _)⟩
 |seq a b iha ihb=>
  intro Q Q' h pe L st hh
  refine iha _ _ ?_ pe L st hh
  intro e pe L st q
  cases e with
  |normal=>exact ihb _ _ h pe L st q
  |_=>exact h _ _ _ _ q
 |cond c a b iha ihb=>intro Q Q' h pe L st hh;exact M3 (iha _ _ h pe L st) (ihb _ _ h pe L st) hh
 |block i b ih=>
  intro Q Q' h pe L st hh
  refine ih _ _ ?_ pe L st hh
  intro e pe L st q
  cases e with
  |exit j=>
   simp only [Ow] at *
   cases hb:Nat.beq j i with
   |true=>rw [hb] at q;exact h _ _ _ _ q
   |false=>rw [hb] at q;exact h _ _ _ _ q
  |_=>exact h _ _ _ _ q
 |loop b ih=>
  intro Q Q' h pe L st hh
  obtain ⟨h0,keep,hh⟩:=hh
  refine ⟨h0,keep,fun X hX=>hh X fun vs os q=>hX vs os (ih _ _ ?_ _ _ _ q)⟩
  intro e pe L st q
  cases e with
  |normal=>exact q
  |_=>exact h _ _ _ _ q
 |scope b ih=>intro _ _ _ _ _ _ hh;exact hh.elim
 |rangeFunc=>intro _ _ _ _ _ _ hh;exact hh.elim
 |goto=>intro _ _ _ _ _ _ hh;exact hh.elim
 |refuse=>intro _ _ _ _ _ _ hh;exact hh.elim
theorem aqe {P:Program} {T:ec}:∀ (c:Code) (aw:Nat) (Q Q':QL),(∀ e L st,Q e L st→Q' e L st)→∀ L st,wl P T aw c Q L st→wl P T aw c Q' L st:=by
 intro c
 induction c with
 |skip=>intro aw Q Q' h L st hh;exact h _ _ _ hh
 |label l=>intro aw Q Q' h L st hh;exact h _ _ _ hh
 |exit i=>intro aw Q Q' h L st hh;exact h _ _ _ hh
 |ret=>intro aw Q Q' h L st hh;exact h _ _ _ hh
 |region i ops draw=>
  intro aw Q Q' h L st hh
  cases draw with
  |false=>exact Ep (h _) _ _ _ hh
  |true=>exact ⟨hh.1,hh.2.imp (Ed (h _) _ _ _ _) (Ea (h _) _ _ _ _)⟩
 |seq a b iha ihb=>
  intro aw Q Q' h L st hh
  refine iha _ _ _ ?_ L st hh
  intro e L st q
  cases e with
  |normal=>exact ihb _ _ _ h L st q
  |_=>exact h _ _ _ q
 |cond c a b iha ihb=>intro aw Q Q' h L st hh;exact M3 (iha _ _ _ h L st) (ihb _ _ _ h L st) hh
 |block i b ih=>
  intro aw Q Q' h L st hh
  refine ih _ _ _ ?_ L st hh
  intro e L st q
  cases e with
  |exit j=>
   simp only [Hh] at *
   cases hb:Nat.beq j i with
   |true=>rw [hb] at q;exact h _ _ _ q
   |false=>rw [hb] at q;exact h _ _ _ q
  |_=>exact h _ _ _ q
 |loop b ih=>
  intro aw Q Q' h L st hh
  obtain ⟨keep,hh⟩:=hh
  refine ⟨keep,fun X hX=>hh X fun vs os q=>hX vs os (ih _ _ _ ?_ _ _ q)⟩
  intro e L st q
  cases e with
  |normal=>exact q
  |_=>exact h _ _ _ q
 |scope b ih=>intro aw Q Q' h L st hh;exact ih _ _ _ h L st hh
 |rangeFunc f ps a b iha ihb=>
  intro aw Q Q' h L st hh
  obtain ⟨keep,h0,hh⟩:=hh
  refine ⟨keep,h0,?_⟩
  unfold Ja at *
  split at hh
  ·unfold Jm at *
   split at hh
   ·refine ⟨hh.1,fun l=>O3 (fun p args X X' st hX hr=>⟨hr.1,hr.2.1,iha _ _ _ (fun e L st q=>(by
     cases e with
     |normal=>exact ihb _ _ _ (fun e _ st q=>hX e st q) _ _ q
     |_=>exact q.elim)) _ _ hr.2.2⟩) _ _ _ (fun e pe L st q=>(by
     cases e with
     |exit id=>exact q.elim
     |normal=>
      cases pe with
      |none=>exact h _ _ _ q
      |some e=>exact h _ _ _ q
     |ret=>
      cases pe with
      |none=>exact h _ _ _ q
      |some e=>exact h _ _ _ q)) _ _ _ (hh.2 l)⟩
   ·exact hh.elim
  ·exact hh.elim
 |goto=>intro _ _ _ _ _ _ hh;exact hh.elim
 |refuse=>intro _ _ _ _ _ _ hh;exact hh.elim
theorem Ai {P:Program} {T:ec} {aw:Nat} (c:Code) (Q Q':QL) (h:∀ e L st,Q e L st→Q' e L st) (L:SL) (st:St) (hh:wl P T aw c Q L st):wl P T aw c Q' L st:=aqe c aw Q Q' h L st hh
theorem dp {α:Type} {P:Program} {T:ec} {aw:Nat} {b:Code} {Q:QL} {L:SL} {st:St} (keep:List Nat) (V : α→List AV) (O : α→List (Option bh)) (I : α→Prop) (μ : α→Nat) (x : α) (hx:I x)
 (hv:gi aw keep L st=V x) (ho:ep aw keep L st=O x)
 (step:∀ x,I x→wl P T aw b (uq aw keep (fun vs os=>∃ y,I y ∧ μ y < μ x∧vs=V y∧os=O y) Q) (gu keep (V x)) (bk (O x))):qo aw (wl P T aw b) Q L st:=
 qo.of keep V O I μ x hx hv ho (fun _ _ h=>Ai b _ _ h) step
section cods
theorem k7 {α:Type} (C:dh α) (l:Bool) (xs:List α):(br C).val l xs = .vl l C.sz (xs.map (C.val l)):=id rfl
theorem zw {α:Type} (C:dh α):(br C).sz=1:=id rfl
theorem V7:ai.sz=1:=id rfl
theorem adx:bg.sz=1:=id rfl
theorem Eo:cw.sz=1:=id rfl
theorem xe:cg.sz=1:=id rfl
theorem wq (k:IntKind):(ba k).sz=1:=id rfl
theorem Cd:az.sz=1:=id rfl
theorem A9 (l:Bool) (x:UInt8):bg.val l x = .sc (.int .u8 x.toNat):=id rfl
theorem Rm (l:Bool) (x:UInt16):cw.val l x = .sc (.int .u16 x.toNat):=id rfl
theorem Sd (l:Bool) (x:UInt32):cg.val l x = .sc (.int .u32 x.toNat):=id rfl
theorem Sq (k:IntKind) (l:Bool) (x:Int):(ba k).val l x = .sc (.int k x):=id rfl
theorem Oh (l:Bool) (x:Bool):az.val l x = .sc (.bool x):=id rfl
theorem aho (o i:Nat):idx [] o i=none:=id rfl
theorem Zt {α:Type} (C:dh α) (τ:Nat→Option Nat) (l:Bool):AV.dr τ ∘ C.val l=C.val l:=by funext x;exact Lv C τ l x
theorem Q8 (l:Bool) (x:ByteArray):ai.val l x = .sc (.string x):=id rfl
theorem wc {α:Type} (C:dh α) (fr:Bool) (h:Tr bh) (a:AV) (h1:a.known=true) (h2:a.isAgg=C.agg):C.fq fr h a=C.dec fr h a.cells:=by
 unfold dh.fq;rw [h1,h2];simp
theorem Wy (fr:Bool) (h:Tr bh) (n:UInt32):cg.fq fr h (.sc (.int .u32 n.toNat))=some n:=cg.Jv fr h true n (fun _=>rfl)
theorem Vi (fr:Bool) (h:Tr bh) (n:UInt16):cw.fq fr h (.sc (.int .u16 n.toNat))=some n:=cw.Jv fr h true n (fun _=>rfl)
theorem Sl (k:IntKind) (fr:Bool) (h:Tr bh) (n:Int):(ba k).fq fr h (.sc (.int k n))=some n:=(ba k).Jv fr h true n (fun _=>rfl)
theorem Nw (fr:Bool) (h:Tr bh) (b:Bool):az.fq fr h (.sc (.bool b))=some b:=az.Jv fr h true b (fun _=>rfl)
theorem P3 (fr:Bool) (h:Tr bh) (s:ByteArray):ai.fq fr h (.sc (.string s))=some s:=ai.Jv fr h true s (fun _=>rfl)
theorem z5 {α:Type} (C:dh α) (fr:Bool) (h:Tr bh) (a:AV) (h1:a.known=true) (h2:a.isAgg=false) (h3:a.cells=[a]):(br C).fq fr h a=ij C fr h a:=by
 rw [wc _ _ _ _ h1 h2,h3];rfl
theorem as6 {α:Type} (C:dh α) (fr:Bool) (h:Tr bh) (l:Bool) (xs:List α) (hl:(l || !fr)=true):(br C).fq fr h (.vl l C.sz (xs.map (C.val l)))=some xs:=by
 refine (br C).Jv fr h l xs ?_
 cases fr<;>simp_all
theorem sx {α:Type} (C:dh α) (fr:Bool) (h:Tr bh) (l:Bool) (xs:List α) (n:Nat) (hn:n=C.sz) (hl:(l || !fr)=true):ij C fr h (.vl l n (xs.map (C.val l)))=some xs:=by
 subst hn
 have:(br C).fq fr h (.vl l C.sz (xs.map (C.val l)))=some xs:=as6 C fr h l xs hl
 rwa [z5 C fr h _ rfl rfl rfl] at this
theorem agl {α:Type} (C:dh α) (fr:Bool) (h:Tr bh) (o off len n:Nat):ij C fr h (.sl o off len n)=bif decide (n=C.sz) then (h.get o).bind (kq C fr h off len) else none:=by
 show (bif Nat.beq n C.sz then _ else _)=_
 rw [aix]
theorem Rw {α:Type} (C:dh α) (fr:Bool) (h:Tr bh) (off len:Nat) (cells:List AV) (k s:Nat) (e:TypeId) :
 kq C fr h off len (.row cells k s e)=bif decide (off+len * C.sz≤cells.length) && vy fr C.sz C.kd s off cells.length len e then vi C fr h len ((cells.drop off).take (len * C.sz)) else none:=by
 show (bif Nat.ble _ _ && _ then _ else _)=_
 rw [apw]
theorem aft (sz kd st off len n et):vy false sz kd st off len n et=true:=id rfl
theorem ami {α:Type} (C:dh α) (fr:Bool) (h:Tr bh) (n:Nat) (l:List AV):vi C fr h (n+1) l=match C.dec fr h (l.take C.sz),vi C fr h n (l.drop C.sz) with|some x,some xs=>some (x::xs)|_,_=>none:=id rfl
theorem ak4 {α:Type} (C:dh α) (fr:Bool) (h:Tr bh) (l:List AV):vi C fr h 0 l=some []:=id rfl
theorem Ss (fr:Bool) (h:Tr bh) (n:Int) (h0 : 0≤n) (h1:n<256):bg.dec fr h [.sc (.int .u8 n)]=some (UInt8.ofNat n.toNat):=by
 show u8V (.int .u8 n)=_;simp [u8V,h0,h1]
theorem avk {α β:Type} (A:dh α) (B:dh β) (l:Bool) (p : α × β):(r2 A B).E l p = .ga [A.val l p.1,B.val l p.2]:=id rfl
theorem au0 {α:Type} (A:dh α) (l:Bool) (x : α):(r1 A).E l x=A.val l x:=id rfl
theorem acp (T:ec) (g:Nat) (a b:Array Value) (args:List AV):u9 T (.sc (.func (.func g) a b)) args=tk T g (a.toList.map .sc++args++b.toList.map .sc):=id rfl
theorem ack (T:ec) (g:Nat) (a b:List AV) (args:List AV):u9 T (.fn (.func g) a b) args=tk T g (a++args++b):=id rfl
theorem Vs (f:Nat) (b:Bool) (m:List AV→M AV) (T:ec) (args:List AV):tk ((f,b,m)::T) f args=mono (m args):=by simp [tk,ec.find]
theorem S4 (f g:Nat) (b:Bool) (m:List AV→M AV) (T:ec) (args:List AV) (h:(f == g)=false):tk ((f,b,m)::T) g args=tk T g args:=by
 have:f≠g:=by simpa using h
 simp [tk,ec.find,n8 this]
theorem acq {α:Type} (A:AC α) (F : α→Option AV) (args:List AV) (st:St):cx A F args st=match A.get .nil args with|some x=>(F x).map fun r=>(r,st)|none=>match A.get st.h args with|some x=>(match F x with|some r=>bif r.fresh then some (r,st) else some (r,{ st with h:=.nil })|none=>none)|none=>none:=id rfl
theorem awf {α β:Type} (A:dh α) (B:dh β) (fr:Bool) (h:Tr bh) (a b:AV):(r2 A B).get fr h (.ga [a,b])=match A.fq fr h a,B.fq fr h b with|some x,some y=>some (x,y)|_,_=>none:=id rfl
theorem awe (h:Tr bh):a0.get h []=some ():=id rfl
theorem av5 {α β:Type} (C:dh α) (R:AC β) (h:Tr bh) (a:AV) (r:List AV):(aC C R).get h (a::r)=match C.fq false h a,R.get h r with|some x,some y=>some (x,y)|_,_=>none:=id rfl
theorem avw {α:Type} (A:dh α) (fr:Bool) (h:Tr bh) (a:AV):(r1 A).get fr h a=A.fq fr h a:=id rfl
end cods
section
variable (P : Program)
theorem Wd (pl:Nat→Option (Nat × Nat)) (cells:List AV):th pl cells []=some cells:=id rfl
theorem Q4 (pl:Nat→Option (Nat × Nat)) (cells:List AV) (i:Nat) (v:AV) (rest:List (Nat × AV)):th pl cells ((i,v)::rest)=match pl i with
 |none=>none
 |some (off,size)=>bif !v.known || !(Nat.beq v.cells.length size) || !(Nat.ble (off+size) cells.length) then none else th pl (cells.take off++v.cells++cells.drop (off+size)) rest:=id rfl
def vp (t:TypeId):Option (List AV × List (Nat × Nat)):=
 match fh P t,P.underlying t with
 |some z,some (.struct fields)=>(Gq P fields).map fun pl=>(z.cells.toList.map .sc,pl)
 |_,_=>none
theorem Qq (t:TypeId) (ps:List (Nat × AV)):wt P t ps=match vp P t with
 |some (z,pl)=>.of ((th (fun i=>pl[i]?) z ps).map .agg)
 |none=>wt P t ps:=by
 cases hb:vp P t with
 |none=>rfl
 |some q=>
  obtain ⟨z,pl⟩:=q
  simp only [vp] at hb
  split at hb
  ·rename_i z' fs hz hu
   cases hp:Gq P fs with
   |none=>simp [hp] at hb
   |some pl'=>
    simp [hp] at hb
    obtain ⟨rfl,rfl⟩:=hb
    simp [wt,hz,hu,hp]
  ·cases hb
def zr (t:TypeId):Option (TypeId × Nat × List AV):=
 match ny P t with
 |none=>none
 |some e=>
  match dj P e,fh P e with
  |some sz,some z=>bif Nat.beq z.cells.size sz then some (e,sz,z.cells.toList.map .sc) else none
  |_,_=>none
theorem Ev (t:TypeId) (len:Nat) (ps:List (Nat × AV)):nc P t len ps=match zr P t with
 |some (e,sz,z)=>
  match th (fun i=>some (i * sz,sz)) (List.replicate len z).flatten ps with
  |some cells=>bif Nat.ble (len * sz) 16777216 && Nat.ble len 16777216 then sh e sz len cells else .fail
  |none=>.fail
 |none=>nc P t len ps:=by
 cases hb:zr P t with
 |none=>rfl
 |some q=>
  obtain ⟨e,sz,z⟩:=q
  simp only [zr] at hb
  split at hb
  ·cases hb
  ·rename_i e' he
   split at hb
   ·rename_i sz' z' hs hz
    cases hq:Nat.beq z'.cells.size sz' with
    |false=>simp [hq] at hb
    |true=>
     simp [hq] at hb
     obtain ⟨rfl,rfl,rfl⟩:=hb
     simp only [nc,he,hs,hz,hq,Bool.and_true]
     rfl
   ·cases hb
end
section ranges
variable (P : Program) (T : ec) (l aw : Nat) (R : Gp) (Q : QI) (pe : Option Ex) (L : SL) (st : St)
theorem Zl (f:Operand) (ps:Array Tmp) (a b:Code) (Q:QL):wl P T aw (.rangeFunc f ps a b) Q L st=an8 P T f ps.toList (fun p=>wl P T p a) (fun p=>wl P T p b) aw Q L st:=id rfl
theorem aa8:oa P T l R aw .skip Q pe L st=Q .normal pe L st:=id rfl
theorem Sj (i:Nat) (ops:Array Oper):oa P T l R aw (.region i ops false) Q pe L st=Dw P T l R aw ops ops.toList (Q .normal) pe L st:=id rfl
theorem ahh (a b:Code):oa P T l R aw (.seq a b) Q pe L st=oa P T l R aw a (aa1 (oa P T l R aw b) Q) pe L st:=id rfl
theorem Z6 (c:Operand) (a b:Code):oa P T l R aw (.cond c a b) Q pe L st=A3 (dt L c) (oa P T l R aw a Q) (oa P T l R aw b Q) pe L st:=id rfl
theorem Vk (i:Nat) (a:Code):oa P T l R aw (.block i a) Q pe L st=oa P T l R aw a (Ow i Q) pe L st:=id rfl
theorem Z5 (i:Nat):oa P T l R aw (.exit i) Q pe L st=Q (.exit i) pe L st:=id rfl
theorem agk:oa P T l R aw .ret Q pe L st=Q .ret pe L st:=id rfl
theorem anq (W:QI→Option Ex→SL→St→Prop):aa1 W Q .normal pe L st=W Q pe L st:=id rfl
theorem am8 (W:QI→Option Ex→SL→St→Prop) (i:Nat):aa1 W Q (.exit i) pe L st=Q (.exit i) pe L st:=id rfl
theorem alo (W:QI→Option Ex→SL→St→Prop):aa1 W Q .ret pe L st=Q .ret pe L st:=id rfl
theorem anr (i:Nat):Ow i Q .normal pe L st=Q .normal pe L st:=id rfl
theorem anp (i:Nat):Ow i Q .ret pe L st=Q .ret pe L st:=id rfl
theorem amt (i j:Nat):Ow i Q (.exit j) pe L st=if j=i then Q .normal pe L st else Q (.exit j) pe L st:=by
 show (bif Nat.beq j i then _ else _)=_
 rw [aix];by_cases h:j=i<;>simp [h]
theorem afv (Q':QL):x7 Q' Q .normal pe L st=(pe=none∧Q' .normal L st):=id rfl
theorem age (Q':QL) (i:Nat):x7 Q' Q (.exit i) pe L st=Q (.exit i) pe L st:=id rfl
theorem agr (Q':QL):x7 Q' Q .ret pe L st=Q .ret pe L st:=id rfl
theorem agh (Q:QL) (L0:SL):Zf Q L0 .normal none L st=Q .normal L0 st:=id rfl
theorem af4 (Q:QL) (L0:SL) (e:Ex):Zf Q L0 .ret (some e) L st=Q e L0 st:=id rfl
theorem aai (ops:Array Oper) (K:Option Ex→SL→St→Prop):Dw P T l R aw ops [] K pe L st=K pe L st:=id rfl
theorem Vf (ops:Array Oper) (o:Oper) (r:List Oper) (K:Option Ex→SL→St→Prop):Dw P T l R aw ops (o::r) K pe L st=G4 ops o.guard (opI P T l R aw o (Dw P T l R aw ops r K)) (U1 o.dst (Dw P T l R aw ops r K)) pe L st:=id rfl
theorem Ry (ops:Array Oper) (X Y:Option Ex→SL→St→Prop):G4 ops none X Y pe L st=X pe L st:=id rfl
theorem Re (ops:Array Oper) (j:Nat) (c:Bool) (X Y:Option Ex→SL→St→Prop):G4 ops (some (j,c)) X Y pe L st=adh (lk L (tj ops j)) c X Y pe L st:=id rfl
theorem abt (b:Bool) (X Y:Option Ex→SL→St→Prop):adh (.sc (.bool b)) true X Y pe L st=A3 (.sc (.bool b)) X Y pe L st:=by cases b<;>simp [adh,zh,Az,Ej,A3,o8,AV.bool,AV.exact,nn]
theorem ag0 (X Y:Option Ex→SL→St→Prop):A3 (.sc (.bool true)) X Y pe L st=X pe L st:=by simp [A3,o8,AV.bool,AV.exact,nn]
theorem agd (X Y:Option Ex→SL→St→Prop):A3 (.sc (.bool false)) X Y pe L st=Y pe L st:=by simp [A3,o8,AV.bool,AV.exact,nn]
theorem qu (b:Bool) (X Y:Option Ex→SL→St→Prop):A3 (.sc (.bool b)) X Y pe L st=((b=true→X pe L st)∧(b=false→Y pe L st)):=by simp [A3,o8,AV.bool,AV.exact,nn]
theorem Sm (d:Option Tmp) (K:Option Ex→SL→St→Prop):U1 d K pe L st=K pe (m4 d (.sc undef) L) st:=id rfl
theorem anv (o:Oper) (K:Option Ex→SL→St→Prop):opI P T l R aw o K pe L st=T9 P T R aw o K pe L st (yieldOf l o L):=id rfl
theorem aox (o:Oper) (K:Option Ex→SL→St→Prop):T9 P T R aw o K pe L st none=Gm (gx P T o (dt L) st) o.dst L (K pe):=id rfl
theorem adk (d:Option Tmp) (K:Option Ex→SL→St→Prop):aba d L K .normal st=K none (m4 d (.sc (.bool true)) L) st:=id rfl
theorem Y8 (d:Option Tmp) (K:Option Ex→SL→St→Prop):aba d L K .ret st=K (some .ret) (m4 d (.sc (.bool false)) L) st:=id rfl
theorem agi (B:QL→SL→St→Prop) (X:Ex→St→Prop):arz B X .normal L st=B (fun e _ st=>X e st) L st:=id rfl
theorem Wu (k:Nat) (va vb:Array Value):zu l (.sc (.func (.yield k) va vb))=(Nat.beq k l && Nat.beq va.size 0 && Nat.beq vb.size 0):=id rfl
theorem Nc:Af [] [] L=L:=id rfl
theorem J0 (t:Nat) (ts:List Nat) (v:AV) (vs:List AV):Af (t::ts) (v::vs) L=Af ts vs ((t,v)::L):=id rfl
theorem aqm {α:Type} {b:Code} (keep:List Nat) (V : α→List AV) (O : α→List (Option bh)) (I : α→Prop) (μ : α→Nat) (x : α) (hx:I x) (hR:∀ p args (X X':Ex→St→Prop) st,(∀ e st,X e st→X' e st)→R p args X st→R p args X' st)
 (hv:gi aw keep L st=V x) (ho:ep aw keep L st=O x)
 (step:∀ x,I x→oa P T l R aw b (x7 (uq aw keep (fun vs os=>∃ y,I y ∧ μ y < μ x∧vs=V y∧os=O y) (fun _ _ _=>False)) Q) none (gu keep (V x)) (bk (O x))):oa P T l R aw (.loop b) Q none L st:=
 ⟨rfl,qo.of (B:=fun Q' L st=>oa P T l R aw b (x7 Q' Q) none L st) keep V O I μ x hx hv ho (fun Q1 Q2 h L st hh=>O3 hR b _ _ (fun e pe L st q=>by
  cases e with
  |normal=>exact ⟨q.1,h _ _ _ q.2⟩
  |ret=>exact q
  |exit i=>exact q) none L st hh) step⟩
theorem Nl {ps:List Tmp} {a b:Code} {L0:SL}:∀ p args (X X':Ex→St→Prop) st,(∀ e st,X e st→X' e st)→mb ps (fun p=>wl P T p a) (fun p=>wl P T p b) L0 p args X st→mb ps (fun p=>wl P T p a) (fun p=>wl P T p b) L0 p args X' st:=
 fun p args X X' st hX hr=>⟨hr.1,hr.2.1,Ai _ _ _ (fun e L st q=>by
  cases e with
  |normal=>exact Ai _ _ _ (fun e _ st q=>hX e st q) _ _ q
  |_=>exact q.elim) _ _ hr.2.2⟩
end ranges
section yields
variable {lp : Nat} {L : SL} {d : Option Tmp} {ty : TypeId} {pos : String} {af : Array Edge} {gd : Option (Nat × Bool)}
theorem Kv (x):yieldOf lp ⟨d,.move x,ty,pos,af,gd⟩ L=none:=id rfl
theorem Gf (x):yieldOf lp ⟨d,.assign x,ty,pos,af,gd⟩ L=none:=id rfl
theorem K0 (t a):yieldOf lp ⟨d,.load t a,ty,pos,af,gd⟩ L=none:=id rfl
theorem B7 (s x f):yieldOf lp ⟨d,.fieldAddr s x f,ty,pos,af,gd⟩ L=none:=id rfl
theorem Ir (op t x y u):yieldOf lp ⟨d,.binOp op t x y u,ty,pos,af,gd⟩ L=none:=id rfl
theorem Jq (c a b):yieldOf lp ⟨d,.pick c a b,ty,pos,af,gd⟩ L=none:=id rfl
theorem Ix (t a x):yieldOf lp ⟨d,.store t a x,ty,pos,af,gd⟩ L=none:=id rfl
theorem B6 (t x i):yieldOf lp ⟨d,.indexAddr t x i,ty,pos,af,gd⟩ L=none:=id rfl
theorem Ia (t):yieldOf lp ⟨d,.alloc t,ty,pos,af,gd⟩ L=none:=id rfl
theorem Jf (op t x):yieldOf lp ⟨d,.unOp op t x,ty,pos,af,gd⟩ L=none:=id rfl
theorem N8 (x ts):yieldOf lp ⟨d,.call { callee:=.builtin .len,args:=#[x],argTypes:=ts },ty,pos,af,gd⟩ L=none:=id rfl
theorem Kp (f:Operand) (args:Array Operand) (ts:Array TypeId):yieldOf lp ⟨d,.call { callee:=.value f,args:=args,argTypes:=ts },ty,pos,af,gd⟩ L=bif zu lp (dt L f) then some args else none:=id rfl
end yields
end
end Go.Vm
namespace Go.Vm
variable [TK]
noncomputable section
abbrev Name:=List ByteArray
structure bo where
 names:List Name
 nums:List UInt32
 texts:List ByteArray
 raw:List UInt8
def mkD (a:List Name) (b:List UInt32) (c:List ByteArray) (e:List UInt8):bo:=⟨a,b,c,e⟩
theorem afu (d:bo):mkD d.names d.nums d.texts d.raw=d:=id rfl
noncomputable def aq:dh Name:=br ai
noncomputable def ay:dh bo:=yj (jq (br aq) (jq (br cg) (jq aq (br bg)))) (fun d=>(d.names,d.nums,d.texts,d.raw)) (fun p=>⟨p.1,p.2.1,p.2.2.1,p.2.2.2⟩) (fun _=>rfl) (fun _=>rfl)
theorem cq (l:Bool) (n:Name):aq.val l n = .vl l 1 (n.map (ai.val l)):=id rfl
theorem rr:aq.sz=1:=id rfl
theorem Hr:ay.sz=4:=id rfl
theorem fy (l:Bool) (d:bo):ay.val l d = .agg [.vl l 1 (d.names.map (aq.val l)),.vl l 1 (d.nums.map (cg.val l)),.vl l 1 (d.texts.map (ai.val l)),.vl l 1 (d.raw.map (bg.val l))]:=id rfl
theorem M4 (fr:Bool) (h:Tr bh) (x1 x2 x3 x4:AV) :
 ay.fq fr h (.agg [x1,x2,x3,x4])=match ij aq fr h x1,ij cg fr h x2,ij ai fr h x3,ij bg fr h x4 with
  |some a,some b,some c,some e=>some (mkD a b c e)
  |_,_,_,_=>none:=by
 rw [wc _ _ _ _ rfl rfl]
 have h1:ay.dec fr h (AV.agg [x1,x2,x3,x4]).cells=Option.map (fun p=>(⟨p.1,p.2.1,p.2.2.1,p.2.2.2⟩:bo)) ((jq (br aq) (jq (br cg) (jq aq (br bg)))).dec fr h [x1,x2,x3,x4]):=rfl
 have d2:∀ {α β:Type} (A:dh α) (B:dh β) (l:List AV),(jq A B).dec fr h l=match A.dec fr h (l.take A.sz),B.dec fr h (l.drop A.sz) with|some x,some y=>some (x,y)|_,_=>none:=fun _ _ _=>rfl
 have l1:∀ {α:Type} (C:dh α) (x:AV),(br C).dec fr h [x]=ij C fr h x:=fun _ _=>rfl
 have n1:∀ x,aq.dec fr h [x]=ij ai fr h x:=fun _=>rfl
 rw [h1]
 simp only [d2,zw,rr,List.take_succ_cons,List.take_zero,List.drop_succ_cons,List.drop_zero,l1,n1]
 cases ij aq fr h x1<;>cases ij cg fr h x2<;>cases ij ai fr h x3<;>cases ij bg fr h x4<;>rfl
theorem Kl {α:Type} (C:dh α) (fr:Bool) (h:Tr bh) (l:Bool) (n:Nat) (es:List AV):(br C).fq fr h (.vl l n es)=ij C fr h (.vl l n es):=z5 C fr h _ rfl rfl rfl
theorem K9 {α:Type} (C:dh α) (fr:Bool) (h:Tr bh) (o off len n:Nat):(br C).fq fr h (.sl o off len n)=ij C fr h (.sl o off len n):=z5 C fr h _ rfl rfl rfl
theorem B4 {α:Type} (C:dh α) (fr:Bool) (h:Tr bh):(br C).fq fr h (.sc (.slice none 0 0))=some []:=by
 rw [z5 C fr h _ rfl rfl rfl];rfl
theorem Ey (fr:Bool) (h:Tr bh) (l:Bool) (n:Nat) (es:List AV):aq.fq fr h (.vl l n es)=ij ai fr h (.vl l n es):=z5 ai fr h _ rfl rfl rfl
theorem E0 (fr:Bool) (h:Tr bh) (o off len n:Nat):aq.fq fr h (.sl o off len n)=ij ai fr h (.sl o off len n):=z5 ai fr h _ rfl rfl rfl
theorem D2 (fr:Bool) (h:Tr bh):aq.fq fr h (.sc (.slice none 0 0))=some []:=B4 ai fr h
theorem Dm (l:List UInt8):l.map Ao=l.map (bg.val false):=id rfl
theorem J4 {α:Type} (C:dh α) (b:Bool) (l:List α):AV.names.go (l.map (C.val b))=[]:=Fe (fun c hc=>by
 obtain ⟨x,_,rfl⟩:=List.mem_map.1 hc
 exact J2 C b x)
theorem vo:∀ (l:List UInt8) (b:Bool),bytesOf (l.map (bg.val b))=some l
 | [],_=>rfl
 |c::l,b=>by
  rw [List.map_cons,A9,bytesOf,vo l b]
  simp
end
end Go.Vm
section
namespace Go.Vm.Cx
open Go.Vm
variable [TK]
noncomputable section
theorem Bc {P:Program} (w:World):∀ (ns:List Int) (a:Addr) (i:Nat) (acc:ByteArray),(∀ (j:Nat) x,ns[j]? = some x→(load (a.add (i+j))).run P w = .ok (.int .u8 x) w) →
 (Extern.Bytes.loadBytes (a.add i) ns.length acc).run P w = .ok ⟨acc.data++(ns.map fun n=>UInt8.ofNat n.toNat).toArray⟩ w
 | [],a,i,acc,_=>by simp [Extern.Bytes.loadBytes]
 |x::l,a,i,acc,h=>by
  have h0:=h 0 x rfl
  rw [Nat.add_zero] at h0
  have e:(a.add i).add 1=a.add (i+1):=by
   unfold Addr.add
   by_cases hj:i=0
   ·subst hj;simp
   ·simp [hj];omega
  have ih:=Bc (P:=P) w l a (i+1) (acc.push x.toNat.toUInt8) (fun j y hy=>by
   have:=h (j+1) y (by simpa using hy)
   rw [show i+1+j=i+(j+1) from by omega];exact this)
  simp only [List.length_cons,Extern.Bytes.loadBytes,Sem.run_bind,h0,Result.andThen]
  rw [e,ih]
  congr 1
  apply ByteArray.ext
  simp [ByteArray.push,Nat.toUInt8]
theorem U4 {l:List Int} {l':List Value} (h:l'=l.map (Value.int .u8)) (j:Nat) (x:Int) (hx:l[j]? = some x):l'[j]? = some (.int .u8 x):=by rw [h,List.getElem?_map,hx];rfl
theorem Bj {P:Program} {g st ff w} {a:AV} {v:Value} {l:List AV} {bs:List UInt8} (hok:Ok g st.h w) (hr:Rel g w a v) (h:cellsIn 1 a st=some (l,ff)) (hb:bytesOf l=some bs) :
 (Extern.Bytes.bytesOf v).run P w = .ok ⟨bs.toArray⟩ w:=by
 obtain ⟨_,_,n,news,hsrc,hrl⟩:=uz (P:=P) hok hr h
 obtain ⟨ns,e1,e2⟩:=Ch _ _ _ hrl hb
 obtain ⟨r1,r2⟩:=hsrc.run w rfl
 cases v with
 |slice p len cap=>
  have hn:n=len:=by simp [Builtin.lenOf] at r1;exact r1.symm
  subst hn
  cases p with
  |none=>
   have:news=[]:=by simpa [Builtin.firstCells] using r2
   subst this
   have:ns=[]:=by simpa using e1.symm
   subst this
   subst e2
   rfl
  |some a=>
   simp only [Builtin.firstCells,Nat.mul_one] at r2
   unfold loadCells at r2
   obtain ⟨l',q1,q2,q3⟩:=loadCellsFrom_ok a n 0 #[] _ _ r2
   have hl':l'=news:=by simpa using q2.symm
   subst hl'
   have hlen:ns.length=n:=by rw [← q1,e1,List.length_map]
   have:=Bc (P:=P) w ns a 0 .empty (fun j x hx=>by
    exact q3 j _ (U4 e1 j x hx))
   rw [hlen] at this
   have e0:a.add 0=a:=by simp [Addr.add]
   rw [e0] at this
   show (Extern.Bytes.loadBytes a n .empty).run P w=_
   rw [this,e2]
   congr 2
   simp [ByteArray.empty,ByteArray.emptyWithCapacity]
   rfl
 |string s=>
  have hn:n=s.size:=by simp [Builtin.lenOf] at r1;exact r1.symm
  subst hn
  simp only [Builtin.firstCells,Sem.run_pure,Result.ok.injEq,and_true] at r2
  have h1:=congrArg Array.toList r2
  rw [e1] at h1
  show Result.ok s w=_
  congr 1
  apply ByteArray.ext
  apply Array.ext'
  rw [e2]
  have h2:=congrArg (List.map fun v:Value=>match v with|.int _ n=>UInt8.ofNat n.toNat|_=>0) h1
  simp only [List.map_map,Array.toList_map] at h2
  have h3:(s.extract 0 s.size).data.toList=s.data.toList:=by simp
  rw [h3] at h2
  have h4:(List.map ((fun v:Value=>match v with|.int _ n=>UInt8.ofNat n.toNat|_=>0) ∘ fun b:UInt8=>Value.int .u8 (b.toNat:Int)) s.data.toList)=s.data.toList:=by
   rw [show ((fun v:Value=>match v with|.int _ n=>UInt8.ofNat n.toNat|_=>0) ∘ fun b:UInt8=>Value.int .u8 (b.toNat:Int))=id from by funext b;simp]
   simp
  rw [h4] at h2
  rw [h2]
  simp
 |_=>simp [Builtin.lenOf,stuck] at r1
def aw0 (args:List AV):M AV:=
 match args with
 | [a]=>.pure a
 |_=>.fail
def kc (args:List AV):M AV:=
 match args with
 | [a,b]=>(cellsIn 1 a).bind fun x=>(cellsIn 1 b).bind fun y=>
  match bytesOf x with
  |some x=>
   match bytesOf y with
   |some y=>.pure (.sc (goInt (Lib.compareBytes x y)))
   |none=>.fail
  |none=>.fail
 |_=>.fail
def dy {α:Type} (m:M α):Prop:=∀ st v ff,m st=some (v,ff)→ff.h=st.h∧ff.nx=st.nx
theorem dy.pure {α:Type} (a : α):dy (M.pure a):=fun st v ff h=>by cases h;exact ⟨rfl,rfl⟩
theorem dy.fail {α:Type}:dy (M.fail:M α):=fun st v ff h=>by cases h
theorem dy.bind {α β:Type} {m:M α} {f : α→M β} (hm:dy m) (h:∀ x,dy (f x)):dy (m.bind f):=fun st v ff hb=>by
 obtain ⟨x,s1,h1,h2⟩:=bind_some hb
 have h3:=hm _ _ _ h1
 have h4:=h x _ _ _ h2
 exact ⟨h4.1.trans h3.1,h4.2.trans h3.2⟩
theorem dy.ed (id:Nat):dy (Vm.ed id):=fun _st _v _st1 h=>(gb h).2
theorem dy.cond {α:Type} {b:Bool} {x y:M α} (hx:dy x) (hy:dy y):dy (bif b then x else y):=by cases b<;>assumption
theorem dy.cellsIn (sz:Nat) (v:AV):dy (Vm.cellsIn sz v):=by
 unfold Vm.cellsIn C3
 repeat' (first|exact dy.pure _|exact dy.fail|apply dy.cond|(refine dy.bind (dy.ed _) fun x=>?_)|split)
theorem zm (args:List AV):dy (kc args):=by
 unfold kc;split
 ·exact dy.bind (dy.cellsIn _ _) fun x=>dy.bind (dy.cellsIn _ _) fun y=>by
   split
   ·split
    ·exact dy.pure _
    ·exact dy.fail
   ·exact dy.fail
 ·exact dy.fail
theorem D0 {P:Program} {f:Nat} {fn:Func} (hf:P.funcs[f]? = some fn) (h1:(fn.name == "runtime.NumGoroutine")=false) (h2:fn.body.isNone=true) (h3:Extern.findNext fn=none) (h4:Extern.find fn=some Extern.BytealgCompare.compare) (args:List AV) :
 Cf P f args (kc args):=by
 intro g st w vs r st' hok hfree hrel hm
 refine .inl ?_
 have hst:=zm _ _ _ _ hm
 unfold kc at hm
 split at hm
 ·rename_i a c
  obtain ⟨x,s1,e1,hm⟩:=bind_some hm
  obtain ⟨y,s2,e2,hm⟩:=bind_some hm
  cases hx:bytesOf x with
  |none=>rw [hx] at hm;cases hm
  |some bx=>
  cases hy:bytesOf y with
  |none=>rw [hx,hy] at hm;cases hm
  |some yb=>
  rw [hx,hy] at hm
  cases hm
  have hh:=dy.cellsIn _ _ _ _ _ e1
  match vs,hrel with
  | [v,u],hrel=>
   have r1:=Bj (P:=P) hok hrel.head e1 hx
   have r2:=Bj (P:=P) (st:=s1) (by rw [hh.1];exact hok) hrel.tail.head e2 hy
   refine ⟨goInt (Lib.compareBytes bx yb),w,g,?_,?_,?_,.sc _⟩
   ·rw [run_callFunc_extern hf h1 h2 h3 h4]
    have:(Extern.BytealgCompare.compare #[v,u]).run P w = .ok (goInt (Lib.compareBytes bx yb)) w:=by
     change Sem.run P (do pure (goInt (Extern.BytealgCompare.cmp (← Extern.Bytes.bytesOf v) (← Extern.Bytes.bytesOf u)))) w=_
     simp only [Sem.run_bind,r1,r2,Result.andThen,Sem.run_pure]
     rw [Lib.cmp_eq]
    show ((Extern.BytealgCompare.compare #[v,u]).run P w).andThen _=_
    rw [this]
    rfl
   ·rw [hst.1,hst.2];exact .refl _ _ _ _ _
   ·rw [hst.1];exact hok
  | [],hrel=>have:=hrel.1;simp at this
  | [v],hrel=>have:=hrel.1;simp at this
  |_::_::_::_,hrel=>have:=hrel.1;simp at this
 ·cases hm
end
end Go.Vm.Cx
end
section
set_option linter.unnecessarySimpa false
namespace Go.Vm
variable [TK]
noncomputable section
def roT (o:Option (Bool × (List AV→M AV))):Bool:=match o with|some (b,_)=>b|none=>false
theorem ase (b m):roT (some (b,m))=b:=id rfl
theorem ee {o:Oper} {L:SL} {x:Operand} (h:x ∈ o.op.operands):di o L x=dt L x:=by
 cases x with
 |tmp t=>
  show (bif o.op.operands.any (fun x=>match x with|.tmp u=>Nat.beq u t|_=>false) then lk L t else .bad)=lk L t
  have:o.op.operands.any (fun x=>match x with|.tmp u=>Nat.beq u t|_=>false)=true:=by
   rw [Array.any_eq_true']
   exact ⟨_,h,by simp⟩
  rw [this];rfl
 |const v=>rfl
 |global g=>rfl
 |func f=>rfl
theorem gw {o:Oper} {L:SL} {l:List Operand} (h:∀ x ∈ l,x ∈ o.op.operands):l.map (di o L)=l.map (dt L):=List.map_congr_left fun x hx=>ee (h x hx)
theorem Nf {o:Oper} {L:SL} {l:List (Nat × Operand)} (h:∀ x ∈ l,x.2 ∈ o.op.operands):l.map (fun p=>(p.1,di o L p.2))=l.map (fun p=>(p.1,dt L p.2)):=List.map_congr_left fun x hx=>by rw [ee (h x hx)]
def fk (ro:Bool) (F:List Nat) (o:Oper) (recs:List Rec) (K:List Rec→SL→St→Prop) (L:SL) (st:St) (m:M AV):Prop:=Cz ro F o recs K L st (m { h:=pc st.h F,nx:=st.nx,rl:=[],wl:=[] })
theorem V1 (ro F o recs K L st m):fk ro F o recs K L st m=Cz ro F o recs K L st (m { h:=pc st.h F,nx:=st.nx,rl:=[],wl:=[] }):=id rfl
section ops
variable (P : Program) (T : ec) (L : SL) (st : St) (recs : List Rec) (K : List Rec → SL → St → Prop) (d : Option Tmp) (ty : TypeId) (pos : String) (af : Array Edge) (gd : Option (Nat × Bool))
theorem Z8 (x):fv P T ⟨d,.move x,ty,pos,af,gd⟩ recs K L st=fk (true) ([]) ⟨d,.move x,ty,pos,af,gd⟩ recs K L st (mono (M.pure (dt L x))):=by
 unfold fv kh ln fk
 simp only [jd,cond_true]
 have hm:∀ y,y ∈ ([x]:List Operand)→di ⟨d,.move x,ty,pos,af,gd⟩ L y=dt L y:=fun y hy=>ee (by simpa [Op.operands,Call.operands] using hy)
 have hmap:([x]:List Operand).map (di ⟨d,.move x,ty,pos,af,gd⟩ L)=([x]:List Operand).map (dt L):=gw (fun y hy=>by simpa [Op.operands,Call.operands] using hy)
 have ho:(⟨d,.move x,ty,pos,af,gd⟩:Oper).op.operands.toList=[x]:=by simp [Op.operands,Call.operands]
 rw [Ht,hm x (by simp)]
 rfl
theorem Rc (x):fv P T ⟨d,.assign x,ty,pos,af,gd⟩ recs K L st=fk (true) ([]) ⟨d,.assign x,ty,pos,af,gd⟩ recs K L st (mono (M.pure (dt L x))):=by
 unfold fv kh ln fk
 simp only [jd,cond_true]
 have hm:∀ y,y ∈ ([x]:List Operand)→di ⟨d,.assign x,ty,pos,af,gd⟩ L y=dt L y:=fun y hy=>ee (by simpa [Op.operands,Call.operands] using hy)
 have hmap:([x]:List Operand).map (di ⟨d,.assign x,ty,pos,af,gd⟩ L)=([x]:List Operand).map (dt L):=gw (fun y hy=>by simpa [Op.operands,Call.operands] using hy)
 have ho:(⟨d,.assign x,ty,pos,af,gd⟩:Oper).op.operands.toList=[x]:=by simp [Op.operands,Call.operands]
 rw [C9,hm x (by simp)]
 rfl
theorem ab8 (t a):fv P T ⟨d,.load t a,ty,pos,af,gd⟩ recs K L st=fk (true) ((dt L a).names) ⟨d,.load t a,ty,pos,af,gd⟩ recs K L st (mono (po P t (dt L a))):=by
 unfold fv kh ln fk
 simp only [jd,cond_false]
 have hm:∀ y,y ∈ ([a]:List Operand)→di ⟨d,.load t a,ty,pos,af,gd⟩ L y=dt L y:=fun y hy=>ee (by simpa [Op.operands,Call.operands] using hy)
 have hmap:([a]:List Operand).map (di ⟨d,.load t a,ty,pos,af,gd⟩ L)=([a]:List Operand).map (dt L):=gw (fun y hy=>by simpa [Op.operands,Call.operands] using hy)
 have ho:(⟨d,.load t a,ty,pos,af,gd⟩:Oper).op.operands.toList=[a]:=by simp [Op.operands,Call.operands]
 rw [Hb,hm a (by simp)]
 rfl
theorem Iw (s x f):fv P T ⟨d,.fieldAddr s x f,ty,pos,af,gd⟩ recs K L st=fk (true) ([]) ⟨d,.fieldAddr s x f,ty,pos,af,gd⟩ recs K L st (mono (ql P s (dt L x) f)):=by
 unfold fv kh ln fk
 simp only [jd,cond_true]
 have hm:∀ y,y ∈ ([x]:List Operand)→di ⟨d,.fieldAddr s x f,ty,pos,af,gd⟩ L y=dt L y:=fun y hy=>ee (by simpa [Op.operands,Call.operands] using hy)
 have hmap:([x]:List Operand).map (di ⟨d,.fieldAddr s x f,ty,pos,af,gd⟩ L)=([x]:List Operand).map (dt L):=gw (fun y hy=>by simpa [Op.operands,Call.operands] using hy)
 have ho:(⟨d,.fieldAddr s x f,ty,pos,af,gd⟩:Oper).op.operands.toList=[x]:=by simp [Op.operands,Call.operands]
 rw [ya,hm x (by simp)]
 rfl
theorem Wk (op t x y u):fv P T ⟨d,.binOp op t x y u,ty,pos,af,gd⟩ recs K L st=fk (true) ([]) ⟨d,.binOp op t x y u,ty,pos,af,gd⟩ recs K L st (mono (He P (di ⟨d,.binOp op t x y u,ty,pos,af,gd⟩ L) ⟨d,.binOp op t x y u,ty,pos,af,gd⟩ op t x y)):=by
 unfold fv kh ln fk
 simp only [jd,cond_true]
 have hm:∀ y,y ∈ ([x,y]:List Operand)→di ⟨d,.binOp op t x y u,ty,pos,af,gd⟩ L y=dt L y:=fun y hy=>ee (by simpa [Op.operands,Call.operands] using hy)
 have hmap:([x,y]:List Operand).map (di ⟨d,.binOp op t x y u,ty,pos,af,gd⟩ L)=([x,y]:List Operand).map (dt L):=gw (fun y hy=>by simpa [Op.operands,Call.operands] using hy)
 have ho:(⟨d,.binOp op t x y u,ty,pos,af,gd⟩:Oper).op.operands.toList=[x,y]:=by simp [Op.operands,Call.operands]
 rfl
theorem ac1 (c a b):fv P T ⟨d,.pick c a b,ty,pos,af,gd⟩ recs K L st=fk (true) ([]) ⟨d,.pick c a b,ty,pos,af,gd⟩ recs K L st (mono (Dc (dt L c) (dt L a) (dt L b))):=by
 unfold fv kh ln fk
 simp only [jd,cond_true]
 have hm:∀ y,y ∈ ([c,a,b]:List Operand)→di ⟨d,.pick c a b,ty,pos,af,gd⟩ L y=dt L y:=fun y hy=>ee (by simpa [Op.operands,Call.operands] using hy)
 have hmap:([c,a,b]:List Operand).map (di ⟨d,.pick c a b,ty,pos,af,gd⟩ L)=([c,a,b]:List Operand).map (dt L):=gw (fun y hy=>by simpa [Op.operands,Call.operands] using hy)
 have ho:(⟨d,.pick c a b,ty,pos,af,gd⟩:Oper).op.operands.toList=[c,a,b]:=by simp [Op.operands,Call.operands]
 rw [Hs,hm c (by simp),hm a (by simp),hm b (by simp)]
 rfl
theorem V2 (t a x):fv P T ⟨d,.store t a x,ty,pos,af,gd⟩ recs K L st=fk (false) ((dt L a).names) ⟨d,.store t a x,ty,pos,af,gd⟩ recs K L st (mono (um P t (dt L a) (dt L x))):=by
 unfold fv kh ln fk
 simp only [jd,cond_false]
 have hm:∀ y,y ∈ ([a,x]:List Operand)→di ⟨d,.store t a x,ty,pos,af,gd⟩ L y=dt L y:=fun y hy=>ee (by simpa [Op.operands,Call.operands] using hy)
 have hmap:([a,x]:List Operand).map (di ⟨d,.store t a x,ty,pos,af,gd⟩ L)=([a,x]:List Operand).map (dt L):=gw (fun y hy=>by simpa [Op.operands,Call.operands] using hy)
 have ho:(⟨d,.store t a x,ty,pos,af,gd⟩:Oper).op.operands.toList=[a,x]:=by simp [Op.operands,Call.operands]
 rw [Fj,hm a (by simp),hm x (by simp)]
 rfl
theorem Iz (t x i):fv P T ⟨d,.indexAddr t x i,ty,pos,af,gd⟩ recs K L st=fk (true) ([]) ⟨d,.indexAddr t x i,ty,pos,af,gd⟩ recs K L st (mono (qe P t (dt L x) (dt L i))):=by
 unfold fv kh ln fk
 simp only [jd,cond_true]
 have hm:∀ y,y ∈ ([x,i]:List Operand)→di ⟨d,.indexAddr t x i,ty,pos,af,gd⟩ L y=dt L y:=fun y hy=>ee (by simpa [Op.operands,Call.operands] using hy)
 have hmap:([x,i]:List Operand).map (di ⟨d,.indexAddr t x i,ty,pos,af,gd⟩ L)=([x,i]:List Operand).map (dt L):=gw (fun y hy=>by simpa [Op.operands,Call.operands] using hy)
 have ho:(⟨d,.indexAddr t x i,ty,pos,af,gd⟩:Oper).op.operands.toList=[x,i]:=by simp [Op.operands,Call.operands]
 rw [x9,hm x (by simp),hm i (by simp)]
 rfl
theorem Jw (x):fv P T ⟨d,.nilCheck x,ty,pos,af,gd⟩ recs K L st=fk (true) ([]) ⟨d,.nilCheck x,ty,pos,af,gd⟩ recs K L st (mono (od (dt L x))):=by
 unfold fv kh ln fk
 simp only [jd,cond_true]
 have hm:∀ y,y ∈ ([x]:List Operand)→di ⟨d,.nilCheck x,ty,pos,af,gd⟩ L y=dt L y:=fun y hy=>ee (by simpa [Op.operands,Call.operands] using hy)
 have hmap:([x]:List Operand).map (di ⟨d,.nilCheck x,ty,pos,af,gd⟩ L)=([x]:List Operand).map (dt L):=gw (fun y hy=>by simpa [Op.operands,Call.operands] using hy)
 have ho:(⟨d,.nilCheck x,ty,pos,af,gd⟩:Oper).op.operands.toList=[x]:=by simp [Op.operands,Call.operands]
 rw [Am,hm x (by simp)]
 rfl
theorem Ww (t):fv P T ⟨d,.alloc t,ty,pos,af,gd⟩ recs K L st=fk (true) (reach st.h fe [] []) ⟨d,.alloc t,ty,pos,af,gd⟩ recs K L st (mono (zq P t)):=by
 unfold fv kh ln fk
 simp only [jd,cond_false]
 have hm:∀ y,y ∈ ([]:List Operand)→di ⟨d,.alloc t,ty,pos,af,gd⟩ L y=dt L y:=fun y hy=>ee (by simpa [Op.operands,Call.operands] using hy)
 have hmap:([]:List Operand).map (di ⟨d,.alloc t,ty,pos,af,gd⟩ L)=([]:List Operand).map (dt L):=gw (fun y hy=>by simpa [Op.operands,Call.operands] using hy)
 have ho:(⟨d,.alloc t,ty,pos,af,gd⟩:Oper).op.operands.toList=[]:=by simp [Op.operands,Call.operands]
 rw [ho,hmap]
 rfl
theorem Wi (t ps):fv P T ⟨d,.build t ps,ty,pos,af,gd⟩ recs K L st=fk (true) (reach st.h fe (AV.names.go ((ps.toList.map (·.2)).map (dt L))) []) ⟨d,.build t ps,ty,pos,af,gd⟩ recs K L st (mono (wt P t (ps.toList.map fun p=>(p.1,dt L p.2)))):=by
 unfold fv kh ln fk
 simp only [jd,cond_false]
 have hm:∀ y,y ∈ ((ps.toList.map (·.2)):List Operand)→di ⟨d,.build t ps,ty,pos,af,gd⟩ L y=dt L y:=fun y hy=>ee (by simpa [Op.operands,Call.operands] using hy)
 have hmap:((ps.toList.map (·.2)):List Operand).map (di ⟨d,.build t ps,ty,pos,af,gd⟩ L)=((ps.toList.map (·.2)):List Operand).map (dt L):=gw (fun y hy=>by simpa [Op.operands,Call.operands] using hy)
 have ho:(⟨d,.build t ps,ty,pos,af,gd⟩:Oper).op.operands.toList=(ps.toList.map (·.2)):=by simp [Op.operands,Call.operands]
 rw [ho,hmap]
 rw [E9,Nf (fun x hx=>by simp [Op.operands];exact ⟨_,by simpa using hx⟩)]
 rfl
theorem Fy (t n ps):fv P T ⟨d,.buildSlice t n ps,ty,pos,af,gd⟩ recs K L st=fk (true) (reach st.h fe (AV.names.go ((ps.toList.map (·.2)).map (dt L))) []) ⟨d,.buildSlice t n ps,ty,pos,af,gd⟩ recs K L st (mono (nc P t n (ps.toList.map fun p=>(p.1,dt L p.2)))):=by
 unfold fv kh ln fk
 simp only [jd,cond_false]
 have hm:∀ y,y ∈ ((ps.toList.map (·.2)):List Operand)→di ⟨d,.buildSlice t n ps,ty,pos,af,gd⟩ L y=dt L y:=fun y hy=>ee (by simpa [Op.operands,Call.operands] using hy)
 have hmap:((ps.toList.map (·.2)):List Operand).map (di ⟨d,.buildSlice t n ps,ty,pos,af,gd⟩ L)=((ps.toList.map (·.2)):List Operand).map (dt L):=gw (fun y hy=>by simpa [Op.operands,Call.operands] using hy)
 have ho:(⟨d,.buildSlice t n ps,ty,pos,af,gd⟩:Oper).op.operands.toList=(ps.toList.map (·.2)):=by simp [Op.operands,Call.operands]
 rw [ho,hmap]
 rw [v9,Nf (fun x hx=>by simp [Op.operands];exact ⟨_,by simpa using hx⟩)]
 rfl
theorem M8 (s u x):fv P T ⟨d,.convert s u x,ty,pos,af,gd⟩ recs K L st=fk (true) (reach st.h fe (AV.names.go ([x].map (dt L))) []) ⟨d,.convert s u x,ty,pos,af,gd⟩ recs K L st (mono (tu P (di ⟨d,.convert s u x,ty,pos,af,gd⟩ L) ⟨d,.convert s u x,ty,pos,af,gd⟩ s u (dt L x))):=by
 unfold fv kh ln fk
 simp only [jd,cond_false]
 have hm:∀ y,y ∈ ([x]:List Operand)→di ⟨d,.convert s u x,ty,pos,af,gd⟩ L y=dt L y:=fun y hy=>ee (by simpa [Op.operands,Call.operands] using hy)
 have hmap:([x]:List Operand).map (di ⟨d,.convert s u x,ty,pos,af,gd⟩ L)=([x]:List Operand).map (dt L):=gw (fun y hy=>by simpa [Op.operands,Call.operands] using hy)
 have ho:(⟨d,.convert s u x,ty,pos,af,gd⟩:Oper).op.operands.toList=[x]:=by simp [Op.operands,Call.operands]
 rw [ho,hmap]
 rw [B0,hm x (by simp)]
 rfl
theorem Wf (t x i):fv P T ⟨d,.index t x i,ty,pos,af,gd⟩ recs K L st=fk (true) (reach st.h fe (AV.names.go ([x,i].map (dt L))) []) ⟨d,.index t x i,ty,pos,af,gd⟩ recs K L st (mono (zk P (di ⟨d,.index t x i,ty,pos,af,gd⟩ L) ⟨d,.index t x i,ty,pos,af,gd⟩ t x i)):=by
 unfold fv kh ln fk
 simp only [jd,cond_false]
 have hm:∀ y,y ∈ ([x,i]:List Operand)→di ⟨d,.index t x i,ty,pos,af,gd⟩ L y=dt L y:=fun y hy=>ee (by simpa [Op.operands,Call.operands] using hy)
 have hmap:([x,i]:List Operand).map (di ⟨d,.index t x i,ty,pos,af,gd⟩ L)=([x,i]:List Operand).map (dt L):=gw (fun y hy=>by simpa [Op.operands,Call.operands] using hy)
 have ho:(⟨d,.index t x i,ty,pos,af,gd⟩:Oper).op.operands.toList=[x,i]:=by simp [Op.operands,Call.operands]
 rw [ho,hmap]
 rfl
theorem Vj (t x l h m):fv P T ⟨d,.slice t x l h m,ty,pos,af,gd⟩ recs K L st=fk (true) (reach st.h fe (AV.names.go ((#[x]++l.toArray++h.toArray++m.toArray).toList.map (dt L))) []) ⟨d,.slice t x l h m,ty,pos,af,gd⟩ recs K L st (mono (z8 P (di ⟨d,.slice t x l h m,ty,pos,af,gd⟩ L) ⟨d,.slice t x l h m,ty,pos,af,gd⟩ t x l h m)):=by
 unfold fv kh ln fk
 simp only [jd,cond_false]
 have hm:∀ y,y ∈ ((#[x]++l.toArray++h.toArray++m.toArray).toList:List Operand)→di ⟨d,.slice t x l h m,ty,pos,af,gd⟩ L y=dt L y:=fun y hy=>ee (by simpa [Op.operands,Call.operands] using hy)
 have hmap:((#[x]++l.toArray++h.toArray++m.toArray).toList:List Operand).map (di ⟨d,.slice t x l h m,ty,pos,af,gd⟩ L)=((#[x]++l.toArray++h.toArray++m.toArray).toList:List Operand).map (dt L):=gw (fun y hy=>by simpa [Op.operands,Call.operands] using hy)
 have ho:(⟨d,.slice t x l h m,ty,pos,af,gd⟩:Oper).op.operands.toList=(#[x]++l.toArray++h.toArray++m.toArray).toList:=by simp [Op.operands,Call.operands]
 rw [ho,hmap]
 rfl
theorem aq3 (op t x):fv P T ⟨d,.unOp op t x,ty,pos,af,gd⟩ recs K L st=fk (true) (reach st.h fe (AV.names.go ([x].map (dt L))) []) ⟨d,.unOp op t x,ty,pos,af,gd⟩ recs K L st (mono (kg P (di ⟨d,.unOp op t x,ty,pos,af,gd⟩ L) ⟨d,.unOp op t x,ty,pos,af,gd⟩ [x])):=by
 unfold fv kh ln fk
 simp only [jd,cond_false]
 have hm:∀ y,y ∈ ([x]:List Operand)→di ⟨d,.unOp op t x,ty,pos,af,gd⟩ L y=dt L y:=fun y hy=>ee (by simpa [Op.operands,Call.operands] using hy)
 have hmap:([x]:List Operand).map (di ⟨d,.unOp op t x,ty,pos,af,gd⟩ L)=([x]:List Operand).map (dt L):=gw (fun y hy=>by simpa [Op.operands,Call.operands] using hy)
 have ho:(⟨d,.unOp op t x,ty,pos,af,gd⟩:Oper).op.operands.toList=[x]:=by simp [Op.operands,Call.operands]
 rw [ho,hmap]
 rfl
theorem ago (x ts):fv P T ⟨d,.call { callee:=.builtin .len,args:=#[x],argTypes:=ts },ty,pos,af,gd⟩ recs K L st=fk (true) ([]) ⟨d,.call { callee:=.builtin .len,args:=#[x],argTypes:=ts },ty,pos,af,gd⟩ recs K L st (mono (tm ((ts[0]?).bind P.underlying) (dt L x))):=by
 unfold fv kh ln fk
 simp only [jd,cond_true]
 have hm:∀ y,y ∈ ([x]:List Operand)→di ⟨d,.call { callee:=.builtin .len,args:=#[x],argTypes:=ts },ty,pos,af,gd⟩ L y=dt L y:=fun y hy=>ee (by simpa [Op.operands,Call.operands] using hy)
 have hmap:([x]:List Operand).map (di ⟨d,.call { callee:=.builtin .len,args:=#[x],argTypes:=ts },ty,pos,af,gd⟩ L)=([x]:List Operand).map (dt L):=gw (fun y hy=>by simpa [Op.operands,Call.operands] using hy)
 have ho:(⟨d,.call { callee:=.builtin .len,args:=#[x],argTypes:=ts },ty,pos,af,gd⟩:Oper).op.operands.toList=[x]:=by simp [Op.operands,Call.operands]
 rw [J8,hm x (by simp)]
 rfl
theorem Sn (s x ts):fv P T ⟨d,.call { callee:=.builtin .append,args:=#[s,x],argTypes:=ts },ty,pos,af,gd⟩ recs K L st=fk (false) (reach st.h fe (AV.names.go ([s,x].map (dt L))) []) ⟨d,.call { callee:=.builtin .append,args:=#[s,x],argTypes:=ts },ty,pos,af,gd⟩ recs K L st (mono (oz P ts[0]? ((ts[1]?).bind P.underlying) (dt L s) (dt L x))):=by
 unfold fv kh ln fk
 simp only [jd,cond_false]
 have hm:∀ y,y ∈ ([s,x]:List Operand)→di ⟨d,.call { callee:=.builtin .append,args:=#[s,x],argTypes:=ts },ty,pos,af,gd⟩ L y=dt L y:=fun y hy=>ee (by simpa [Op.operands,Call.operands] using hy)
 have hmap:([s,x]:List Operand).map (di ⟨d,.call { callee:=.builtin .append,args:=#[s,x],argTypes:=ts },ty,pos,af,gd⟩ L)=([s,x]:List Operand).map (dt L):=gw (fun y hy=>by simpa [Op.operands,Call.operands] using hy)
 have ho:(⟨d,.call { callee:=.builtin .append,args:=#[s,x],argTypes:=ts },ty,pos,af,gd⟩:Oper).op.operands.toList=[s,x]:=by simp [Op.operands,Call.operands]
 rw [ho,hmap]
 rw [Dv,hm s (by simp),hm x (by simp)]
 rfl
theorem aao (f args ts):fv P T ⟨d,.call { callee:=.value f,args,argTypes:=ts },ty,pos,af,gd⟩ recs K L st=fk (px T (dt L) ⟨d,.call { callee:=.value f,args,argTypes:=ts },ty,pos,af,gd⟩) (reach st.h fe (AV.names.go ((f::args.toList).map (dt L))) []) ⟨d,.call { callee:=.value f,args,argTypes:=ts },ty,pos,af,gd⟩ recs K L st (u9 T (dt L f) (args.toList.map (dt L))):=by
 unfold fv kh ln fk
 simp only [jd,cond_false]
 have h1:⟨d,.call { callee:=.value f,args,argTypes:=ts },ty,pos,af,gd⟩=(⟨d,.call { callee:=.value f,args,argTypes:=ts },ty,pos,af,gd⟩:Oper):=rfl
 have hf:di ⟨d,.call { callee:=.value f,args,argTypes:=ts },ty,pos,af,gd⟩ L f=dt L f:=ee (by simp [Op.operands,Call.operands])
 have ha:args.toList.map (di ⟨d,.call { callee:=.value f,args,argTypes:=ts },ty,pos,af,gd⟩ L)=args.toList.map (dt L):=gw (fun x hx=>by simp [Op.operands,Call.operands];exact .inr (by simpa using hx))
 have hr:px T (di ⟨d,.call { callee:=.value f,args,argTypes:=ts },ty,pos,af,gd⟩ L) ⟨d,.call { callee:=.value f,args,argTypes:=ts },ty,pos,af,gd⟩=px T (dt L) ⟨d,.call { callee:=.value f,args,argTypes:=ts },ty,pos,af,gd⟩:=by simp only [px,hf]
 have ho:(⟨d,.call { callee:=.value f,args,argTypes:=ts },ty,pos,af,gd⟩:Oper).op.operands.toList.map (di ⟨d,.call { callee:=.value f,args,argTypes:=ts },ty,pos,af,gd⟩ L)=(f::args.toList).map (dt L):=by
  show ((#[f]++args).toList).map _=_
  simp only [Array.toList_append,List.map_append,ha,List.map_cons,hf]
  rfl
 rw [hr,ho]
 show Cz _ _ _ _ _ _ _ (u9 T (di _ L f) (args.toList.map (di _ L)) _)=_
 rw [hf,ha]
theorem N3 (n args ts):px T (dt L) ⟨d,.call { callee:=.value (.func n),args,argTypes:=ts },ty,pos,af,gd⟩=roT (T.find n):=by simp only [px,dt];rfl
end ops
theorem Xe (P T ops K L st):Ct P T ops true K L st=(Lf ops=true∧(Dh P T ops ops.toList K [] L st∨Kh P T ops ops.toList K [] L st)):=id rfl
theorem Wr (n):Ew n []=true:=id rfl
theorem Sf (n o r):Ew n (o::r)=(Nat.blt o n && Ew n r):=id rfl
theorem Y1 (h h'):same h h' []=True:=id rfl
theorem Xc (h h' o r):same h h' (o::r)=(h.get o=h'.get o∧same h h' r):=id rfl
theorem Xa (h):pc h [] = .nil:=id rfl
theorem Sr (h o r):pc h (o::r)=Tr.set depth (pc h r) o (h.get o):=id rfl
theorem Pt (h1 h):su h1 [] h=h:=id rfl
theorem Nv (h1 o r h):su h1 (o::r) h=Tr.set depth (su h1 r h) o (h1.get o):=id rfl
theorem V0 (t ts v vs):gu (t::ts) (v::vs)=(t,v)::gu ts vs:=id rfl
theorem V3 (P T f ps A B p Q L0 st0):alv P T f ps A B p Q L0 st0=(Nat.ble p 1000=true∧Ja P T ps A B p Q L0 st0 (F7 (dt L0 f))):=id rfl
theorem Z1 (P T ps A B p Q L0 st0 g caps):Ja P T ps A B p Q L0 st0 (some (g,caps))=Jm P T ps A B p Q L0 st0 caps (xq P g):=id rfl
theorem Ze (P T ps A B p Q L0 st0 caps nt code):Jm P T ps A B p Q L0 st0 caps (some (nt,code))=(Nat.ble (caps.length+1) nt=true∧∀ l:Nat,oa P T l (mb ps A B L0) p code (Zf Q L0) none (cd 0 (.sc (.func (.yield l) #[] #[])::caps)) st0):=id rfl
theorem W8 (g c):F7 (.fn (.func g) [] c)=some (g,c):=id rfl
theorem Er {P:Program} {T:ec} {l:Nat} {aw:Nat} {L:SL} {st:St} {Q:QI} {ps:List Tmp} {ra rb:Code} {L0:SL} {α:Type} {b:Code} (keep:List Nat) (V : α→List AV) (O : α→List (Option bh)) (I : α→Prop) (μ : α→Nat) (x : α) (hx:I x)
 (hv:gi aw keep L st=V x) (ho:ep aw keep L st=O x)
 (step:∀ x,I x→oa P T l (mb ps (fun p=>wl P T p ra) (fun p=>wl P T p rb) L0) aw b (x7 (uq aw keep (fun vs os=>∃ y,I y ∧ μ y < μ x∧vs=V y∧os=O y) (fun _ _ _=>False)) Q) none (gu keep (V x)) (bk (O x))):oa P T l (mb ps (fun p=>wl P T p ra) (fun p=>wl P T p rb) L0) aw (.loop b) Q none L st:=
 aqm (keep:=keep) (V:=V) (O:=O) (I:=I) (μ:=μ) (x:=x) (hx:=hx) (hR:=Nl P T) (hv:=hv) (ho:=ho) (step:=step)
theorem u6 {P:Program} {T:ec} {R:Gp} {aw:Nat} {L:SL} {st:St} {o:Oper} {K:Option Ex→SL→St→Prop} {args:Array Operand} (keep:List Nat) (h:vm R (ep aw keep L st).length args o.dst K (gu keep (gi aw keep L st)) (bk (ep aw keep L st))):T9 P T R aw o K none L st (some args):=⟨rfl,keep,h⟩
theorem T4 (P:Program):∀ s:Sem Value,ev P (do pure (Next.value (← s)))=(ev P s).map Next.value:=by
 intro s
 induction s with
 |pure b=>rfl
 |program k ih=>exact ih P
 |choose q k ih=>
  simp only [bind,Sem.bind,ev]
  split
  ·exact ih 0
  ·rfl
 |mark m k ih=>exact ih
 |_=>rfl
def Y9 (m:M AV):M AV:=m
def aac (a:AV) (m:M AV):M AV:=
 match a.bool with
 |some b=>M.pure (.sc (.bool (!b)))
 |none=>m
theorem aoy (b:Bool) (m:M AV):aac (.sc (.bool b)) m=M.pure (.sc (.bool (!b))):=id rfl
theorem ath {a:AV} {b:Bool} (h:a.bool=some b):a = .sc (.bool b):=by
 unfold AV.bool AV.exact nn at h
 cases a with
 |sc v=>cases v<;>simp at h;rw [h]
 |_=>cases h
theorem Qz (P:Program) (ρ:Operand→AV) (d ty pos af gd) (t:TypeId) (x:Operand):kg P ρ ⟨d,.unOp .not t x,ty,pos,af,gd⟩ [x]=aac (ρ x) (Y9 (kg P ρ ⟨d,.unOp .not t x,ty,pos,af,gd⟩ [x])):=by
 unfold aac
 split
 ·rename_i b hb
  have hx:=ath hb
  have h2:execOp (fun z=>((ρ z).gn).getD undef) ⟨d,.unOp .not t x,ty,pos,af,gd⟩=(do pure (Next.value (← Op.unary .not (.bool b)))):=by
   simp only [execOp,hx,AV.gn,Option.getD_some]
  unfold kg k6 qp
  simp only [List.all_cons,List.all_nil,hx,AV.gn,Option.isSome_some,Bool.and_true,cond_true]
  rw [h2,T4]
  rfl
 ·rfl
theorem Wp (P:Program) (T:ec) (ρ:Operand→AV) (d ty pos af gd) (t:TypeId) (x:Operand):gx P T ⟨d,.unOp .not t x,ty,pos,af,gd⟩ ρ=mono (aac (ρ x) (Y9 (kg P ρ ⟨d,.unOp .not t x,ty,pos,af,gd⟩ [x]))):=by
 exact congrArg mono (Qz ..)
theorem ahm (P:Program) (T:ec) (L:SL) (st:St) (recs:List Rec) (K:List Rec→SL→St→Prop) (d ty pos af gd) (t x):fv P T ⟨d,.unOp .not t x,ty,pos,af,gd⟩ recs K L st=fk true (reach st.h fe (AV.names.go ([x].map (dt L))) []) ⟨d,.unOp .not t x,ty,pos,af,gd⟩ recs K L st (mono (aac (dt L x) (Y9 (kg P (di ⟨d,.unOp .not t x,ty,pos,af,gd⟩ L) ⟨d,.unOp .not t x,ty,pos,af,gd⟩ [x])))):=by
 rw [aq3]
 have h:=Qz P (di ⟨d,.unOp .not t x,ty,pos,af,gd⟩ L) d ty pos af gd t x
 rw [ee (by simp [Op.operands])] at h
 rw [← h]
theorem Pj (l:List UInt8):bytesOf (l.map Ao)=some l:=by rw [Dm,vo]
theorem Nz (a b:ByteArray):Cx.kc [.sc (.string a),.sc (.string b)]=M.pure (.sc (goInt (Lib.compareBytes a.data.toList b.data.toList))):=by
 unfold Cx.kc cellsIn
 simp only [Nat.beq_refl,cond_true]
 unfold M.bind M.pure
 simp only [Pj]
 rfl
theorem Ml {α:Type} (C:dh α) (f:Bool) (h:C.sz=1) (ha:C.agg=false) (l:List α):(l.map (C.val f)).flatMap AV.cells=l.map (C.val f):=by
 induction l with
 |nil=>rfl
 |cons x l ih=>
  simp only [List.map_cons,List.flatMap_cons,ih]
  obtain ⟨c,h1,h2,_⟩:=C.one ha f x
  have:C.val f x=c:=by simp [dh.val,ha,h1]
  rw [this,h2];rfl
theorem Nq (f g:Bool) (a b:List UInt8):Cx.kc [.vl f 1 (a.map (bg.val f)),.vl g 1 (b.map (bg.val g))]=M.pure (.sc (goInt (Lib.compareBytes a b))):=by
 unfold Cx.kc cellsIn
 simp only [Nat.beq_refl,cond_true,Ml bg _ rfl rfl]
 unfold M.bind M.pure
 simp only [vo]
 rfl
theorem M9 {L:SL} {d ty pos af gd} {op t u x y}:di ⟨d,.binOp op t x y u,ty,pos,af,gd⟩ L x=dt L x:=ee (by simp [Op.operands])
theorem Od {L:SL} {d ty pos af gd} {op t u x y}:di ⟨d,.binOp op t x y u,ty,pos,af,gd⟩ L y=dt L y:=ee (by simp [Op.operands])
theorem Nt {L:SL} {d ty pos af gd} {i t x}:di ⟨d,.index t x i,ty,pos,af,gd⟩ L x=dt L x:=ee (by simp [Op.operands])
theorem N1 {L:SL} {d ty pos af gd} {i t x}:di ⟨d,.index t x i,ty,pos,af,gd⟩ L i=dt L i:=ee (by simp [Op.operands])
theorem S6 {L:SL} {d ty pos af gd} {h l m t x}:di ⟨d,.slice t x l h m,ty,pos,af,gd⟩ L x=dt L x:=ee (by simp [Op.operands])
theorem Pp {L:SL} {d ty pos af gd} {h l m t x}:di ⟨d,.slice t x l (some h) m,ty,pos,af,gd⟩ L h=dt L h:=ee (by simp [Op.operands])
def agf (P:Program) (ρ:Operand→AV) (o:Oper) (l:List Operand):M AV:=kg P ρ o l
def ach (u:Option TypeDesc) (a ix:AV) (m:M AV):M AV:=
 match u with
 |some .string=>
  match a with
  |.sc (.string s)=>
   match ix with
   |.sc (.int _ n)=>
    match (bif decide (0≤n) then s.data.toList[n.toNat]? else none) with
    |some b=>M.pure (.sc (.int .u8 b.toNat))
    |none=>m
   |_=>m
  |_=>m
 |_=>m
theorem abj (s:ByteArray) (k:IntKind) (n:Int) (m:M AV):ach (some .string) (.sc (.string s)) (.sc (.int k n)) m=match (bif decide (0≤n) then s.data.toList[n.toNat]? else none) with|some b=>M.pure (.sc (.int .u8 b.toNat))|none=>m:=id rfl
theorem Je (P:Program) (ρ:Operand→AV) (d ty pos af gd) (t:TypeId) (x i:Operand):kg P ρ ⟨d,.index t x i,ty,pos,af,gd⟩ [x,i]=ach (P.underlying t) (ρ x) (ρ i) (agf P ρ ⟨d,.index t x i,ty,pos,af,gd⟩ [x,i]):=by
 unfold ach
 split
 ·rename_i hu
  split
  ·rename_i s hx
   split
   ·rename_i k n hi
    split
    ·rename_i b hb
     cases h0:decide (0≤n) with
     |false=>rw [h0] at hb;cases hb
     |true=>
     rw [h0,cond_true] at hb
     have h0 : 0≤n:=by simpa using h0
     have hb':s[n.toNat]? = some b:=by
      obtain ⟨h1,h2⟩:=List.getElem?_eq_some_iff.1 hb
      simp at h1
      rw [getElem?_pos s n.toNat (by simpa using h1)]
      rw [← h2];rfl
     have h2:execOp (fun z=>((ρ z).gn).getD undef) ⟨d,.index t x i,ty,pos,af,gd⟩=(do pure (Next.value (← Instr.index t (.string s) (.int k n)))):=by
      simp only [execOp,hx,hi,AV.gn,Option.getD_some]
     unfold kg k6 qp
     simp only [List.all_cons,List.all_nil,hx,hi,AV.gn,Option.isSome_some,Bool.and_true,cond_true]
     rw [h2,T4]
     have h3:ev P (Instr.index t (.string s) (.int k n))=some (.int .u8 b.toNat):=by
      simp [Instr.index,asIntOf,underlying,program,ev,hu,h0,hb',bind,Sem.bind,pure]
     rw [h3]
     rfl
    ·rfl
   ·rfl
  ·rfl
 ·rfl
theorem Ox (a n:Nat):(a:Int).fdiv (n:Int)=((a / n:Nat):Int):=by
 rw [Int.fdiv_eq_ediv_of_nonneg _ (by omega)];rfl
theorem adn (a:Nat):(a:Int).fdiv 256=((a / 256:Nat):Int):=Ox a 256
theorem Rl (a:Nat):(a:Int).fdiv 65536=((a / 65536:Nat):Int):=Ox a 65536
theorem H8 (a:Nat):(a:Int).fdiv 16777216=((a / 16777216:Nat):Int):=Ox a 16777216
theorem adf (f:Nat) (m) (T:ec):ec.find ((f,m)::T) f=some m:=by simp [ec.find]
theorem Xk (f g:Nat) (m) (T:ec) (h:(f == g)=false):ec.find ((f,m)::T) g=ec.find T g:=by
 have e:f≠g:=by simpa using h
 simp [ec.find,n8 e]
end
end Go.Vm
end
namespace Go.Vm
variable [TK]
noncomputable section
def yt (P:Program) (t:TypeId):Option (Nat × Nat × Nat):=
 match ny P t with
 |some e=>
  match dj P e,j7 P e,fh P e with
  |some sz,some bytes,some z=>bif Nat.blt 0 sz && Nat.blt 0 bytes && Nat.beq z.cells.size sz then some (e,sz,bytes) else none
  |_,_,_=>none
 |none=>none
def aa4 (q:Option (Nat × Nat × Nat)) (s x:AV):M AV:=
 match q with
 |some (e,sz,bytes)=>(cellsIn sz x).bind (rj e sz bytes s)
 |none=>M.fail
theorem ale (e sz bytes s x):aa4 (some (e,sz,bytes)) s x=(cellsIn sz x).bind (rj e sz bytes s):=id rfl
theorem S8 (P:Program) (t e:TypeId) (s x:AV):oz P (some t) (some (.slice e)) s x=aa4 (yt P t) s x:=by
 unfold oz aa4 yt
 simp only [Option.bind_some]
 cases ny P t with
 |none=>rfl
 |some e=>
  simp only
  cases dj P e with
  |none=>rfl
  |some sz=>
   cases j7 P e with
   |none=>rfl
   |some bytes=>
    cases fh P e with
    |none=>rfl
    |some z=>
     simp only
     cases (Nat.blt 0 sz && Nat.blt 0 bytes && Nat.beq z.cells.size sz)<;>rfl
theorem Px (P:Program) (t:TypeId) (s x:AV):oz P (some t) (some .string) s x=aa4 (yt P t) s x:=by
 unfold oz aa4 yt
 simp only [Option.bind_some]
 cases ny P t with
 |none=>rfl
 |some e=>
  simp only
  cases dj P e with
  |none=>rfl
  |some sz=>
   cases j7 P e with
   |none=>rfl
   |some bytes=>
    cases fh P e with
    |none=>rfl
    |some z=>
     simp only
     cases (Nat.blt 0 sz && Nat.blt 0 bytes && Nat.beq z.cells.size sz)<;>rfl
theorem Oi (e sz bytes new):rj e sz bytes (.sc (.slice none 0 0)) new=bif new.isEmpty then M.pure (.sc (.slice none 0 0)) else bif Nat.ble (new.length * bytes) 140737488355328 then sh e sz (new.length / sz) new else M.fail:=id rfl
theorem P0 (e sz bytes o off len sz' new):rj e sz bytes (.sl o off len sz') new=bif Nat.beq sz sz' then (ed o).bind (Eh e sz bytes o off len new) else M.fail:=id rfl
theorem Ob (e sz bytes o off len new cells k st et):Eh e sz bytes o off len new (.row cells k st et)=(bif Nat.beq et e && new.all AV.one && Nat.ble (off+len * sz) cells.length && Nat.ble ((len * sz+new.length) * bytes) 140737488355328 then
 bif Nat.ble k (off+len * sz) then
  (Hq o).bind fun _=>(lx (.row ((cells.take (off+len * sz)).drop off++new) (k - off) (mu (kr off (len * sz) cells.length) st) et)).bind fun id=>M.pure (.sl id 0 (len+new.length / sz) sz)
 else bif new.isEmpty then M.pure (.sl o off len sz)
 else M.fail
 else M.fail):=id rfl
theorem ast:mu true 0=0:=id rfl
theorem ag4 (n):kr 0 n n=true:=by simp [kr]
theorem ahs (n m):kr 0 n m=Nat.beq n m:=id rfl
def cellsOf {α:Type} (C:dh α) (f:Bool) (xs:List α):List AV:=xs.flatMap (C.cells f)
theorem Nu {α:Type} (C:dh α) (f):cellsOf C f []=[]:=id rfl
theorem Ax {α:Type} (C:dh α) (f) (xs:List α):(cellsOf C f xs).length=xs.length * C.sz:=by
 induction xs with
 |nil=>simp [cellsOf]
 |cons x xs ih=>
  simp only [cellsOf] at ih
  simp [cellsOf,C.len,ih,Nat.succ_mul];omega
theorem E2 {α:Type} (C:dh α) (f) (xs ys:List α):cellsOf C f (xs++ys)=cellsOf C f xs++cellsOf C f ys:=by simp [cellsOf]
theorem E1 {α:Type} (C:dh α) (f) (x : α):cellsOf C f [x]=C.cells f x:=by simp [cellsOf]
theorem vt {α:Type} (C:dh α) (f) (xs:List α):(cellsOf C f xs).all AV.one=true:=by
 rw [List.all_eq_true]
 intro c hc
 obtain ⟨x,_,hx⟩:=List.mem_flatMap.1 hc
 exact (C.pl f x c hx).one
theorem If {α:Type} (C:dh α) (f) (xs:List α):AV.names.go (cellsOf C f xs)=[]:=Fe (fun c hc=>by
 obtain ⟨x,_,hx⟩:=List.mem_flatMap.1 hc
 exact (C.pl f x c hx).names)
theorem Nb {α:Type} (C:dh α) (τ) (f) (xs:List α):(cellsOf C f xs).map (AV.dr τ)=cellsOf C f xs:=by
 rw [← kb]
 exact Pf (fun c hc=>by
  obtain ⟨x,_,hx⟩:=List.mem_flatMap.1 hc
  exact (C.pl f x c hx).dr τ)
theorem Ak {α:Type} {xs:List α} {i:Nat} {x : α} (h:xs[i]? = some x):xs.drop i=x::xs.drop (i+1):=by
 obtain ⟨h1,h2⟩:=List.getElem?_eq_some_iff.1 h
 rw [← h2];exact List.drop_eq_getElem_cons h1
theorem Ha {α:Type} (C:dh α) (f) (xs:List α):(xs.map (C.val f)).flatMap AV.cells=cellsOf C f xs:=by
 rw [List.flatMap_map];congr 1;funext x;exact C.wv f x
def B8 (fr:Bool) (st sz:Nat) (kd:LK) (et:TypeId):Bool:=!fr || (Nat.beq st 0 && Ip sz kd et)
theorem asj (st sz kd et):B8 false st sz kd et=true:=id rfl
theorem ar3 (sz kd et):B8 true 0 sz kd et=Ip sz kd et:=id rfl
theorem Uw {fr:Bool} {st n sz:Nat} {kd:LK} {et:TypeId} (h:B8 fr st sz kd et=true):vy fr sz kd st 0 (n * sz) n et=true:=by
 cases fr with
 |false=>rfl
 |true=>
  simp only [B8,Bool.not_true,Bool.false_or,Bool.and_eq_true] at h
  simp [vy,h.1,h.2]
theorem ow {α:Type} (C:dh α) (fr:Bool) (h:Tr bh) (f:Bool) (xs:List α) (k st et) (n:Nat) (hn:n=xs.length) (hf:(f || !fr)=true) (hro:B8 fr st C.sz C.kd et=true):kq C fr h 0 n (.row (cellsOf C f xs) k st et)=some xs:=by
 subst hn
 simp only [kq,Nat.zero_add,Ax,Nat.ble_self_eq_true,Bool.true_and,Uw hro,cond_true,List.drop_zero]
 have:(cellsOf C f xs).take (xs.length * C.sz)=cellsOf C f xs:=List.take_of_length_le (by rw [Ax];exact Nat.le_refl _)
 rw [this]
 exact W6 C fr h f (fun e=>by subst e;simpa using hf) xs
theorem Pv {α:Type} (C:dh α) (fr h k st et) (hro:B8 fr st C.sz C.kd et=true):kq C fr h 0 0 (.row [] k st et)=some []:=by
 have h0:vy fr C.sz C.kd st 0 0 0 et=true:=by have:=Uw (n:=0) hro;rwa [Nat.zero_mul] at this
 have h1:Nat.ble 0 0=true:=rfl
 simp [kq,vi,h0,h1]
def oq {α:Type} (C:dh α) (fr:Bool) (h:Tr bh):List AV→Option (List α)
 | []=>some []
 |a::l=>match C.dec fr h [a],oq C fr h l with
  |some x,some xs=>some (x::xs)
  |_,_=>none
def auv {α:Type} (a b:Option (List α)):Option (List α):=match a,b with|some x,some y=>some (x++y)|_,_=>none
def ass {α:Type} (a:Option α) (b:Option (List α)):Option (List α):=match a,b with|some x,some y=>some (x::y)|_,_=>none
theorem ama {α:Type} (a b:List α):auv (some a) (some b)=some (a++b):=id rfl
theorem ahn {α:Type} (a : α) (b:List α):ass (some a) (some b)=some (a::b):=id rfl
theorem Pn {α:Type} (C:dh α) (fr h):oq C fr h []=some []:=id rfl
theorem D9 {α:Type} (C:dh α) (fr h a l):oq C fr h (a::l)=ass (C.dec fr h [a]) (oq C fr h l):=id rfl
theorem On {α:Type} (C:dh α) (fr h):∀ a b,oq C fr h (a++b)=auv (oq C fr h a) (oq C fr h b)
 | [],b=>by
  simp only [List.nil_append,Pn]
  cases oq C fr h b<;>rfl
 |x::a,b=>by
  simp only [List.cons_append,D9,On C fr h a b]
  cases C.dec fr h [x]<;>cases oq C fr h a<;>cases oq C fr h b<;>rfl
theorem adj {α:Type} (C:dh α) (hz:C.sz=1) (fr h):∀ cells:List AV,vi C fr h cells.length cells=oq C fr h cells
 | []=>rfl
 |a::l=>by
  have h1:(a::l).take C.sz=[a]:=by rw [hz];rfl
  have h2:(a::l).drop C.sz=l:=by rw [hz];rfl
  simp only [List.length_cons,vi,h1,h2,adj C hz fr h l]
  rfl
theorem uy {α:Type} (C:dh α) (hz:C.sz=1) (fr h n cells k st et) (hn:n=cells.length) (hro:B8 fr st 1 C.kd et=true):kq C fr h 0 n (.row cells k st et)=oq C fr h cells:=by
 subst hn
 have h0:vy fr 1 C.kd st 0 cells.length cells.length et=true:=by have:=Uw (n:=cells.length) hro;rwa [Nat.mul_one] at this
 simp only [kq,hz,Nat.mul_one,Nat.zero_add,Nat.ble_self_eq_true,Bool.true_and,h0,cond_true,List.drop_zero,List.take_length]
 exact adj C hz fr h cells
theorem Dn {α:Type} (C:dh α) (hz:C.sz=1) (ha:C.agg=false) (fr h f) (hf:fr=true→f=true):∀ l:List α,oq C fr h (l.map (C.val f))=some l
 | []=>rfl
 |x::l=>by
  obtain ⟨c,h1,_⟩:=C.one ha f x
  have hv:C.val f x=c:=by simp [dh.val,ha,h1]
  have hd:=C.rt fr h f x hf
  rw [h1] at hd
  rw [List.map_cons,D9,Dn C hz ha fr h f hf l,hv,hd];rfl
theorem Zv {α β:Type} (f : α → β) (l:List α) (n:Nat):(l.map f).take n=(l.take n).map f:=List.map_take.symm
theorem Zn {α β:Type} (f : α → β) (l:List α) (n:Nat):(l.map f).drop n=(l.drop n).map f:=List.map_drop.symm
theorem Dq {α β:Type} (f : α → β) (l:List α):(l.map f).isEmpty=l.isEmpty:=by cases l<;>rfl
theorem Ek {α:Type} (l:List α) (x : α):(l++[x]).isEmpty=false:=by cases l<;>rfl
theorem F9 (a b:List AV):AV.names.go (a++b)=AV.names.go a++AV.names.go b:=by
 induction a with
 |nil=>rfl
 |cons x a ih=>simp only [List.cons_append,AV.names.go,ih,List.append_assoc]
theorem rtT {α:Type} (C:dh α) (h:Tr bh) (x : α):C.fq true h (C.val true x)=some x:=C.Jv true h true x (fun _=>rfl)
theorem rtF {α:Type} (C:dh α) (h:Tr bh) (l:Bool) (x : α):C.fq false h (C.val l x)=some x:=C.Jv false h l x (fun e=>by cases e)
theorem aan (s:ByteArray):s.data.toList.length=s.size:=by simp
theorem ag6 {α:Type} {l:List α} {n:Nat} (h:l.length≤n):l.take n=l:=List.take_of_length_le h
theorem ave {α:Type} (C:dh α) (fr:Bool) (h:Tr bh) (x : α):C.fq fr h (C.val fr x)=some x:=C.Jv fr h fr x (fun e=>e)
theorem bz {a b:Nat} (h:a≤b):decide (a≤b)=true:=by simpa using h
theorem b9 {a b:Nat} (h:a<b):decide (a<b)=true:=by simpa using h
theorem bu {a b:Int} (h:a≤b):decide (a≤b)=true:=by simpa using h
theorem bw {a b:Int} (h:a<b):decide (a<b)=true:=by simpa using h
theorem ag (x:Int) (h0 : -9223372036854775808≤x) (h1:x<9223372036854775808):IntKind.i64.wrap x=x:=by
 simp [IntKind.wrap,IntKind.bits,IntKind.signed];omega
theorem ak6 (n:Nat):IntKind.u8.wrap (n:Int)=((UInt8.ofNat n).toNat:Int):=by simp [IntKind.wrap,IntKind.bits,IntKind.signed]
theorem bb {p:Prop} [Decidable p] {X Y:SL→St→Prop} {L st}:ti (.sc (.bool (decide p))) X Y L st=((p→X L st)∧(¬ p→Y L st)):=by
 by_cases h:p<;>simp [h,F1,F6]
theorem cj {a b:Int} {X Y:SL→St→Prop} {L st}:ti (.sc (.bool (a == b))) X Y L st=(((a == b)=true∧a=b→X L st)∧((a == b)=false∧a≠b→Y L st)):=by
 by_cases h:a=b
 ·subst h;simp [F1]
 ·have:(a == b)=false:=by simpa using h
  simp [h,this,F6]
theorem de {a b:Int} {X Y:SL→St→Prop} {L st}:ti (.sc (.bool (a != b))) X Y L st=(((a != b)=true∧a≠b→X L st)∧((a != b)=false∧a=b→Y L st)):=by
 by_cases h:a=b
 ·subst h;simp [F6]
 ·have:(a != b)=true:=by simpa using h
  simp [h,this,F1]
theorem Vt (P:Program) (T:ec) (ρ:Operand→AV) (d ty pos af gd) (x ts):gx P T ⟨d,.call { callee:=.builtin .cap,args:=#[x],argTypes:=ts },ty,pos,af,gd⟩ ρ=mono (H4 ((ts[0]?).bind P.underlying) (ρ x)):=id rfl
theorem V6 (e a n c):H4 (some (.slice e)) (.sc (.slice a n c))=M.pure (.sc (goInt c)):=id rfl
def arc (P:Program) (q:Option (Nat × Nat × Nat)) (s x:AV):M AV:=
 match q with
 |some (e,sz,bytes)=>
  match Cp P e sz x with
  |some new=>rj e sz bytes s new
  |none=>M.fail
 |none=>M.fail
theorem amg (P:Program) (e sz bytes s x):arc P (some (e,sz,bytes)) s x=match Cp P e sz x with|some new=>rj e sz bytes s new|none=>M.fail:=id rfl
theorem Pw (P:Program) (t:TypeId) (k:IntKind) (s x:AV):oz P (some t) (some (.int k)) s x=arc P (yt P t) s x:=by
 unfold oz arc yt
 simp only [Option.bind_some]
 cases ny P t with
 |none=>rfl
 |some e=>
  simp only
  cases dj P e with
  |none=>rfl
  |some sz=>
   cases j7 P e with
   |none=>rfl
   |some bytes=>
    cases fh P e with
    |none=>rfl
    |some z=>
     simp only
     cases (Nat.blt 0 sz && Nat.blt 0 bytes && Nat.beq z.cells.size sz)<;>rfl
def acn (z:Option Value) (sz:Nat) (n:Int):Option (List AV):=
 match z with
 |some z=>bif decide (0≤n) && decide (n≤1073741824) && Nat.beq z.cells.size sz then some ((List.replicate n.toNat (z.cells.toList.map AV.sc)).flatten) else none
 |none=>none
theorem aax (z sz n):acn (some z) sz n=bif decide (0≤n) && decide (n≤1073741824) && Nat.beq z.cells.size sz then some ((List.replicate n.toNat (z.cells.toList.map AV.sc)).flatten) else none:=id rfl
theorem W5 (P:Program) (e sz:Nat) (k:IntKind) (n:Int):Cp P e sz (.sc (.int k n))=acn (fh P e) sz n:=by
 simp only [Cp,acn,vh,AV.int,AV.exact,Option.bind_some,intOf,Option.map_some]
 cases fh P e<;>rfl
theorem agc {α:Type} (n:Nat) (x : α):(List.replicate n [x]).flatten=List.replicate n x:=by
 induction n with
 |zero=>rfl
 |succ n ih=>simp [List.replicate_succ,ih]
theorem Ns {α:Type} {n:Nat} {x : α} (h : 0<n):(List.replicate n x).isEmpty=false:=by
 cases n with
 |zero=>omega
 |succ n=>rfl
theorem nc0:((0:Nat):Int)=0:=id rfl
theorem nc1:((1:Nat):Int)=1:=id rfl
theorem ams (n:Nat):List.replicate n (AV.sc (.int .u8 0))=(List.replicate n (0:UInt8)).map (bg.val false):=by rw [List.map_replicate];rfl
def aj1 (P:Program) (u:Option TypeDesc) (x hi:AV) (m:M AV):M AV:=
 match u with
 |some (.slice e)=>
  match dj P e with
  |some _=>
   match x with
   |.sc (.slice none 0 0)=>
    match hi with
    |.sc (.int .i64 0)=>M.pure (.sc (.slice none 0 0))
    |_=>m
   |_=>m
  |none=>m
 |_=>m
theorem aob (P:Program) (e m) (h:(dj P e).isSome=true):aj1 P (some (.slice e)) (.sc (.slice none 0 0)) (.sc (.int .i64 0)) m=M.pure (.sc (.slice none 0 0)):=by
 obtain ⟨n,hn⟩:=Option.isSome_iff_exists.1 h
 simp only [aj1,hn]
theorem En (P:Program) (ρ:Operand→AV) (d ty pos af gd) (t:TypeId) (x h:Operand):kg P ρ ⟨d,.slice t x none (some h) none,ty,pos,af,gd⟩ (.slice t x none (some h) none:Op).operands.toList=aj1 P (P.underlying t) (ρ x) (ρ h) (agf P ρ ⟨d,.slice t x none (some h) none,ty,pos,af,gd⟩ (.slice t x none (some h) none:Op).operands.toList):=by
 unfold aj1
 split
 ·rename_i e hu
  split
  ·rename_i n hn
   split
   ·rename_i hx
    split
    ·rename_i hh
     have h2:execOp (fun z=>((ρ z).gn).getD undef) ⟨d,.slice t x none (some h) none,ty,pos,af,gd⟩=(do pure (Next.value (← Instr.sliceAt t (.slice none 0 0) none (some (.int .i64 0)) none))):=by
      simp only [execOp,hx,hh,AV.gn,Option.getD_some,Option.map_some,Option.map_none]
     have hi:∃ i,P.info? e=some i:=by
      unfold dj at hn
      cases hq:P.info? e with
      |none=>rw [hq] at hn;cases hn
      |some i=>exact ⟨i,rfl⟩
     obtain ⟨i,hi⟩:=hi
     have h3:ev P (Instr.sliceAt t (.slice none 0 0) none (some (.int .i64 0)) none)=some (.slice none 0 0):=by
      simp [Instr.sliceAt,Instr.slice,Instr.sliceBounds,Instr.sliceBound,asIntOf,underlying,program,ev,hu,sizeOf,typeInfo,hi,bind,Sem.bind,pure]
     unfold kg k6 qp
     simp only [Op.operands]
     simp [hx,hh,AV.gn]
     rw [h2,T4,h3]
     rfl
    ·rfl
   ·rfl
  ·rfl
 ·rfl
def ap1 {α:Type} (o sz:Nat) (l:List α):AV:=bif l.isEmpty then .sc (.slice none 0 0) else .sl o 0 l.length sz
def ajh (cells:List AV) (k st:Nat) (et:TypeId):List (Option bh):=bif cells.isEmpty then [] else [some (.row cells k st et)]
theorem akv {α:Type} {o sz} {l:List α} (h:l.isEmpty=false):ap1 o sz l = .sl o 0 l.length sz:=by simp [ap1,h]
theorem Xg {α:Type} (o sz) (l:List α) (c : α):ap1 o sz (l++[c]) = .sl o 0 (l.length+1) sz:=by rw [akv (Ek l c)];simp
theorem al6 {cells:List AV} {k st et} (h:cells.isEmpty=false):ajh cells k st et=[some (.row cells k st et)]:=by simp [ajh,h]
theorem aqs {α:Type} {f : α→AV} {l:List α} {k st et} (h:l.isEmpty=false):ajh (l.map f) k st et=[some (.row (l.map f) k st et)]:=al6 (by rw [Dq,h])
theorem V8 {α:Type} (f : α→AV) (l:List α) (c : α) (k st et):ajh ((l++[c]).map f) k st et=[some (.row (l.map f++[f c]) k st et)]:=by rw [aqs (Ek l c)];simp
theorem dq {α:Type} {l:List α} {i:Nat} (h:decide ((i:Int)<(l.length:Int))=true):∃ c,l[i]? = some c∧l.drop i=c::l.drop (i+1)∧i<l.length:=by
 have h1:i<l.length:=by simp at h;omega
 exact ⟨l[i],List.getElem?_eq_getElem h1,List.drop_eq_getElem_cons h1,h1⟩
theorem en {α:Type} {l:List α} {i:Nat} (h:decide ((i:Int)<(l.length:Int))=false):l.drop i=[]:=by
 have h1:¬ i<l.length:=by simp at h;omega
 exact List.drop_eq_nil_of_le (by omega)
def v5 (D:List Nat):Nat→List (Option bh)→List (Option bh)
 |_,[]=>[]
 |i,x::r=>(bif Ad i D then x else none)::v5 D (i+1) r
def yr (D:List Nat):Nat→List (Option bh)→List (Option bh)
 |_,[]=>[]
 |i,x::r=>(bif Ad i D then none else x)::yr D (i+1) r
theorem Wv (D):∀ (i:Nat) (os:List (Option bh)),(v5 D i os).length=os.length
 |_,[]=>rfl
 |i,x::r=>by simp [v5,Wv D (i+1) r]
theorem Kf (D):∀ (i:Nat) (os:List (Option bh)),(yr D i os).length=os.length
 |_,[]=>rfl
 |i,x::r=>by simp [yr,Kf D (i+1) r]
theorem Vg (D):∀ (os:List (Option bh)) (i j:Nat),((v5 D i os)[j]?).join=if (i+j) ∈ D then (os[j]?).join else none
 | [],i,j=>by simp [v5]
 |x::r,i,0=>by
  simp only [v5,List.getElem?_cons_zero,Option.join_some,Nat.add_zero]
  cases hb:Ad i D with
  |true=>rw [if_pos ((wj i D).1 hb)];rfl
  |false=>rw [if_neg (fun h=>by rw [(wj i D).2 h] at hb;cases hb)];rfl
 |x::r,i,j+1=>by
  simp only [v5,List.getElem?_cons_succ]
  rw [Vg D r (i+1) j,show i+1+j=i+(j+1) from by omega]
theorem Wo (D):∀ (os:List (Option bh)) (i j:Nat),((yr D i os)[j]?).join=if (i+j) ∈ D then none else (os[j]?).join
 | [],i,j=>by simp [yr]
 |x::r,i,0=>by
  simp only [yr,List.getElem?_cons_zero,Option.join_some,Nat.add_zero]
  cases hb:Ad i D with
  |true=>rw [if_pos ((wj i D).1 hb)];rfl
  |false=>rw [if_neg (fun h=>by rw [(wj i D).2 h] at hb;cases hb)];rfl
 |x::r,i,j+1=>by
  simp only [yr,List.getElem?_cons_succ]
  rw [Wo D r (i+1) j,show i+1+j=i+(j+1) from by omega]
theorem Tt (os:List (Option bh)) (h:os.length≤dk) (o:Nat):(bk os).h.get o=(os[o]?).join:=by
 simp only [bk]
 rw [ud _ _ _ (by omega),if_pos (Nat.zero_le _),Nat.sub_zero]
inductive eh (h:Tr bh):AV→AV→Prop
 |same (a:AV):eh h a a
 |data {α:Type} (C:dh α) (fr:Bool) (x : α) (a:AV) (hd:C.fq fr h a=some x):eh h a (C.val fr x)
 |bad (a:AV):eh h a .bad
 |nil (o off sz:Nat):eh h (.sc (.slice none 0 0)) (.sl o off 0 sz)
 |ly (loc:Bool) (sz:Nat):eh h (.sc (.slice none 0 0)) (.vl loc sz [])
inductive dz (h:Tr bh):List AV→List AV→Prop
 |nil:dz h [] []
 |cons {a b:AV} {l m:List AV} (h1:eh h a b) (h2:dz h l m):dz h (a::l) (b::m)
theorem dz.len {h l m} (hl:dz h l m):m.length=l.length:=by
 induction hl with
 |nil=>rfl
 |cons _ _ ih=>simp [ih]
theorem dz.refl (h):∀ l,dz h l l
 | []=>.nil
 |a::l=>.cons (.same a) (dz.refl h l)
theorem dz.get {h l m} (hl:dz h l m):∀ (i:Nat) b,m[i]? = some b→∃ a,l[i]? = some a∧eh h a b:=by
 induction hl with
 |nil=>intro i b hb;simp at hb
 |cons h1 h2 ih=>
  intro i b hb
  cases i with
  |zero=>simp at hb;subst hb;exact ⟨_,rfl,h1⟩
  |succ i=>exact ih i b (by simpa using hb)
inductive cb (h:Tr bh):List (Option bh)→List (Option bh)→Prop
 |nil:cb h [] []
 |ghost {st et m} (h2:cb h [] m):cb h [] (some (.row [] 0 st et)::m)
 |same {x l m} (h2:cb h l m):cb h (x::l) (x::m)
 |gone {x l m} (h2:cb h l m):cb h (x::l) (none::m)
 |row {cells cells' k st et l m} (h1:dz h cells cells') (h2:cb h l m):cb h (some (.row cells k st et)::l) (some (.row cells' k st et)::m)
theorem cb.refl (h):∀ l,cb h l l
 | []=>.nil
 |x::l=>.same (cb.refl h l)
theorem cb.len {h l m} (hl:cb h l m):l.length≤m.length:=by induction hl<;>simp_all
theorem cb.get {h l m} (hl:cb h l m):∀ (i:Nat) y,(m[i]?).join=some y→(l[i]?).join=some y∨(∃ cells cells' k st et,y = .row cells' k st et∧(l[i]?).join=some (.row cells k st et)∧dz h cells cells')∨(l.length≤i∧Gd y):=by
 induction hl with
 |nil=>intro i y hy;simp at hy
 | @ghost st et m h2 ih=>
  intro i y hy
  cases i with
  |zero=>simp at hy;subst hy;exact .inr (.inr ⟨Nat.le_refl _,st,et,rfl⟩)
  |succ i=>exact .inr (.inr ⟨Nat.zero_le _,(by
   rcases ih i y (by simpa using hy) with h|⟨_,_,_,_,_,_,h,_⟩|h
   ·simp at h
   ·simp at h
   ·exact h.2)⟩)
 |same h2 ih=>
  intro i y hy
  cases i with
  |zero=>exact .inl hy
  |succ i=>exact (ih i y (by simpa using hy)).imp id (Or.imp id (fun h=>⟨Nat.succ_le_succ h.1,h.2⟩))
 |gone h2 ih=>
  intro i y hy
  cases i with
  |zero=>simp at hy
  |succ i=>exact (ih i y (by simpa using hy)).imp id (Or.imp id (fun h=>⟨Nat.succ_le_succ h.1,h.2⟩))
 |row h1 h2 ih=>
  intro i y hy
  cases i with
  |zero=>simp at hy;subst hy;exact .inr (.inl ⟨_,_,_,_,_,rfl,rfl,h1⟩)
  |succ i=>exact (ih i y (by simpa using hy)).imp id (Or.imp id (fun h=>⟨Nat.succ_le_succ h.1,h.2⟩))
theorem ir.lax {vs vs':List AV} {os os':List (Option bh)} {aw:Nat} (D:List Nat) (hlen':os'.length≤dk) (hv:dz (bk (v5 D 0 os)).h vs vs') (ho:cb (bk (v5 D 0 os)).h (yr D 0 os) os'):ir aw vs os vs' os':=by
 have holen:os.length≤os'.length:=by have:=ho.len;rw [Kf] at this;exact this
 have hlen:os.length≤dk:=Nat.le_trans holen hlen'
 refine ⟨hv.len,fun q=>Nat.le_trans q holen,fun g w us hok hfree hr=>?_⟩
 obtain ⟨hD,ehD⟩:∃ hD,(bk (v5 D 0 os)).h=hD:=⟨_,rfl⟩
 rw [ehD] at hv ho
 have ed:∀ o,(bk os).h.get o=(os[o]?).join:=Tt os hlen
 have hgetD:∀ o,hD.get o=if o ∈ D then (os[o]?).join else none:=fun o=>by
  rw [← ehD,Tt _ (by rw [Wv];exact hlen),Vg,Nat.zero_add]
 have hget':∀ o y,(bk os').h.get o=some y→(o ∉ D∧((bk os).h.get o=some y∨∃ cells cells' k st et,y = .row cells' k st et∧(bk os).h.get o=some (.row cells k st et)∧dz hD cells cells'))∨(os.length≤o∧Gd y):=fun o y hy=>by
  rw [Tt _ hlen'] at hy
  have hmid:∀ z,((yr D 0 os)[o]?).join=some z→o ∉ D∧(os[o]?).join=some z:=fun z hz=>by
   rw [Wo,Nat.zero_add] at hz
   by_cases hd:o ∈ D
   ·rw [if_pos hd] at hz;cases hz
   ·rw [if_neg hd] at hz;exact ⟨hd,hz⟩
  rw [ed]
  rcases ho.get o y hy with h1|⟨cells,cells',k,st,et,h1,h2,h3⟩|h1
  ·exact .inl ⟨(hmid _ h1).1,.inl (hmid _ h1).2⟩
  ·exact .inl ⟨(hmid _ h2).1,.inr ⟨cells,cells',k,st,et,h1,(hmid _ h2).2,h3⟩⟩
  ·rw [Kf] at h1;exact .inr h1
 have hsub:∀ o x,hD.get o=some x→o ∈ D∧(bk os).h.get o=some x:=fun o x hx=>by
  rw [hgetD] at hx
  by_cases hd:o ∈ D
  ·rw [if_pos hd] at hx;rw [ed];exact ⟨hd,hx⟩
  ·rw [if_neg hd] at hx;cases hx
 have hokD:Ok g hD w:=hok.part (fun o x hx=>(hsub o x hx).2)
 obtain ⟨K',eK⟩:∃ K':Nat→Nat→Prop,(fun b j=>g.K b j∨∃ o base cells k s e,hD.get o=some (.row cells k s e)∧g.inj o=some (b,base)∧∃ i,(s=0∨i<cells.length)∧j=base+i)=K':=⟨_,rfl⟩
 have hK':∀ b j,K' b j↔(g.K b j∨∃ o base cells k s e,hD.get o=some (.row cells k s e)∧g.inj o=some (b,base)∧∃ i,(s=0∨i<cells.length)∧j=base+i):=fun b j=>by rw [← eK]
 have hlend:v7 g hD K':=⟨fun b j h=>(hK' b j).2 (.inl h),fun o cells k s e h b base hi j hj=>(hK' _ _).2 (.inr ⟨o,base,cells,k,s,e,h,hi,j,hj,rfl⟩)⟩
 have hlax:∀ {a b:AV} {v:Value},eh hD a b→Rel g w a v→Rel { g with K:=K' } w b v:=fun {a b v} hl hrel=>by
  have hup:Rel { g with K:=K' } w a v:=Rel.ext (g:=g) (w:=w) (g':={ g with K:=K' }) (w':=w) ⟨rfl,fun _ _ h=>h,fun b j h=>(hK' b j).2 (.inl h),fun _ _ _=>rfl,fun b cs e fr h=>⟨cs,fr,h,rfl⟩,fun b l h=>⟨l,h⟩,fun _ _ _ _ _ _=>rfl⟩ hrel
  cases hl with
  |same=>exact hup
  |data C fr x a hd=>exact (C.Rr hokD hlend (fun _=>Nat.le_refl g.b0) hrel hd).lift (Nat.le_refl _) (fun _ _ h=>h)
  |bad=>exact .bad _
  |nil o off sz=>obtain rfl:=hup.exact rfl;exact .tf _ _ _
  |ly loc sz=>obtain rfl:=hup.exact rfl;exact .j4 _ _
 refine ⟨{ g with K:=K' },⟨hok.size,fun o y hy=>?_,fun o o' x x' b base base' hne hx hx' hb hb'=>?_,fun b j hk=>?_⟩,⟨by rw [hv.len];exact hr.1,fun i b v hb hv'=>?_⟩,rfl,fun o q=>hfree o (Nat.le_trans holen q),fun _ _=>rfl,fun b j h=>(hK' b j).2 (.inl h),fun o b base ho' hi'=>?_,fun b j hk=>?_⟩
 ·rcases hget' o y hy with ⟨hnd,hy⟩|⟨hge,hgh⟩
  case inr=>exact .inl ⟨hfree o hge,hgh⟩
  have hKo:∀ b base,g.inj o=some (b,base)→((bk os).h.get o).isSome=true→∀ j,K' b j→g.K b j:=fun b base hi hs j hk=>by
   rcases (hK' b j).1 hk with h|⟨o2,base2,cells,k,s,e,h1,h2,_⟩
   ·exact h
   ·exfalso
    obtain ⟨hd2,h1'⟩:=hsub o2 _ h1
    obtain ⟨x,hx⟩:=Option.isSome_iff_exists.1 hs
    exact hok.sep o o2 x _ b base base2 (fun e=>hnd (by rw [e];exact hd2)) hx h1' hi h2
  have hext:Ext g w { g with K:=K' } w:=⟨rfl,fun _ _ h=>h,fun b j h=>(hK' b j).2 (.inl h),fun _ _ _=>rfl,fun b cs e fr h=>⟨cs,fr,h,rfl⟩,fun b l h=>⟨l,h⟩,fun _ _ _ _ _ _=>rfl⟩
  rcases hy with hy|⟨cells,cells',k,st,et,rfl,hy,hcl⟩
  ·refine (hok.qi o y hy).imp id ?_
   rintro ⟨b,base,h1,h2,h3⟩
   exact ⟨b,base,h1,h2,h3.ext hext rfl (fun j hj=>hKo b base h1 (by rw [hy];rfl) j hj)⟩
  ·refine (hok.qi o _ hy).imp (fun q=>⟨q.1,by
    obtain ⟨s0,e0,he⟩:=q.2
    simp only [bh.row.injEq] at he
    obtain ⟨rfl,rfl,rfl,rfl⟩:=he
    cases hcl
    exact ⟨_,_,rfl⟩⟩) ?_
   rintro ⟨b,base,h1,h2,cs,fr,r1,r2,r3,r4,r5,r6,r7⟩
   refine ⟨b,base,h1,h2,cs,fr,r1,by rw [hcl.len];exact r2,fun j c hc=>?_,r4,fun j hj=>r5 j (hKo b base h1 (by rw [hy];rfl) j hj),r6,fun e=>by rw [hcl.len];exact r7.1 e,fun e=>by rw [hcl.len];exact r7.2 e⟩
   obtain ⟨a,ha,hla⟩:=hcl.get j c hc
   obtain ⟨u,hu,hru⟩:=r3 j a ha
   exact ⟨u,hu,hlax hla hru⟩
 ·have q:∀ o y p,(bk os').h.get o=some y→g.inj o=some p→∃ z,(bk os).h.get o=some z:=fun o y p hy hp=>by
   rcases hget' o y hy with ⟨_,h|⟨_,_,_,_,_,_,h,_⟩⟩|⟨h,_⟩
   ·exact ⟨_,h⟩
   ·exact ⟨_,h⟩
   ·rw [hfree o h] at hp;cases hp
  obtain ⟨z,hz⟩:=q o x _ hx hb
  obtain ⟨z',hz'⟩:=q o' x' _ hx' hb'
  exact hok.sep o o' z z' b base base' hne hz hz' hb hb'
 ·rcases (hK' b j).1 hk with h|⟨o,base,cells,k,s,e,h1,h2,_⟩
  ·exact hok.K b j h
  ·obtain ⟨b',base',h3,_,h4⟩:=hokD.obj o _ h1
   rw [h2] at h3;cases h3
   exact h4.lt
 ·obtain ⟨a,ha,hla⟩:=hv.get i b hb
  exact hlax hla (hr.2 i a v ha hv')
 ·obtain ⟨y,hy⟩:=Option.isSome_iff_exists.1 ho'
  rcases hget' o y hy with ⟨_,h|⟨_,_,_,_,_,_,h,_⟩⟩|⟨h,_⟩
  ·exact ⟨o,base,by rw [h];rfl,hi'⟩
  ·exact ⟨o,base,by rw [h];rfl,hi'⟩
  ·have:g.inj o=some (b,base):=hi'
   rw [hfree o h] at this;cases this
 ·rcases (hK' b j).1 hk with h|⟨o,base,cells,k,s,e,h1,h2,_⟩
  ·exact .inl h
  ·exact .inr ⟨o,base,by rw [(hsub o _ h1).2];rfl,h2⟩
theorem Xf {α:Type} {P:Program} {T:ec} {aw:Nat} {b:Code} {Q:QL} {L:SL} {st:St} (keep:List Nat) (V : α→List AV) (O : α→List (Option bh)) (I : α→Prop) (μ : α→Nat) (x : α) (hx:I x)
 (hv:ir aw (gi aw keep L st) (ep aw keep L st) (V x) (O x))
 (step:∀ x,I x→wl P T aw b (uq aw keep (fun vs os=>∃ y,I y ∧ μ y < μ x∧ir aw vs os (V y) (O y)) Q) (gu keep (V x)) (bk (O x))):qo aw (wl P T aw b) Q L st:=
 qo.arb keep V O I μ x hx hv (fun _ _ h=>Ai b _ _ h) step
theorem fo {α:Type} {P:Program} {T:ec} {aw:Nat} {b:Code} {Q:QL} {L:SL} {st:St} (keep:List Nat) (V : α→List AV) (O : α→List (Option bh)) (I : α→Prop) (μ : α→Nat) (x : α) (hx:I x)
 (hv:ir aw (gi aw keep L st) (ep aw keep L st) (V x) (O x))
 (step:∀ x,I x→wl P T aw b (uq aw keep (fun vs os=>∃ y,I y ∧ μ y < μ x∧vs=V y∧os=O y) Q) (gu keep (V x)) (bk (O x))):qo aw (wl P T aw b) Q L st:=
 Xf keep V O I μ x hx hv (fun x hi=>Ai b _ _ (fun e L' st' hq=>by
  cases e with
  |normal=>
   obtain ⟨y,h1,h2,h3,h4⟩:=hq
   refine ⟨y,h1,h2,?_⟩
   rw [h3,h4];exact .refl _ _ _
  |exit id=>exact hq
  |ret=>exact hq) _ _ (step x hi))
theorem E3 (f) (l):(List.map (ai.val f) l).flatMap AV.cells=l.map (ai.val f):=Ml ai f rfl rfl l
theorem Ta (f) (l):(List.map (ai.val f) l).all AV.one=true:=by rw [← E3 f l,Ha];exact vt _ _ _
theorem Ii (fr h n cells k st et) (hn:n=cells.length) (hro:B8 fr st 1 .str et=true):kq ai fr h 0 n (.row cells k st et)=oq ai fr h cells:=uy ai rfl fr h n cells k st et hn hro
theorem Xp:ai.kd = .str:=id rfl
theorem Nm (fr h f) (l):oq ai fr h (List.map (ai.val f) l)=some l:=by
 have e:List.map (ai.val f) l=List.map (ai.val true) l:=by cases f<;>rfl
 rw [e];exact Dn ai rfl rfl fr h true (fun _=>rfl) l
theorem Hz (f) (l):(List.map (bg.val f) l).flatMap AV.cells=l.map (bg.val f):=Ml bg f rfl rfl l
theorem V5 (f) (l):(List.map (bg.val f) l).all AV.one=true:=by rw [← Hz f l,Ha];exact vt _ _ _
theorem I8 (fr h n cells k st et) (hn:n=cells.length) (hro:B8 fr st 1 (.int .u8) et=true):kq bg fr h 0 n (.row cells k st et)=oq bg fr h cells:=uy bg rfl fr h n cells k st et hn hro
theorem Y3:bg.kd=(.int .u8):=id rfl
theorem Rh (fr h f) (l):oq bg fr h (List.map (bg.val f) l)=some l:=by
 have e:List.map (bg.val f) l=List.map (bg.val true) l:=by cases f<;>rfl
 rw [e];exact Dn bg rfl rfl fr h true (fun _=>rfl) l
theorem Fg (f) (l):(List.map (cg.val f) l).flatMap AV.cells=l.map (cg.val f):=Ml cg f rfl rfl l
theorem Ra (f) (l):(List.map (cg.val f) l).all AV.one=true:=by rw [← Fg f l,Ha];exact vt _ _ _
theorem Ic (fr h n cells k st et) (hn:n=cells.length) (hro:B8 fr st 1 (.int .u32) et=true):kq cg fr h 0 n (.row cells k st et)=oq cg fr h cells:=uy cg rfl fr h n cells k st et hn hro
theorem Xo:cg.kd=(.int .u32):=id rfl
theorem Oc (fr h f) (l):oq cg fr h (List.map (cg.val f) l)=some l:=by
 have e:List.map (cg.val f) l=List.map (cg.val true) l:=by cases f<;>rfl
 rw [e];exact Dn cg rfl rfl fr h true (fun _=>rfl) l
theorem Fz (fr h n cells k st et) (hn:n=cells.length) (hro:B8 fr st 1 .no et=true):kq aq fr h 0 n (.row cells k st et)=oq aq fr h cells:=uy aq rfl fr h n cells k st et hn hro
theorem K5 (fr h f) (l) (hf:(f || !fr)=true):oq aq fr h (List.map (aq.val f) l)=some l:=Dn aq rfl rfl fr h f (fun e=>by subst e;simpa using hf) l
theorem I9 (fr h l n xs) (hn:n=1) (hl:(l || !fr)=true):ij ai fr h (.vl l n (xs.map (ai.val false)))=some xs:=by
 cases l with
 |true=>exact sx ai fr h true xs n hn hl
 |false=>exact sx ai fr h false xs n hn hl
theorem Q6:ai.val true=ai.val false:=id rfl
theorem Ni (fr h l n xs) (hn:n=1) (hl:(l || !fr)=true):ij bg fr h (.vl l n (xs.map (bg.val false)))=some xs:=by
 cases l with
 |true=>exact sx bg fr h true xs n hn hl
 |false=>exact sx bg fr h false xs n hn hl
theorem Vb:bg.val true=bg.val false:=id rfl
theorem Jk (fr h l n xs) (hn:n=1) (hl:(l || !fr)=true):ij cg fr h (.vl l n (xs.map (cg.val false)))=some xs:=by
 cases l with
 |true=>exact sx cg fr h true xs n hn hl
 |false=>exact sx cg fr h false xs n hn hl
theorem Pq:cg.val true=cg.val false:=id rfl
theorem W9 (fr h) (c:UInt8):bg.dec fr h [.sc (.int .u8 c.toNat)]=some c:=bg.rt fr h true c (fun _=>rfl)
theorem Rq (fr h) (c:UInt16):cw.dec fr h [.sc (.int .u16 c.toNat)]=some c:=cw.rt fr h true c (fun _=>rfl)
theorem Qw (fr h) (c:UInt32):cg.dec fr h [.sc (.int .u32 c.toNat)]=some c:=cg.rt fr h true c (fun _=>rfl)
theorem Xm (a b:List AV):AV.fresh.go (a++b)=(AV.fresh.go a && AV.fresh.go b):=by
 induction a with
 |nil=>rfl
 |cons x a ih=>simp only [List.cons_append,AV.fresh.go,ih,Bool.and_assoc]
theorem ad0 (f) (l:List UInt8):AV.fresh.go (l.map (bg.val f))=true:=by
 induction l with
 |nil=>rfl
 |cons x l ih=>simp only [List.map_cons,AV.fresh.go,ih];rfl
theorem Ny (f) (c:Name):(aq.val f c).one=true:=id rfl
theorem Is (f) (c:Name):(aq.val f c).cells=[aq.val f c]:=id rfl
theorem Wx (fr h a):(br bg).dec fr h [a]=ij bg fr h a:=id rfl
theorem Jb (fr h n cells k st et) (hn:n=cells.length) (hro:B8 fr st 1 .no et=true):kq (br bg) fr h 0 n (.row cells k st et)=oq (br bg) fr h cells:=uy (br bg) rfl fr h n cells k st et hn hro
structure k8 (B:fj) (nt:NT) (L:SL) (st:St) (g:Gh) (a:Act) (w:World):Prop where
 cur:jh B g st w
 sl:gv g w nt L a.tmps
 Fs:Marks B.D B.n0 st.h g w a.defers
theorem qg.n0 {B:fj} {n d g h w} (q:qg B g h w):qg { B with n0:=n,D:=d } g h w:=⟨q.b0,q.pins,q.K,q.cell,q.size,q.os,q.tape,q.output,q.frame,q.own,q.oh,q.rn,q.lp,q.whole⟩
theorem qg.aw9 {B:fj} {n d g h w} (q:qg { B with n0:=n,D:=d } g h w):qg B g h w:=⟨q.b0,q.pins,q.K,q.cell,q.size,q.os,q.tape,q.output,q.frame,q.own,q.oh,q.rn,q.lp,q.whole⟩
theorem jh.n0 {B:fj} {n d g st w} (q:jh B g st w):jh { B with n0:=n,D:=d } g st w:=⟨q.ok,q.fresh,q.base.n0,q.aw⟩
theorem piece {P:Program} [KP P] {T:ec} (hT:ak P T) (hm:P.follows .mixedOrders=true) {N:Nat} {B:fj} {nt:NT} (hnf:B.lr) (hp:B.aw≤1000) (hn0:B.n0≤B.w.heap.size) {c:Code} (hs:du nt c=true) {Q:QL} {L:SL} {st:St} {g:Gh} {a:Act} {w:World}
 (h:wl P T B.aw c Q L st) (hh:k8 B nt L st g a w) :
 c.wpIn (g8 none) N P (fun ex a' w'=>∃ e L' st' g',ex=pz e∧Q e L' st'∧k8 B nt L' st' g' a' w'∧qg (j6 g st.h w B.aw (fun _=>False)) g' st'.h w') a w:=by
 have hc1:jh { j6 g st.h w B.aw (fun _=>False) with n0:=B.n0,D:=B.D } g st w:=(hh.cur.N4 B.aw (fun _=>False) hh.cur.aw (fun o h=>(hnf o h).elim)).n0
 refine wpIn_mono (aii hT hm (N:=N) (B:={ j6 g st.h w B.aw (fun _=>False) with n0:=B.n0,D:=B.D }) (nt:=nt) (fun _ h=>h) hp (Nat.le_trans hn0 hh.cur.base.size) c hs Q L st g w a h hc1 hh.sl hh.Fs) ?_
 rintro ex a' w' ⟨e,L',st',g',rfl,hq,hc',hr',hd'⟩
 have hb:=hc'.base.aw9 (B:=j6 g st.h w B.aw (fun _=>False))
 exact ⟨e,L',st',g',rfl,hq,⟨⟨hc'.ok,fun o h1 _=>hc'.fresh o h1 (fun h=>h),hh.cur.base.comp hb (Nat.le_refl _) (fun o h=>(hnf o h).elim) (fun _ h=>h.elim),hc'.aw⟩,hr',hd'⟩,hb⟩
structure ayt (g:Gh) (w:World) (g':Gh) (w':World):Prop where
 b0:g'.b0=g.b0
 K:∀ b j,g.K b j→g'.K b j
 cell:∀ b j,g.K b j→w'.cell? ⟨b,j,none⟩=w.cell? ⟨b,j,none⟩
 rn:∀ (b:Nat) (cs:Array Value) (e:TypeId) (fr:Nat × Nat),w.heap[b]? = some (Obj.cells cs e fr)→∃ (cs':Array Value) (fr':Nat × Nat),w'.heap[b]? = some (Obj.cells cs' e fr')∧cs'.size=cs.size
 lp:∀ (b:Nat) (l:Loop),w.heap[b]? = some (Obj.loop l)→∃ l',w'.heap[b]? = some (Obj.loop l')
 whole:∀ (b:Nat) (cs:Array Value) (e:TypeId) (fr:Nat × Nat),w.heap[b]? = some (Obj.cells cs e fr)→(∀ j,g.K b j)→w'.heap[b]? = w.heap[b]?
theorem k8.canon {B:fj} {nt L st g a w} (hnf:B.lr) (hp:B.aw≤1000) (keep:List Nat) (h:k8 B nt L st g a w):k8 B nt (gu keep (gi B.aw keep L st)) (bk (ep B.aw keep L st)) (g.dr (gj B.aw keep L st)) a w:=
 ⟨(D1 hnf hp keep h.cur h.sl).1,(D1 hnf hp keep h.cur h.sl).2,A2 hp keep h.Fs⟩
theorem akd {P:Program} [KP P] {N:Nat} {F:Fence} {c:Code} {Q:Exit→Act→World→Prop} {α:Type} (I : α→Act→World→Prop) (μ : α→Nat)
 (h:∀ x a w,I x a w→c.wpIn F N P (Exit.then (fun a' w'=>∃ y,μ y < μ x∧I y a' w') Q) a w) (x : α) (a:Act) (w:World) (hi:I x a w):(Code.loop c).wpIn F N P Q a w:=by
 refine zb fun X hX=>?_
 have key:∀ n x a w,μ x=n→I x a w→X a w:=by
  intro n
  induction n using Nat.strongRecOn with
  |_ n ih=>
   intro x a w hn hi
   refine hX a w (wpIn_mono (h x a w hi) ?_)
   intro ex a' w' hq
   cases ex with
   |normal=>
    obtain ⟨y,h1,h2⟩:=hq
    exact ih (μ y) (by omega) y a' w' rfl h2
   |exit id=>exact hq
   |goto l=>exact hq
   |ret=>exact hq
   |panic ch=>exact hq
   |outgrown=>exact hq
 exact key _ x a w rfl hi
theorem C6 {P:Program} [KP P] {f:Nat} {fn:Func} {body:Code} (hf:P.funcs[f]? = some fn) (hb:fn.body=some body) (he:nv P f=true)
 {args:List AV} (hl:args.length≤fn.ntmps) {ρ:Type} (R:RC ρ) (fr:Bool) (x : ρ)
 (h:∀ (B:fj) (g:Gh) (a:Act) (w:World),B.lr→B.aw=0→(∀ b,¬ B.O b)→B.n0≤B.w.heap.size→k8 B fn.ntmps (cd 0 args) (bk []) g a w→body.wpIn (g8 none) 0 P (Fin B fn.ntmps (db P fn.results.toList (fun r st=>R.get fr st.h r=some x))) a w):bc P f args (R.E fr x):=by
 intro K w vs hK hrel
 refine .inr ⟨ur he _ _,wk (ro:=none) (n:=0) (callsIn_of_wp_marks hf hb trivial ?_)⟩
 let B:fj:={ b0:=w.heap.size,w,K,O:=fun _=>False,aw:=0,pb:=fun _=>none,n0:=w.heap.size }
 have hcur:jh B (gK w.heap.size K) (bk []) w:=by
  refine ⟨⟨Nat.le_refl _,fun o x hx=>?_,fun o o' x x' b base base' _ hx=>?_,hK⟩,fun o _ _=>rfl,⟨rfl,(fun o ho=>(by rcases ho with ho|ho;cases ho;exact ho.elim)),fun _ _ h=>h,fun _ _ _=>rfl,Nat.le_refl _,rfl,rfl,rfl,fun _ _ _=>rfl,fun o b base ho=>?_,fun _ _ h=>.inl h,fun b cs e fr h=>⟨cs,fr,h,rfl⟩,fun b l h=>⟨l,h⟩,fun _ _ _ _ _ _=>rfl⟩,Nat.zero_le _⟩
  ·simp [bk,l5,Tr.get_nil] at hx
  ·simp [bk,l5,Tr.get_nil] at hx
  ·simp [bk,l5,Tr.get_nil] at ho
 refine wpIn_mono (h B (gK w.heap.size K) _ w (fun _ h=>h) rfl (fun _ h=>h) (Nat.le_refl _) ⟨hcur,Cc hrel hl,Marks.nil _ _ _ _⟩) ?_
 rintro ex a w' ⟨e,L,st,g,rfl,hq,hc,hr,hd⟩
 have fin:E8 (ri P L st fn.results.toList) (fun r st=>R.get fr st.h r=some x) st→bodyPostM (g8 none) 0 P fn (fun e w'=>∃ v,e = .returned v∧yz w w'∧Rel (gK w.heap.size (Ju K w w')) w' (R.E fr x) v) .ret a w':=by
  intro hq
  show LeavesInM (g8 none) 0 P fn a.tmps _ a.defers .returning w'
  unfold E8 at hq
  cases hres:ri P L st fn.results.toList with
  |none=>rw [hres] at hq;exact hq.elim
  |some l=>
   rw [hres] at hq
   have hbs:=hc.base
   obtain ⟨bs,e1,e2,e3⟩:=hd
   have e1:=e1.trans (List.append_nil _)
   rw [e1]
   refine Ff (Good:=fun u=>Ok g st.h u∧yz w u∧(∀ a v,Rel g w' a v→Rel g u a v)∧u.heap.size=w'.heap.size) (S:=fun b=>w.heap.size≤b∧ia g st.h b) ?_ ?_ bs w'
    ⟨hc.ok,⟨hbs.size,fun b hlt=>hbs.frame b hlt (fun h=>h),hbs.os,hbs.tape,hbs.output⟩,fun _ _ h=>h,rfl⟩ e2 (fun b hb=>⟨⟨(e3 b hb).1,(e3 b hb).2.2⟩,(e3 b hb).2.1⟩)
   ·rintro u b ⟨g1,g2,g3,g4⟩ ⟨hb1,hb2⟩ hb3
    have hput:=Ok.E6 (ds':=none) g1 hb3 hb2
    exact ⟨hput.1,⟨by rw [lg];exact g2.size,fun c hc=>(ef u _ (by omega)).trans (g2.heap c hc),g2.os,g2.tape,g2.output⟩,fun a v h=>hput.2 a v (g3 a v h),by rw [lg];exact g4⟩
   ·rintro u ⟨g1,g2,g3,g4⟩
    obtain ⟨us,h1,h2⟩:=U6 (P:=P) g1 ⟨hr.1,fun t=>g3 _ _ (hr.2 t)⟩ fn.results.toList l hres
    obtain ⟨v,h3,h4⟩:=Uo h1 h2
    refine ⟨v,h3,v,rfl,g2,?_⟩
    refine R.ok g1 ⟨fun b j hk=>?_,fun o cells k s e ho b base hi j hj=>?_⟩ (fun _=>?_) h4 hq
    ·rcases hbs.oh b j hk with h5|h5|h5
     ·exact .inl h5
     ·exact .inr ⟨h5,g1.K b j hk⟩
     ·exact h5.elim
    ·obtain ⟨b',base',h5,_,h6⟩:=g1.obj o _ ho
     rw [hi] at h5;cases h5
     rcases hbs.own o b base (by rw [ho];rfl) hi with h7|h7
     ·exact .inr ⟨h7,h6.lt⟩
     ·exact h7.elim
    ·rw [hbs.b0];exact Nat.le_refl _
 cases e with
 |normal=>exact fin hq
 |ret=>exact fin hq
 |exit id=>exact hq.elim
def ml (S:Nat→Prop) (M:Nat) (w:World) (k:LK) (v:Value):Prop:=
 (∃ a,v = .slice a 0 0)∨∃ (b off n cap:Nat) (cs:Array Value) (e:TypeId),v = .slice (some ⟨b,off,none⟩) n cap∧S b∧(n≤cap∧cap≤maxLen)∧w.heap[b]? = some (.cells cs e (0,0))∧TK.sz e=some 1∧off+cap≤cs.size ∧
  ∀ (j:Nat) x,j<cap→cs[off+j]? = some x→ld x=k∧∀ s,x = .string s→s.size≤M
def j9 (S:Nat→Prop) (N:Nat) (w:World) (sz:Nat) (E:World→List Value→Prop) (v:Value):Prop:=
 (∃ a,v = .slice a 0 0)∨∃ (b off n cap:Nat) (cs:Array Value) (e:TypeId),v = .slice (some ⟨b,off,none⟩) n cap∧n≤N∧S b∧(n≤cap∧cap≤maxLen)∧w.heap[b]? = some (.cells cs e (0,0))∧TK.sz e=some sz∧off % sz=0∧off+cap * sz≤cs.size ∧
  ∀ j,j<n→E w ((List.range sz).map fun i=>cs.getD (off+j * sz+i) undef)
theorem ml.slice {S M w k v} (h:ml S M w k v):ld v = .no:=by
 rcases h with ⟨a,rfl⟩|⟨b,off,n,cap,cs,e,rfl,_⟩<;>rfl
theorem j9.slice {S N w sz E v} (h:j9 S N w sz E v):ld v = .no:=by
 rcases h with ⟨a,rfl⟩|⟨b,off,n,cap,cs,e,rfl,_⟩<;>rfl
def Kept (S:Nat→Prop) (m:Nat) (xx:Bool) (w':World) (e:TypeId) (j:Nat) (x x':Value):Prop:=
 x'=x∨(ld x ≠ .no∧ld x'=ld x∧∀ s',x' = .string s'→∃ s,x = .string s∧s'.size≤s.size+m)∨((xx=true∧TK.sz e=some 4)∧((j % 4≠2∧x' = .slice none 0 0)∨(j % 4=2∧ml S (4+m) w' .str x')))
structure ib (S:Nat→Prop) (m:Nat) (xx:Bool) (w w':World):Prop where
 size:w.heap.size≤w'.heap.size
 os:w'.os=w.os
 tape:w'.tape=w.tape
 output:w'.output=w.output
 low:∀ b,b<w.heap.size→¬ S b→w'.heap[b]? = w.heap[b]?
 obj:∀ (b:Nat) o,w.heap[b]? = some o→(∀ cs e fr,o ≠ .cells cs e fr)→w'.heap[b]? = some o
 cells:∀ (b:Nat) (cs:Array Value) (e:TypeId) (fr:Nat × Nat),w.heap[b]? = some (.cells cs e fr)→∃ cs',w'.heap[b]? = some (.cells cs' e fr)∧cs'.size=cs.size ∧
  ∀ (j:Nat) x x',cs[j]? = some x→cs'[j]? = some x'→Kept S m xx w' e j x x'
theorem ib.refl (S:Nat→Prop) (m:Nat) (xx:Bool) (w:World):ib S m xx w w where
 size:=Nat.le_refl _
 os:=rfl
 tape:=rfl
 output:=rfl
 low _ _ _:=rfl
 obj _ _ h _:=h
 cells _ cs _ _ h:=⟨cs,h,rfl,fun j x x' h1 h2=>.inl (by rw [h1] at h2;cases h2;rfl)⟩
theorem ib.quiet (S:Nat→Prop) (m:Nat) (xx:Bool) {w w':World} (hs:w.heap.size≤w'.heap.size) (ho:w'.os=w.os) (ht:w'.tape=w.tape) (hu:w'.output=w.output) (hh:∀ b,b<w.heap.size→w'.heap[b]? = w.heap[b]?):ib S m xx w w' where
 size:=hs
 os:=ho
 tape:=ht
 output:=hu
 low b hb _:=hh b hb
 obj b o h _:=(hh b (bt h)).trans h
 cells b cs e fr h:=⟨cs,(hh b (bt h)).trans h,rfl,fun j x x' h1 h2=>.inl (by rw [h1] at h2;cases h2;rfl)⟩
theorem ml.mono {S M M' w k v} (h:ml S M w k v) (hM:M≤M'):ml S M' w k v:=by
 rcases h with h|⟨b,off,n,cap,cs,e,h0,h1,h2,h3,h4,h5,h6⟩
 ·exact .inl h
 ·exact .inr ⟨b,off,n,cap,cs,e,h0,h1,h2,h3,h4,h5,fun j x hj hx=>⟨(h6 j x hj hx).1,fun s hs=>Nat.le_trans ((h6 j x hj hx).2 s hs) hM⟩⟩
theorem ml.nk {S m M xx w w' k v} (hk:k ≠ .no) (h:ib S m xx w w') (hl:ml S M w k v):ml S (M+m) w' k v:=by
 rcases hl with hl|⟨b,off,n,cap,cs,e,rfl,h1,h2,h3,h4,h5,h6⟩
 ·exact .inl hl
 ·obtain ⟨cs',q1,q2,q3⟩:=h.cells b cs e _ h3
  refine .inr ⟨b,off,n,cap,cs',e,rfl,h1,h2,q1,h4,by omega,fun j x' hj hx'=>?_⟩
  have hlt:off+j<cs.size:=by omega
  have hx:=Array.getElem?_eq_getElem hlt
  obtain ⟨hk',hm'⟩:=h6 j _ hj hx
  rcases q3 _ _ _ hx hx' with q|⟨_,q,qs⟩|⟨q,_⟩
  ·rw [q];exact ⟨hk',fun s hs=>by have:=hm' s hs;omega⟩
  ·refine ⟨by rw [q];exact hk',fun s hs=>?_⟩
   obtain ⟨s0,e1,e2⟩:=qs s hs
   have:=hm' s0 e1;omega
  ·have:=q.2;rw [h4] at this;cases this
theorem Kept.mono {S:Nat→Prop} {m m':Nat} {xx:Bool} {w:World} {e:TypeId} {j:Nat} {x y:Value} (hm:m≤m') (h:Kept S m xx w e j x y):Kept S m' xx w e j x y:=by
 rcases h with h|⟨h1,h2,h3⟩|⟨h1,h2⟩
 ·exact .inl h
 ·exact .inr (.inl ⟨h1,h2,fun s' hs=>by obtain ⟨s,e1,e2⟩:=h3 s' hs;exact ⟨s,e1,by omega⟩⟩)
 ·exact .inr (.inr ⟨h1,h2.imp id (fun q=>⟨q.1,q.2.mono (by omega)⟩)⟩)
theorem Kept.any {S:Nat→Prop} {m:Nat} {xx:Bool} {w:World} {e:TypeId} {j:Nat} {x y:Value} (h:Kept S m false w e j x y):Kept S m xx w e j x y:=by
 rcases h with h|h|⟨⟨h,_⟩,_⟩
 ·exact .inl h
 ·exact .inr (.inl h)
 ·cases h
theorem ib.mono {S m m' xx w w'} (hm:m≤m') (h:ib S m xx w w'):ib S m' xx w w':=
 ⟨h.size,h.os,h.tape,h.output,h.low,h.obj,fun b cs e fr hb=>by
  obtain ⟨cs',q1,q2,q3⟩:=h.cells b cs e fr hb
  exact ⟨cs',q1,q2,fun j x x' hx hx'=>(q3 j x x' hx hx').mono hm⟩⟩
theorem ib.any {S m xx w w'} (h:ib S m false w w'):ib S m xx w w':=
 ⟨h.size,h.os,h.tape,h.output,h.low,h.obj,fun b cs e fr hb=>by
  obtain ⟨cs',q1,q2,q3⟩:=h.cells b cs e fr hb
  exact ⟨cs',q1,q2,fun j x x' hx hx'=>(q3 j x x' hx hx').any⟩⟩
theorem Kept.trans {S:Nat→Prop} {m1 m2:Nat} {xx:Bool} {w1 w2:World} {e:TypeId} {j:Nat} {x y z:Value} (h1:Kept S m1 xx w1 e j x y) (ho:ib S m2 xx w1 w2) (h2:Kept S m2 xx w2 e j y z):Kept S (m1+m2) xx w2 e j x z:=by
 rcases h1 with rfl|⟨a1,a2,a3⟩|⟨a1,a2⟩
 ·exact h2.mono (by omega)
 ·rcases h2 with rfl|⟨b1,b2,b3⟩|b
  ·exact .inr (.inl ⟨a1,a2,fun s' hs=>by obtain ⟨s,e1,e2⟩:=a3 s' hs;exact ⟨s,e1,by omega⟩⟩)
  ·refine .inr (.inl ⟨a1,b2.trans a2,fun s' hs=>?_⟩)
   obtain ⟨s1,e1,e2⟩:=b3 s' hs
   obtain ⟨s,e3,e4⟩:=a3 s1 e1
   exact ⟨s,e3,by omega⟩
  ·exact .inr (.inr ⟨b.1,b.2.imp id (fun q=>⟨q.1,q.2.mono (by omega)⟩)⟩)
 ·rcases h2 with rfl|⟨b1,b2,b3⟩|b
  ·refine .inr (.inr ⟨a1,a2.imp id (fun q=>⟨q.1,(q.2.nk (by decide) ho).mono (by omega)⟩)⟩)
  ·rcases a2 with ⟨_,rfl⟩|⟨_,q⟩
   ·exact absurd rfl b1
   ·exact absurd q.slice b1
  ·exact .inr (.inr ⟨b.1,b.2.imp id (fun q=>⟨q.1,q.2.mono (by omega)⟩)⟩)
theorem ib.trans {S m1 m2 xx w1 w2 w3} (h1:ib S m1 xx w1 w2) (h2:ib S m2 xx w2 w3):ib S (m1+m2) xx w1 w3 where
 size:=Nat.le_trans h1.size h2.size
 os:=h2.os.trans h1.os
 tape:=h2.tape.trans h1.tape
 output:=h2.output.trans h1.output
 low b hb hS:=(h2.low b (Nat.lt_of_lt_of_le hb h1.size) hS).trans (h1.low b hb hS)
 obj b o h hn:=h2.obj b o (h1.obj b o h hn) hn
 cells b cs e fr h:=by
  obtain ⟨cs1,a1,a2,a3⟩:=h1.cells b cs e fr h
  obtain ⟨cs2,b1,b2,b3⟩:=h2.cells b cs1 e fr a1
  refine ⟨cs2,b1,b2.trans a2,fun j x z hx hz=>?_⟩
  have hlt:j<cs1.size:=by rw [a2];exact (Array.getElem?_eq_some_iff.1 hx).1
  have hy:=Array.getElem?_eq_getElem hlt
  exact (a3 j x _ hx hy).trans h2 (b3 j _ z hy hz)
def Ro (S:Nat→Prop) (sz:Nat) (E:Nat→World→List Value→Prop):Prop:=
 ∀ {m M:Nat} {xx:Bool} {w w':World} {e:TypeId} {j0:Nat} {l l':List Value},4≤M→ib S m xx w w'→TK.sz e=some sz→j0 % sz=0→l.length=sz→l'.length=sz→(∀ (i:Nat) x x',l[i]? = some x→l'[i]? = some x'→Kept S m xx w' e (j0+i) x x')→E M w l→E (M+m) w' l'
theorem j9.nk {S N m M xx w w' sz E v} (hE:Ro S sz E) (hM : 4≤M) (h:ib S m xx w w') (hl:j9 S N w sz (E M) v):j9 S N w' sz (E (M+m)) v:=by
 rcases hl with hl|⟨b,off,n,cap,cs,e,rfl,h0,h1,h2,h3,h4,h5,h6,h7⟩
 ·exact .inl hl
 ·obtain ⟨cs',q1,q2,q3⟩:=h.cells b cs e _ h3
  refine .inr ⟨b,off,n,cap,cs',e,rfl,h0,h1,h2,q1,h4,h5,by omega,fun j hj=>?_⟩
  have hle:(j+1) * sz≤cap * sz:=Nat.mul_le_mul_right _ (by omega)
  rw [Nat.succ_mul] at hle
  refine hE (j0:=off+j * sz) hM h h4 (by rw [Nat.add_mul_mod_self_right];exact h5) (by simp) (by simp) (fun i x x' hx hx'=>?_) (h7 j hj)
  rw [List.getElem?_map,Option.map_eq_some_iff] at hx hx'
  obtain ⟨i1,e1,rfl⟩:=hx
  obtain ⟨i2,e2,rfl⟩:=hx'
  obtain ⟨hi,rfl⟩:=List.getElem?_eq_some_iff.1 e1
  obtain ⟨_,rfl⟩:=List.getElem?_eq_some_iff.1 e2
  simp only [List.length_range] at hi
  simp only [List.getElem_range]
  have hlt:off+j * sz+i<cs.size:=by omega
  refine q3 _ _ _ ?_ ?_
  ·rw [Array.getD_eq_getD_getElem?,Array.getElem?_eq_getElem hlt];rfl
  ·rw [Array.getD_eq_getD_getElem?,Array.getElem?_eq_getElem (by omega)];rfl
def Yu (S:Nat→Prop) (M:Nat) (w:World) (l:List Value):Prop:=∃ v,l=[v]∧ml S M w .str v
def v8 (S:Nat→Prop) (Nn M:Nat) (w:World) (l:List Value):Prop:=∃ a b c d,l=[a,b,c,d]∧j9 S Nn w 1 (Yu S M) a∧ml S M w (.int .u32) b∧ml S M w .str c∧ml S M w (.int .u8) d
def Ou (S:Nat→Prop) (Nn Nd M:Nat) (w:World) (l:List Value):Prop:=∃ o t c u d,l=[o,t,c,u,d]∧ml S M w .str o∧ld t = .int .u16∧ld c = .int .u16∧ld u = .int .u32∧j9 S Nd w 4 (v8 S Nn M) d
def O7 (S:Nat→Prop) (Nn M:Nat) (w:World) (l:List Value):Prop:=∃ o t c u d,l=o::t::c::u::d∧ml S M w .str o∧ld t = .int .u16∧ld c = .int .u16∧ld u = .int .u32∧v8 S Nn M w d
theorem Kept.same {S m xx w' e j x x' sz} (h:Kept S m xx w' e j x x') (hs:TK.sz e=some sz) (hz:sz≠4) (hx:ld x = .no):x'=x:=by
 rcases h with h|⟨h,_⟩|⟨h,_⟩
 ·exact h
 ·exact absurd hx h
 ·have h:=h.2;rw [hs] at h;cases h;exact absurd rfl hz
theorem Kept.kind {S m xx w' e j x x' sz k} (h:Kept S m xx w' e j x x') (hs:TK.sz e=some sz) (hz:sz≠4) (hx:ld x=k):ld x'=k:=by
 rcases h with rfl|⟨_,h,_⟩|⟨h,_⟩
 ·exact hx
 ·rw [h];exact hx
 ·have h:=h.2;rw [hs] at h;cases h;exact absurd rfl hz
theorem aee (S:Nat→Prop):Ro S 1 (Yu S):=by
 rintro m M xx w w' e j0 l l' hM ho hs hj h1 h2 hk ⟨v,rfl,hv⟩
 match l',h2 with
 | [v'],_=>
  have:=(hk 0 v v' rfl rfl).same hs (by decide) hv.slice
  subst this
  exact ⟨_,rfl,hv.nk (by decide) ho⟩
theorem Kb {S N m M xx w w' v} (hM : 4≤M) (h:ib S m xx w w') (hl:j9 S N w 1 (Yu S M) v):j9 S N w' 1 (Yu S (M+m)) v:=hl.nk (aee S) hM h
theorem ae6 (S:Nat→Prop) (Nn:Nat):Ro S 4 (v8 S Nn):=by
 rintro m M xx w w' e j0 l l' hM ho hs hj h1 h2 hk ⟨a,b,c,d,rfl,ha,hb,hc,hd⟩
 match l',h2 with
 | [a',b',c',d'],_=>
  refine ⟨a',b',c',d',rfl,?_,?_,?_,?_⟩
  ·rcases hk 0 a a' rfl rfl with rfl|⟨q,_⟩|⟨_,⟨_,rfl⟩|⟨q,_⟩⟩
   ·exact Kb hM ho ha
   ·exact absurd ha.slice q
   ·exact .inl ⟨none,rfl⟩
   ·omega
  ·rcases hk 1 b b' rfl rfl with rfl|⟨q,_⟩|⟨_,⟨_,rfl⟩|⟨q,_⟩⟩
   ·exact hb.nk (by decide) ho
   ·exact absurd hb.slice q
   ·exact .inl ⟨none,rfl⟩
   ·omega
  ·rcases hk 2 c c' rfl rfl with rfl|⟨q,_⟩|⟨_,⟨q,rfl⟩|⟨_,q⟩⟩
   ·exact hc.nk (by decide) ho
   ·exact absurd hc.slice q
   ·exact .inl ⟨none,rfl⟩
   ·exact q.mono (by omega)
  ·rcases hk 3 d d' rfl rfl with rfl|⟨q,_⟩|⟨_,⟨_,rfl⟩|⟨q,_⟩⟩
   ·exact hd.nk (by decide) ho
   ·exact absurd hd.slice q
   ·exact .inl ⟨none,rfl⟩
   ·omega
theorem Jg {S N Nn m M xx w w' v} (hM : 4≤M) (h:ib S m xx w w') (hl:j9 S N w 4 (v8 S Nn M) v):j9 S N w' 4 (v8 S Nn (M+m)) v:=hl.nk (ae6 S Nn) hM h
theorem v8.nk {S Nn m M xx w w' l} (hM : 4≤M) (h:ib S m xx w w') (hl:v8 S Nn M w l):v8 S Nn (M+m) w' l:=by
 obtain ⟨a,b,c,d,rfl,ha,hb,hc,hd⟩:=hl
 exact ⟨a,b,c,d,rfl,Kb hM h ha,hb.nk (by decide) h,hc.nk (by decide) h,hd.nk (by decide) h⟩
theorem ai1 (S:Nat→Prop) (Nn Nd:Nat):Ro S 5 (Ou S Nn Nd):=by
 rintro m M xx w w' e j0 l l' hM ho hs hj h1 h2 hk ⟨o,t,c,u,d,rfl,hO,ht,hc,hu,hd⟩
 match l',h2 with
 | [o',t',c',u',d'],_=>
  have e1:=(hk 0 o o' rfl rfl).same hs (by decide) hO.slice
  have e2:=(hk 4 d d' rfl rfl).same hs (by decide) hd.slice
  subst e1 e2
  exact ⟨_,t',c',u',_,rfl,hO.nk (by decide) ho,(hk 1 t t' rfl rfl).kind hs (by decide) ht,(hk 2 c c' rfl rfl).kind hs (by decide) hc,(hk 3 u u' rfl rfl).kind hs (by decide) hu,Jg hM ho hd⟩
theorem H3 {S N Nn Nd m M xx w w' v} (hM : 4≤M) (h:ib S m xx w w') (hl:j9 S N w 5 (Ou S Nn Nd M) v):j9 S N w' 5 (Ou S Nn Nd (M+m)) v:=hl.nk (ai1 S Nn Nd) hM h
theorem aj2 (S:Nat→Prop) (Nn:Nat):Ro S 8 (O7 S Nn):=by
 rintro m M xx w w' e j0 l l' hM ho hs hj h1 h2 hk ⟨o,t,c,u,d,rfl,hO,ht,hc,hu,hd⟩
 obtain ⟨a1,a2,a3,a4,rfl,d1,d2,d3,d4⟩:=hd
 match l',h2 with
 | [o',t',c',u',b1,b2,b3,b4],_=>
  have e1:=(hk 0 o o' rfl rfl).same hs (by decide) hO.slice
  have e2:=(hk 4 a1 b1 rfl rfl).same hs (by decide) d1.slice
  have e3:=(hk 5 a2 b2 rfl rfl).same hs (by decide) d2.slice
  have e4:=(hk 6 a3 b3 rfl rfl).same hs (by decide) d3.slice
  have e5:=(hk 7 a4 b4 rfl rfl).same hs (by decide) d4.slice
  subst e1 e2 e3 e4 e5
  exact ⟨_,t',c',u',_,rfl,hO.nk (by decide) ho,(hk 1 t t' rfl rfl).kind hs (by decide) ht,(hk 2 c c' rfl rfl).kind hs (by decide) hc,(hk 3 u u' rfl rfl).kind hs (by decide) hu,v8.nk hM ho ⟨_,_,_,_,rfl,d1,d2,d3,d4⟩⟩
theorem O5 {S N Nn m M xx w w' v} (hM : 4≤M) (h:ib S m xx w w') (hl:j9 S N w 8 (O7 S Nn M) v):j9 S N w' 8 (O7 S Nn (M+m)) v:=hl.nk (aj2 S Nn) hM h
theorem T6 {α:Type} (C:dh α) (hz:C.sz=1) (ha:C.agg=false) {k:LK} (hk:C.kd=k) (hn:k ≠ .no) {M:Nat} {g:Gh} {w:World} {l:Bool} {xs:List α} {v:Value} (hM:∀ x ∈ xs,∀ c ∈ C.cells l x,∀ s,c = .sc (.string s)→s.size≤M) (hx:∀ x ∈ xs,∀ c ∈ C.cells l x,∃ u,c = .sc u) {S:Nat→Prop} (hS:∀ b,g.b0≤b→(∀ j,g.K b j)→S b) (hr:Rel g w (.vl true 1 (xs.map (C.val l))) v):ml S M w k v:=by
 generalize hes:xs.map (C.val l)=es at hr
 cases hr with
 |j4=>exact .inl ⟨none,rfl⟩
 |qz _ _ a=>exact .inl ⟨some a,rfl⟩
 |vl _ _ _ b off cap c hsz hl hcap h hrel hw=>
  obtain ⟨w1,⟨cs,e,w2,w3,w4,w5,w6⟩,w7,w8⟩:=hw rfl
  rcases Nat.eq_zero_or_pos es.length with h0|h0
  ·have:=w7 rfl h0
   subst this
   rw [h0];exact .inl ⟨_,rfl⟩
  ·refine .inr ⟨b,off,es.length,cap,cs,e,rfl,hS b (hl rfl) w1,⟨hcap,w8⟩,w2,w4,by omega,fun j x hj hxj=>?_⟩
   have hfl:es.flatMap AV.cells=xs.flatMap (C.cells l):=by rw [← hes,List.flatMap_map];congr 1;funext x;exact C.wv l x
   have hlen:(es.flatMap AV.cells).length=es.length * 1:=E7 es hsz
   have h00:(es.flatMap AV.cells)[0]? = some ((es.flatMap AV.cells)[0]'(by omega)):=List.getElem?_eq_getElem _
   have hm:(es.flatMap AV.cells)[0]'(by omega) ∈ xs.flatMap (C.cells l):=by rw [← hfl];exact List.getElem_mem _
   obtain ⟨y,_,hy⟩:=List.mem_flatMap.1 hm
   have hc0:=C.G7 hz hy (hrel 0 _ h00)
   rcases w6 rfl j x hj hxj with q|⟨q,qt⟩
   ·rw [hc0,hk] at q;exact absurd q hn
   ·refine ⟨by rw [q,hc0,hk],fun s hs=>?_⟩
    by_cases hjn:j<es.length
    ·have hcj:(es.flatMap AV.cells)[j]? = some ((es.flatMap AV.cells)[j]'(by omega)):=List.getElem?_eq_getElem _
     have hmj:(es.flatMap AV.cells)[j]'(by omega) ∈ xs.flatMap (C.cells l):=by rw [← hfl];exact List.getElem_mem _
     obtain ⟨y2,hy2,hy3⟩:=List.mem_flatMap.1 hmj
     obtain ⟨u,hu⟩:=hx y2 hy2 _ hy3
     have hrj:=hrel j _ hcj
     rw [hu] at hrj
     have:=hrj.exact rfl
     have hcx:c j=x:=by
      have h9:=(h j _ hcj).2
      rw [iy w2,hxj] at h9
      exact (Option.some.inj h9).symm
     rw [hcx,hs] at this
     exact hM y2 hy2 _ hy3 s (by rw [hu,← this])
    ·have:=qt (by omega)
     rw [hs] at this
     have:s.size=0:=Nat.eq_of_beq_eq_true this
     omega
theorem Mi {α:Type} (C:dh α) {N sz:Nat} (hz:C.sz=sz) {E:World→List Value→Prop} {g:Gh} {w:World} {l:Bool} {xs:List α} {v:Value} (hN:xs.length≤N) (hE:∀ x ∈ xs,∀ vs,bp g w (C.cells l x) vs→E w vs) {S:Nat→Prop} (hS:∀ b,g.b0≤b→(∀ j,g.K b j)→S b) (hr:Rel g w (.vl true sz (xs.map (C.val l))) v):j9 S N w sz E v:=by
 generalize hes:xs.map (C.val l)=es at hr
 cases hr with
 |j4=>exact .inl ⟨none,rfl⟩
 |qz _ _ a=>exact .inl ⟨some a,rfl⟩
 |vl _ _ _ b off cap c hsz hl hcap h hrel hw=>
  obtain ⟨w1,⟨cs,e,w2,w3,w4,w5,w6⟩,w7,w8⟩:=hw rfl
  refine .inr ⟨b,off,es.length,cap,cs,e,rfl,by rw [← hes,List.length_map];exact hN,hS b (hl rfl) w1,⟨hcap,w8⟩,w2,w4,w5,w3,fun j hj=>?_⟩
  have hj':j<xs.length:=by rw [← hes,List.length_map] at hj;exact hj
  refine hE (xs[j]) (List.getElem_mem hj') _ ⟨by rw [C.len];simp [hz],fun i a u ha hu=>?_⟩
  rw [List.getElem?_map,Option.map_eq_some_iff] at hu
  obtain ⟨i1,e1,rfl⟩:=hu
  obtain ⟨hi,rfl⟩:=List.getElem?_eq_some_iff.1 e1
  simp only [List.length_range] at hi
  simp only [List.getElem_range]
  have hcell:(es.flatMap AV.cells)[j * sz+i]? = some a:=by
   have hfl:es.flatMap AV.cells=xs.flatMap (C.cells l):=by rw [← hes,List.flatMap_map];congr 1;funext x;exact C.wv l x
   have hd:∀ (ys:List α) (m:Nat),(ys.flatMap (C.cells l)).drop (m * C.sz)=(ys.drop m).flatMap (C.cells l):=by
    intro ys
    induction ys with
    |nil=>intro m;simp
    |cons y ys ih=>
     intro m
     cases m with
     |zero=>simp
     |succ m=>
      rw [show (m+1) * C.sz=(C.cells l y).length+m * C.sz from by rw [C.len,Nat.succ_mul];omega,← List.drop_drop,List.flatMap_cons,List.drop_left,ih,List.drop_succ_cons]
   have h1:=hd xs j
   rw [hz] at h1
   rw [hfl,← List.getElem?_drop,h1,List.drop_eq_getElem_cons hj',List.flatMap_cons,List.getElem?_append_left (by rw [C.len];omega)]
   exact ha
  have h1:=h (j * sz+i) a hcell
  have h2:=hrel (j * sz+i) a hcell
  have h3:cs.getD (off+j * sz+i) undef=c (j * sz+i):=by
   have:=h1.2
   rw [iy w2] at this
   rw [Nat.add_assoc,Array.getD_eq_getD_getElem?,this];rfl
  rw [h3];exact h2
end
end Go.Vm
namespace Go.Vm
variable [TK]
structure Lp (w:World) (b:Nat) (cs:Array Value) (e:TypeId) (off m k:Nat) (wr:World):Prop where
 size:wr.heap.size=w.heap.size
 os:wr.os=w.os
 tape:wr.tape=w.tape
 output:wr.output=w.output
 other:∀ c,c≠b→wr.heap[c]? = w.heap[c]?
 row:∃ cs',wr.heap[b]? = some (.cells cs' e (0,0))∧cs'.size=cs.size∧∀ (j:Nat) x x',cs[j]? = some x→cs'[j]? = some x' →
  x'=x∨(off≤j∧j<off+k∧ld x ≠ .no∧ld x'=ld x∧∀ s',x' = .string s'→∃ s,x = .string s∧s'.size≤s.size+m)
theorem Lp.start {w b cs e off m} (h:w.heap[b]? = some (.cells cs e (0,0))):Lp w b cs e off m 0 w where
 size:=rfl
 os:=rfl
 tape:=rfl
 output:=rfl
 other _ _:=rfl
 row:=⟨cs,h,rfl,fun j x x' h1 h2=>.inl (by rw [h1] at h2;cases h2;rfl)⟩
theorem Lp.frozen {w b cs e off m k wr} (h:Lp w b cs e off m k wr) (j:Nat):wr.frozen? ⟨b,j,none⟩=false:=by
 obtain ⟨cs',h1,_⟩:=h.row
 unfold World.frozen?
 simp only [h1]
 simp
theorem Lp.cell {w b cs e off m k wr x} (h:Lp w b cs e off m k wr) (hx:cs[off+k]? = some x):wr.cell? ⟨b,off+k,none⟩=some x:=by
 obtain ⟨cs',h1,h2,h3⟩:=h.row
 rw [iy h1]
 have hlt:off+k<cs'.size:=by rw [h2];exact (Array.getElem?_eq_some_iff.1 hx).1
 have hx':=Array.getElem?_eq_getElem hlt
 rcases h3 _ _ _ hx hx' with q|⟨_,q,_⟩
 ·rw [hx',q]
 ·omega
theorem Lp.step {w b cs e off m k wr x v} (h:Lp w b cs e off m k wr) (hx:cs[off+k]? = some x) (h1:ld x ≠ .no) (h2:ld v=ld x) (h3:∀ s',v = .string s'→∃ s,x = .string s∧s'.size≤s.size+m) :
 Lp w b cs e off m (k+1) (wr.setCell ⟨b,off+k,none⟩ v):=by
 obtain ⟨cs',r1,r2,r3⟩:=h.row
 have hb:=bt r1
 refine ⟨by simp [World.setCell,h.size],h.os,h.tape,h.output,fun c hc=>?_,cs'.setIfInBounds (off+k) v,?_,by simp [r2],fun j y y' hy hy'=>?_⟩
 ·rw [← h.other c hc]
  simp only [World.setCell]
  rw [Array.getElem?_modify,if_neg (fun e=>hc e.symm)]
 ·simp only [World.setCell]
  rw [Array.getElem?_modify,if_pos rfl,r1]
  rfl
 ·rw [Array.getElem?_setIfInBounds] at hy'
  by_cases hj:off+k=j
  ·subst hj
   rw [hx] at hy;cases hy
   have hlt:off+k<cs'.size:=by rw [r2];exact (Array.getElem?_eq_some_iff.1 hx).1
   rw [if_pos rfl,if_pos hlt] at hy';cases hy'
   exact .inr ⟨by omega,by omega,h1,h2,h3⟩
  ·rw [if_neg hj] at hy'
   exact (r3 j y y' hy hy').imp id (fun q=>⟨q.1,by omega,q.2.2⟩)
theorem Lp.nk {S w b cs e off m k wr} (h:Lp w b cs e off m k wr) (hw:w.heap[b]? = some (.cells cs e (0,0))) (hn:S b):ib S m false w wr where
 size:=by rw [h.size];exact Nat.le_refl _
 os:=h.os
 tape:=h.tape
 output:=h.output
 low c _ hc:=h.other c (fun e=>hc (e ▸ hn))
 obj c o hc hn:=by
  by_cases e:c=b
  ·subst e;rw [hw] at hc;cases hc;exact absurd rfl (hn _ _ _)
  ·rw [h.other c e];exact hc
 cells c cs0 e0 fr0 hc:=by
  by_cases e:c=b
  ·subst e
   rw [hw] at hc;cases hc
   obtain ⟨cs',r1,r2,r3⟩:=h.row
   exact ⟨cs',r1,r2,fun j x x' hx hx'=>(r3 j x x' hx hx').imp id (fun q=>.inl ⟨q.2.2.1,q.2.2.2.1,q.2.2.2.2⟩)⟩
  ·exact ⟨cs0,(h.other c e).trans hc,rfl,fun j x x' hx hx'=>.inl (by rw [hx] at hx';cases hx';rfl)⟩
theorem ml.form {S M w k v} (h:ml S M w k v):∃ base n cap,v = .slice base n cap∧n≤cap∧cap≤maxLen∧(base=none→cap=0):=by
 rcases h with ⟨a,rfl⟩|⟨b,off,n,cap,cs,e,rfl,h1,⟨h2,h3⟩,_⟩
 ·exact ⟨a,0,0,rfl,Nat.le_refl _,Nat.zero_le _,fun _=>rfl⟩
 ·exact ⟨_,n,cap,rfl,h2,h3,fun e=>by cases e⟩
def Jx (S:Nat→Prop) (m k:Nat) (w:World) (v:Value) (wr:World):Prop:=
 (∃ a,v = .slice a 0 0∧wr=w)∨∃ (b off n cap:Nat) (cs:Array Value) (e:TypeId),v = .slice (some ⟨b,off,none⟩) n cap∧S b∧w.heap[b]? = some (.cells cs e (0,0))∧Lp w b cs e off m k wr
theorem Jx.start {S m M w k v} (h:ml S M w k v):Jx S m 0 w v w:=by
 rcases h with ⟨a,rfl⟩|⟨b,off,n,cap,cs,e,rfl,h1,_,h3,_⟩
 ·exact .inl ⟨a,rfl,rfl⟩
 ·exact .inr ⟨b,off,n,cap,cs,e,rfl,h1,h3,.start h3⟩
theorem Jx.nk {S m k w v wr} (h:Jx S m k w v wr):ib S m false w wr:=by
 rcases h with ⟨a,_,rfl⟩|⟨b,off,n,cap,cs,e,_,h1,h3,h⟩
 ·exact .refl _ _ _ _
 ·exact h.nk h3 h1
theorem Jx.at {S m M k w kd base n cap wr} (hk:kd ≠ .no) (hv:ml S M w kd (.slice base n cap)) (h:Jx S m k w (.slice base n cap) wr) (hlt:k<cap) :
 ∃ b off x,base=some ⟨b,off,none⟩∧wr.cell? ⟨b,off+k,none⟩=some x∧wr.frozen? ⟨b,off+k,none⟩=false∧ld x=kd∧(∀ s,x = .string s→s.size≤M) ∧
  ∀ v',ld v'=kd→(∀ s',v' = .string s'→∃ s,x = .string s∧s'.size≤s.size+m)→Jx S m (k+1) w (.slice base n cap) (wr.setCell ⟨b,off+k,none⟩ v'):=by
 rcases hv with ⟨a,e⟩|⟨b,off,n',cap',cs,e,he,h1,_,h3,h4,h5,h6⟩
 ·cases e;omega
 cases he
 rcases h with ⟨a,e,_⟩|⟨b',off',n',cap',cs',e',he',q1,q3,q⟩
 ·cases e;omega
 cases he'
 rw [h3] at q3;cases q3
 have hl:off+k<cs.size:=by omega
 have hx:=Array.getElem?_eq_getElem hl
 obtain ⟨r1,r2⟩:=h6 k _ hlt hx
 exact ⟨b,off,_,rfl,q.cell hx,q.frozen _,r1,r2,fun v' e1 e2=>.inr ⟨b,off,n,cap,cs,e,rfl,h1,h3,q.step hx (by rw [r1];exact hk) (by rw [r1];exact e1) e2⟩⟩
theorem j9.form {S N w sz E v} (h:j9 S N w sz E v):∃ base n cap,v = .slice base n cap∧n≤N∧n≤cap∧cap≤maxLen∧(base=none→cap=0):=by
 rcases h with ⟨a,rfl⟩|⟨b,off,n,cap,cs,e,rfl,h0,h1,⟨h2,h3⟩,_⟩
 ·exact ⟨a,0,0,rfl,Nat.zero_le _,Nat.le_refl _,Nat.zero_le _,fun _=>rfl⟩
 ·exact ⟨_,n,cap,rfl,h0,h2,h3,fun e=>by cases e⟩
theorem j9.at {S N w sz E base n cap} (h:j9 S N w sz E (.slice base n cap)) {j:Nat} (hj:j<n) :
 ∃ b off cs e,base=some ⟨b,off,none⟩∧S b∧w.heap[b]? = some (.cells cs e (0,0))∧TK.sz e=some sz∧off % sz=0∧off+cap * sz≤cs.size∧(j+1) * sz≤cap * sz∧E w ((List.range sz).map fun i=>cs.getD (off+j * sz+i) undef):=by
 rcases h with ⟨a,e⟩|⟨b,off,n',cap',cs,e,he,h0,h1,⟨h2,h3⟩,h4,h5,h6,h7,h8⟩
 ·cases e;omega
 ·cases he
  exact ⟨b,off,cs,e,rfl,h1,h4,h5,h6,h7,Nat.mul_le_mul_right _ (by omega),h8 j hj⟩
theorem cell_of {w:World} {b j:Nat} {cs:Array Value} {e:TypeId} {fr:Nat × Nat} (h:w.heap[b]? = some (.cells cs e fr)) (hj:j<cs.size):w.cell? ⟨b,j,none⟩=some (cs.getD j undef):=by
 rw [iy h,Array.getD_eq_getD_getElem?,Array.getElem?_eq_getElem hj];rfl
theorem Bb {w:World} {b:Nat} {cs:Array Value} {e:TypeId} (h:w.heap[b]? = some (.cells cs e (0,0))) (j:Nat):w.frozen? ⟨b,j,none⟩=false:=by
 unfold World.frozen?
 simp only [h]
 simp
theorem ib.set {S:Nat→Prop} {w:World} {b:Nat} {cs:Array Value} {e:TypeId} {j:Nat} {x v:Value} (h:w.heap[b]? = some (.cells cs e (0,0))) (hn:S b) (hx:cs[j]? = some x) (h1:ld x ≠ .no) (h2:ld v=ld x) (h3:∀ s,v ≠ .string s) :
 ib S 0 false w (w.setCell ⟨b,j,none⟩ v)∧(w.setCell ⟨b,j,none⟩ v).heap[b]? = some (.cells (cs.setIfInBounds j v) e (0,0)):=by
 refine ⟨((Lp.start (off:=j) (m:=0) h).step (k:=0) hx h1 h2 (fun s' q=>absurd q (h3 s'))).nk h hn,?_⟩
 simp only [World.setCell]
 rw [Array.getElem?_modify,if_pos rfl,h]
 rfl
theorem j9.room {S N w sz E base n cap} (h:j9 S N w sz E (.slice base n cap)) {j:Nat} (hj:j<cap) :
 ∃ b off cs e,base=some ⟨b,off,none⟩∧S b∧w.heap[b]? = some (.cells cs e (0,0))∧TK.sz e=some sz∧off % sz=0∧off+cap * sz≤cs.size∧(j+1) * sz≤cap * sz:=by
 rcases h with ⟨a,e⟩|⟨b,off,n',cap',cs,e,he,h0,h1,⟨h2,h3⟩,h4,h5,h6,h7,h8⟩
 ·cases e;omega
 ·cases he
  exact ⟨b,off,cs,e,rfl,h1,h4,h5,h6,h7,Nat.mul_le_mul_right _ (by omega)⟩
theorem abu {w:World} {b:Nat} {cs:Array Value} {e:TypeId} (h:w.heap[b]? = some (.cells cs e (0,0))) (o:Obj) (j:Nat):(w.alloc o).frozen? ⟨b,j,none⟩=false:=
 Bb ((Go.RowKit.Below.heap_alloc w o b (bt h)).trans h) j
theorem Ce {w:World} {b:Nat} {cs:Array Value} {e:TypeId} {fr:Nat × Nat} (h:w.heap[b]? = some (.cells cs e fr)) (o:Obj) {j:Nat} (hj:j<cs.size):(w.alloc o).cell? ⟨b,j,none⟩=some (cs.getD j undef):=
 cell_of ((Go.RowKit.Below.heap_alloc w o b (bt h)).trans h) hj
theorem ib.alloc {S m xx w} (o:Obj):ib S m xx w (w.alloc o):=by
 have hold:∀ b,b<w.heap.size→(w.alloc o).heap[b]? = w.heap[b]? := fun b hb=>Go.RowKit.Below.heap_alloc w o b hb
 refine ⟨(by show w.heap.size≤(w.heap.push o).size;simp),rfl,rfl,rfl,fun b hb _=>hold b hb,fun b x hb _=>(hold b (bt hb)).trans hb,fun b cs e fr hb=>⟨cs,(hold b (bt hb)).trans hb,rfl,fun j x x' h1 h2=>.inl (by rw [h1] at h2;cases h2;rfl)⟩⟩
theorem pk (w:World) {b c:Nat} (j:Nat) (v:Value) (h:c≠b):(w.setCell ⟨b,j,none⟩ v).heap[c]? = w.heap[c]? := by
 simp only [World.setCell]
 rw [Array.getElem?_modify,if_neg (fun e=>h e.symm)]
theorem ib.ai5 {S:Nat→Prop} {w:World} {b:Nat} {cs:Array Value} {e:TypeId} {j:Nat} {v:Value} (h:w.heap[b]? = some (.cells cs e (0,0))) (hn:S b) (hsz:TK.sz e=some 4)
 (hv:(j % 4≠2∧v = .slice none 0 0)∨(j % 4=2∧ml S 4 (w.setCell ⟨b,j,none⟩ v) .str v)) :
 ib S 0 true w (w.setCell ⟨b,j,none⟩ v)∧(w.setCell ⟨b,j,none⟩ v).heap[b]? = some (.cells (cs.setIfInBounds j v) e (0,0)):=by
 have hb:(w.setCell ⟨b,j,none⟩ v).heap[b]? = some (.cells (cs.setIfInBounds j v) e (0,0)):=by
  simp only [World.setCell]
  rw [Array.getElem?_modify,if_pos rfl,h]
  rfl
 refine ⟨⟨by simp [World.setCell],rfl,rfl,rfl,fun c _ hc=>pk w j v (fun e=>hc (e ▸ hn)),fun c o hc hno=>?_,fun c cs0 e0 fr0 hc=>?_⟩,hb⟩
 ·by_cases e1:c=b
  ·subst e1;rw [h] at hc;cases hc;exact absurd rfl (hno _ _ _)
  ·rw [pk w j v e1];exact hc
 ·by_cases e1:c=b
  ·subst e1
   rw [h] at hc;cases hc
   refine ⟨_,hb,by simp,fun i x x' hx hx'=>?_⟩
   rw [Array.getElem?_setIfInBounds] at hx'
   by_cases hi:j=i
   ·subst hi
    have hlt:=(Array.getElem?_eq_some_iff.1 hx).1
    rw [if_pos rfl,if_pos hlt] at hx';cases hx'
    exact .inr (.inr ⟨⟨rfl,hsz⟩,hv⟩)
   ·rw [if_neg hi,hx] at hx';cases hx'
    exact .inl rfl
  ·exact ⟨cs0,(pk w j v e1).trans hc,rfl,fun i x x' hx hx'=>.inl (by rw [hx] at hx';cases hx';rfl)⟩
theorem ib.spare {S:Nat→Prop} {w:World} {b j:Nat} {cs:Array Value} {e t:TypeId} {s:ByteArray} (h:w.heap[b]? = some (.cells cs e (0,0))) (hn:S b) (hsz:TK.sz e=some 4) (hS:S w.heap.size) (hj:j % 4=0) (ht:TK.sz t=some 1) (hs:s.size≤4) :
 ib S 0 true w (((((w.alloc (.cells #[.string s] t)).setCell ⟨b,j,none⟩ (.slice none 0 0)).setCell ⟨b,j+1,none⟩ (.slice none 0 0)).setCell ⟨b,j+2,none⟩ (.slice (some ⟨w.heap.size,0,none⟩) 1 1)).setCell ⟨b,j+3,none⟩ (.slice none 0 0)):=by
 have hne:w.heap.size≠b:=by have:=bt h;omega
 have h0:(w.alloc (.cells #[.string s] t)).heap[b]? = _:=(Go.RowKit.Below.heap_alloc w _ b (bt h)).trans h
 have lx:(w.alloc (.cells #[.string s] t)).heap[w.heap.size]? = some (.cells #[.string s] t (0,0)):=C5 w _
 have q1:=ib.ai5 (j:=j) (v:=.slice none 0 0) h0 hn hsz (.inl ⟨by omega,rfl⟩)
 have q2:=ib.ai5 (j:=j+1) (v:=.slice none 0 0) q1.2 hn hsz (.inl ⟨by omega,rfl⟩)
 have q3:=ib.ai5 (j:=j+2) (v:=.slice (some ⟨w.heap.size,0,none⟩) 1 1) q2.2 hn hsz (.inr ⟨by omega,.inr ⟨w.heap.size,0,1,1,#[.string s],t,rfl,hS,⟨Nat.le_refl _,by decide⟩,?_,ht,Nat.le_refl _,fun i x hi hx=>?_⟩⟩)
 have q4:=ib.ai5 (j:=j+3) (v:=.slice none 0 0) q3.2 hn hsz (.inl ⟨by omega,rfl⟩)
 ·exact ((((ib.alloc (S:=S) (m:=0) (xx:=true) _).trans q1.1).trans q2.1).trans q3.1).trans q4.1
 ·rw [pk _ _ _ hne,pk _ _ _ hne,pk _ _ _ hne]
  exact lx
 ·have hi0:i=0:=by omega
  subst hi0
  cases hx
  exact ⟨rfl,fun s' e=>by cases e;exact hs⟩
theorem ib.stay {S m w w'} (h:ib S m false w w') {b j:Nat} {x:Value} (hx:w.cell? ⟨b,j,none⟩=some x) (hn:ld x = .no):w'.cell? ⟨b,j,none⟩=some x:=by
 unfold World.cell? at hx
 split at hx
 ·rename_i cs e fr hb
  simp at hx
  obtain ⟨cs',q1,q2,q3⟩:=h.cells b cs e fr hb
  have hlt:j<cs'.size:=by rw [q2];exact (Array.getElem?_eq_some_iff.1 hx).1
  have hx':=Array.getElem?_eq_getElem hlt
  rw [iy q1]
  rcases q3 j x _ hx hx' with q|⟨q,_⟩|⟨⟨q,_⟩,_⟩
  ·rw [hx',q]
  ·exact absurd hn q
  ·cases q
 ·cases hx
end Go.Vm
namespace Go.Vm
variable [TK]
noncomputable section
def mr:Nat→Code→Code
 |0,_=>.skip
 |1,.seq a _=>a
 |n+2,.seq a b=>.seq a (mr (n+1) b)
 |_,c=>c
def i9:Nat→Code→Code
 |0,c=>c
 |n+1,.seq _ b=>i9 n b
 |_+1,_=>.skip
def Jn:Nat→Code→Bool
 |0,_=>true
 |n+1,.seq _ b=>Jn n b
 |_+1,_=>false
theorem jo {P:Program} {T:ec} {aw:Nat} {a b:Code} {Q:QL} {L:SL} {st:St}:wl P T aw (mr 1 (.seq a b)) Q L st=wl P T aw a Q L st:=rfl
theorem ou {P:Program} {T:ec} {aw n:Nat} {a b:Code} {Q:QL} {L:SL} {st:St}:wl P T aw (mr (n+2) (.seq a b)) Q L st=wl P T aw a (Fb (wl P T aw (mr (n+1) b)) Q) L st:=rfl
theorem jy {P:Program} {T:ec} {aw n:Nat} {c:Code} {Q:QL} {L:SL} {st:St}:wl P T aw (mr n (i9 0 c)) Q L st=wl P T aw (mr n c) Q L st:=rfl
theorem j3 {P:Program} {T:ec} {aw n m:Nat} {a b:Code} {Q:QL} {L:SL} {st:St}:wl P T aw (mr n (i9 (m+1) (.seq a b))) Q L st=wl P T aw (mr n (i9 m b)) Q L st:=rfl
theorem nb {P:Program} {T:ec} {aw:Nat} {c:Code} {Q:QL} {L:SL} {st:St}:wl P T aw (i9 0 c) Q L st=wl P T aw c Q L st:=rfl
theorem nj {P:Program} {T:ec} {aw m:Nat} {a b:Code} {Q:QL} {L:SL} {st:St}:wl P T aw (i9 (m+1) (.seq a b)) Q L st=wl P T aw (i9 m b) Q L st:=rfl
def Ef (X:SL→St→Prop) (Y:QL):QL:=fun e L st=>
 match e with
 |.normal=>X L st
 |e=>Y e L st
theorem sv {X:SL→St→Prop} {Y:QL} {L st}:Ef X Y .normal L st=X L st:=rfl
theorem uv {X:SL→St→Prop} {Y:QL} {L st}:Ef X Y .ret L st=Y .ret L st:=rfl
theorem uo {X:SL→St→Prop} {Y:QL} {L st} (i:Nat):Ef X Y (.exit i) L st=Y (.exit i) L st:=rfl
def noQ:QL:=fun _ _ _=>False
theorem Jy {P:Program} [KP P] {T:ec} (hT:ak P T) (hm:P.follows .mixedOrders=true) {N:Nat} {B:fj} {nt:NT} (hnf:B.lr) (hp:B.aw≤1000) (hn0:B.n0≤B.w.heap.size) {X:Exit→Act→World→Prop} {Q:QL} :
 ∀ (n:Nat) (c:Code),Jn (n+1) c=true→du nt c=true →
  (∀ e L' st' g' a' w',Q e L' st'→k8 B nt L' st' g' a' w'→match e with|.normal=>(i9 (n+1) c).wpIn (g8 none) N P X a' w'|e=>X (pz e) a' w') →
  ∀ L st g a w,wl P T B.aw (mr (n+1) c) Q L st→k8 B nt L st g a w→c.wpIn (g8 none) N P X a w:=by
 intro n
 induction n with
 |zero=>
  intro c hsp hs hX L st g a w h hh
  cases c with
  |seq x y=>
   simp only [du,Bool.and_eq_true] at hs
   refine wpIn_seq (wpIn_mono (piece hT hm (N:=N) hnf hp hn0 hs.1 h hh) ?_)
   rintro ex a' w' ⟨e,L',st',g',rfl,hq,hh',_⟩
   have:=hX e L' st' g' a' w' hq hh'
   cases e with
   |normal=>exact this
   |ret=>exact this
   |exit id=>exact this
  |_=>cases hsp
 |succ n ih=>
  intro c hsp hs hX L st g a w h hh
  cases c with
  |seq x y=>
   simp only [du,Bool.and_eq_true] at hs
   refine wpIn_seq (wpIn_mono (piece hT hm (N:=N) hnf hp hn0 hs.1 (Q:=Fb (wl P T B.aw (mr (n+1) y)) Q) h hh) ?_)
   rintro ex a' w' ⟨e,L',st',g',rfl,hq,hh',_⟩
   cases e with
   |normal=>exact ih y hsp hs.2 hX L' st' g' a' w' hq hh'
   |ret=>exact hX .ret L' st' g' a' w' hq hh'
   |exit id=>exact hX (.exit id) L' st' g' a' w' hq hh'
  |_=>cases hsp
theorem amw {P:Program} [KP P] {T:ec} (hT:ak P T) (hm:P.follows .mixedOrders=true) {N:Nat} {B:fj} {nt:NT} (hnf:B.lr) (hp:B.aw≤1000) (hn0:B.n0≤B.w.heap.size) {X:Exit→Act→World→Prop} {Q:QL} {c:Code} (hs:du nt c=true)
 (hX:∀ e L' st' g' a' w',Q e L' st'→k8 B nt L' st' g' a' w'→X (pz e) a' w') {L st g a w} (h:wl P T B.aw c Q L st) (hh:k8 B nt L st g a w):c.wpIn (g8 none) N P X a w:=by
 refine wpIn_mono (piece hT hm (N:=N) hnf hp hn0 hs h hh) ?_
 rintro ex a' w' ⟨e,L',st',g',rfl,hq,hh',_⟩
 exact hX e L' st' g' a' w' hq hh'
def Aq (w:World):Nat→Nat→Prop:=fun b _=>b<w.heap.size
def Yn (w:World) (D:List Deferred):fj:={ b0:=w.heap.size,w,K:=Aq w,O:=fun _=>False,aw:=0,pb:=fun _=>none,n0:=w.heap.size,D }
theorem Ds (w D):(Yn w D).lr:=fun _ h=>h
structure zi (S:Nat→Prop) (w1:World) (D:List Deferred) (ds:List Deferred) (w:World):Prop where
 size:w1.heap.size≤w.heap.size
 low:∀ b,b<w1.heap.size→¬ S b→w.heap[b]? = w1.heap[b]?
 obj:∀ (b:Nat) o,w1.heap[b]? = some o→(∀ cs e fr,o ≠ .cells cs e fr)→w.heap[b]? = some o
 os:w.os=w1.os
 tape:w.tape=w1.tape
 output:w.output=w1.output
 Fs:∃ bs:List Nat,ds=bs.map mark++D∧bs.Nodup∧∀ b ∈ bs,w1.heap.size≤b∧w.heap[b]? = some (.deferred (some []))
theorem zi.start (S:Nat→Prop) (w:World) (D:List Deferred):zi S w D D w:=⟨Nat.le_refl _,fun _ _ _=>rfl,fun _ _ h _=>h,rfl,rfl,rfl,[],rfl,List.nodup_nil,fun b h=>by cases h⟩
theorem zi.later {S:Nat→Prop} {w1 D ds w nt L st g a w'} (h:zi S w1 D ds w) (hh:k8 (Yn w ds) nt L st g a w'):zi S w1 D a.defers w':=by
 have hb:=hh.cur.base
 have hf:∀ b,b<w.heap.size→w'.heap[b]? = w.heap[b]? := fun b h=>hb.frame b h (fun h=>h)
 refine ⟨Nat.le_trans h.size hb.size,fun b hlt hn=>(hf b (Nat.lt_of_lt_of_le hlt h.size)).trans (h.low b hlt hn),fun b o ho hn=>?_,hb.os.trans h.os,hb.tape.trans h.tape,hb.output.trans h.output,?_⟩
 ·have:=h.obj b o ho hn
  exact (hf b (bt this)).trans this
 ·obtain ⟨bs,e1,e2,e3⟩:=h.Fs
  obtain ⟨cs,c1,c2,c3⟩:=hh.Fs
  refine ⟨cs++bs,by rw [c1,List.map_append,List.append_assoc];exact congrArg _ e1,?_,fun b hb=>?_⟩
  ·rw [List.nodup_append]
   refine ⟨c2,e2,fun x hx y hy e=>?_⟩
   subst e
   have h1:w.heap.size≤x:=(c3 x hx).1
   have h2:=bt (e3 x hy).2
   omega
  ·rcases List.mem_append.1 hb with hb|hb
   ·exact ⟨Nat.le_trans h.size (c3 b hb).1,(c3 b hb).2.1⟩
   ·have:=(e3 b hb).2
    exact ⟨(e3 b hb).1,(hf b (bt this)).trans this⟩
theorem zi.nk {S:Nat→Prop} {w1 D ds w m xx w'} (h:zi S w1 D ds w) (ho:ib S m xx w w'):zi S w1 D ds w':=by
 refine ⟨Nat.le_trans h.size ho.size,fun b hlt hn=>(ho.low b (Nat.lt_of_lt_of_le hlt h.size) hn).trans (h.low b hlt hn),fun b o hb hn=>ho.obj b o (h.obj b o hb hn) hn,ho.os.trans h.os,ho.tape.trans h.tape,ho.output.trans h.output,?_⟩
 obtain ⟨bs,e1,e2,e3⟩:=h.Fs
 exact ⟨bs,e1,e2,fun b hb=>⟨(e3 b hb).1,ho.obj b _ (e3 b hb).2 (fun cs e fr q=>by cases q)⟩⟩
theorem Fv {nt:NT} {Ls:SL} {a:Act} {w:World} (hnt:r9 nt a.tmps) (hr:∀ t,Rel (gK w.heap.size (Aq w)) w (lk Ls t) (a.tmps.getD t undef)):k8 (Yn w a.defers) nt Ls (bk []) (gK w.heap.size (Aq w)) a w:=by
 refine ⟨⟨⟨Nat.le_refl _,fun o x hx=>?_,fun o o' x x' b base base' _ hx=>?_,fun _ _ h=>h⟩,fun o _ _=>rfl,⟨rfl,(fun o ho=>(by rcases ho with ho|ho;cases ho;exact ho.elim)),fun _ _ h=>h,fun _ _ _=>rfl,Nat.le_refl _,rfl,rfl,rfl,fun _ _ _=>rfl,fun o b base ho=>?_,fun _ _ h=>.inl h,fun b cs e fr h=>⟨cs,fr,h,rfl⟩,fun b l h=>⟨l,h⟩,fun _ _ _ _ _ _=>rfl⟩,Nat.zero_le _⟩,⟨hnt,hr⟩,Marks.start _ _ _ _ _⟩
 ·simp [bk,l5,Tr.get_nil] at hx
 ·simp [bk,l5,Tr.get_nil] at hx
 ·simp [bk,l5,Tr.get_nil] at ho
theorem apq {g:Gh} {w:World} {f:Nat→Value}:∀ {ts:List Nat} {vs:List AV},bp g w vs (ts.map f)→∀ t,Rel g w (lk (gu ts vs) t) (f t)
 | [],vs,h,t=>by cases vs<;>exact .bad _
 |t0::ts,[],h,t=>.bad _
 |t0::ts,v::vs,h,t=>by
  rw [gu,s7]
  by_cases e:t0=t
  ·subst e;rw [if_pos rfl];exact h.head
  ·rw [if_neg e];exact apq h.tail t
theorem k8.read {B:fj} {nt L st g a w} (hh:k8 B nt L st g a w) {α:Type} (A:AC α) (ts:List Nat) {x : α} (hd:A.get st.h (ts.map (lk L))=some x):bp (gK w.heap.size (Aq w)) w (A.E x) (ts.map fun t=>a.tmps.getD t undef):=by
 refine A.ok (b0:=w.heap.size) (K:=Aq w) hh.cur.ok ⟨fun b j hk=>hh.cur.ok.K b j hk,fun o cells k s e ho b base hi j hj=>?_⟩ ⟨by simp,fun i x v hx hv=>?_⟩ hd
 ·obtain ⟨b',base',h5,_,h6⟩:=hh.cur.ok.obj o _ ho
  rw [hi] at h5;cases h5
  exact h6.lt
 ·rw [List.getElem?_map,Option.map_eq_some_iff] at hx hv
  obtain ⟨t,e1,rfl⟩:=hx
  obtain ⟨t',e2,rfl⟩:=hv
  rw [e1] at e2;cases e2
  exact hh.sl.2 t
theorem k8.aid {B:fj} {nt L st g a w} (hh:k8 B nt L st g a w) {α:Type} (C:dh α) (fr:Bool) (t:Nat) {x : α} (hd:C.fq fr st.h (lk L t)=some x):Rel (gK B.b0 (Aq w)) w (C.val fr x) (a.tmps.getD t undef):=by
 refine C.Rr (b0:=B.b0) (K:=Aq w) hh.cur.ok ⟨fun b j hk=>hh.cur.ok.K b j hk,fun o cells k s e ho b base hi j hj=>?_⟩ (fun _=>Nat.le_of_eq hh.cur.base.b0.symm) (hh.sl.2 t) hd
 obtain ⟨b',base',h5,_,h6⟩:=hh.cur.ok.obj o _ ho
 rw [hi] at h5;cases h5
 exact h6.lt
def zv (n:Nat) (ts:List Nat) (tmps:Array Value):NT:=⟨n,ts.map fun t=>(t,tmps.getD t undef)⟩
theorem ag3 {nt:NT} {tmps:Array Value} (ts:List Nat) (h:r9 nt tmps):r9 (zv nt.n ts tmps) tmps:=⟨h.size,fun p hp=>by obtain ⟨t,_,rfl⟩:=List.mem_map.1 hp;rfl⟩
theorem Up {n:Nat} {ts:List Nat} {tmps tmps':Array Value} (h:r9 (zv n ts tmps) tmps') {t:Nat} (ht:t ∈ ts):tmps'.getD t undef=tmps.getD t undef:=h.fix _ (List.mem_map.2 ⟨t,ht,rfl⟩)
theorem adb {n:Nat} {ts:List Nat} {tmps tmps':Array Value} (h:r9 (zv n ts tmps) tmps') {us:List Nat} (hu:∀ u ∈ us,u ∈ ts):us.map (fun t=>tmps'.getD t undef)=us.map (fun t=>tmps.getD t undef):=List.map_congr_left fun t ht=>Up h (hu t ht)
theorem Rel.stay {b0 b1:Nat} {K K':Nat→Nat→Prop} {w w':World} {a:AV} {v:Value} (hb0:∀ b,b0≤b→(∀ j,K b j)→b1≤b) (hK:∀ b j,K b j→K' b j) (hh:∀ b j,K b j→w'.heap[b]? = w.heap[b]?) (h:Rel (gK b0 K) w a v):Rel (gK b1 K') w' a v:=by
 have hno:∀ o p,(gK b0 K).inj o≠some p:=fun o p e=>by cases e
 generalize hg:gK b0 K=g0 at h hno
 have hK0:∀ b j,g0.K b j→K b j:=by subst hg;exact fun _ _ h=>h
 have hb:g0.b0=b0:=by subst hg;rfl
 clear hg
 have hc:∀ (b j:Nat),g0.K b j→w'.cell? ⟨b,j,none⟩=w.cell? ⟨b,j,none⟩:=fun b j hk=>nq (hh b j (hK0 b j hk))
 induction h with
 |sc x=>exact .sc x
 |agg l vs hs _ ih=>exact .agg l vs hs ih
 |ga l vs hs _ ih=>exact .ga l vs hs ih
 |vl loc sz es b off cap c hsz hl hcap h _ hw ih=>
  refine .vl loc sz es b off cap c hsz (fun e=>hb0 b (by rw [← hb];exact hl e) (fun j=>hK0 _ _ ((hw e).K j))) hcap (fun j a hj=>⟨hK _ _ (hK0 _ _ (h j a hj).1),(hc _ _ (h j a hj).1).trans (h j a hj).2⟩) ih (fun e=>?_)
  obtain ⟨w1,⟨cs,e,w2,w3⟩,w4,w5⟩:=hw e
  exact ⟨fun j=>hK _ _ (hK0 _ _ (w1 j)),⟨cs,e,(hh b 0 (hK0 _ _ (w1 0))).trans w2,w3⟩,w4,w5⟩
 |j4 loc sz=>exact .j4 loc sz
 |qz loc sz a=>exact .qz loc sz a
 |sl o off len sz b base cap hi hc hm hr=>exact (hno _ _ hi).elim
 |sq o off sz a=>exact .sq o off sz a
 |tf o off sz=>exact .tf o off sz
 |ez a=>exact .ez a
 |ptr o off b base hi=>exact (hno _ _ hi).elim
 |ft l b off c h _ ih=>exact .ft l b off c (fun j a hj=>⟨hK _ _ (hK0 _ _ (h j a hj).1),(hc _ _ (h j a hj).1).trans (h j a hj).2⟩) ih
 |fn f first captured va vb hs _ hs' _ ih ih'=>exact .fn f first captured va vb hs ih hs' ih'
 |mp o b base hi=>exact (hno _ _ hi).elim
 |pd t a v _ ih=>exact .pd t a v ih
 |yl o b base hi=>exact (hno _ _ hi).elim
 |bad v=>exact .bad v
theorem Rel.low {S:Nat→Prop} {w1 D ds w} (h:zi S w1 D ds w) (hS:∀ b,b<w1.heap.size→¬ S b) {a:AV} {v:Value} (hr:Rel (gK w1.heap.size (Aq w1)) w1 a v):Rel (gK w.heap.size (Aq w)) w a v:=
 hr.stay (K:=Aq w1) (K':=Aq w) (fun b h1 h2=>absurd (h2 0) (Nat.not_lt.2 h1)) (fun b _ (hk:b<w1.heap.size)=>Nat.lt_of_lt_of_le hk h.size) (fun b _ (hk:b<w1.heap.size)=>h.low b hk (hS b hk))
theorem bp.low {S:Nat→Prop} {w1 D ds w} (h:zi S w1 D ds w) (hS:∀ b,b<w1.heap.size→¬ S b) {l:List AV} {vs:List Value} (hr:bp (gK w1.heap.size (Aq w1)) w1 l vs):bp (gK w.heap.size (Aq w)) w l vs:=⟨hr.1,fun i a v ha hv=>(hr.2 i a v ha hv).low h hS⟩
theorem zi.fin {B:fj} {nt0 nt:NT} {L st g a1 w1} (hp:B.aw=0) (hnf:B.lr) (hn0:B.n0≤B.w.heap.size) (h1:k8 B nt L st g a1 w1) {S:Nat→Prop} {a:Act} {w:World} (hm:zi S w1 a1.defers a.defers w) (hS:∀ b,b<w1.heap.size→¬ S b) (hO:∀ b,¬ B.O b) {r:Nat} {v:Value} (hnt:r9 nt0 a.tmps) (hv:a.tmps.getD r undef=v) {Q:QL} {e:Ex} (hq:Q e [(r,.sc v)] (bk [])):Fin B nt0 Q (pz e) a w:=by
 have hb:=h1.cur.base
 have hok:=h1.cur.ok
 have hlow:∀ b,b<w1.heap.size→w.heap[b]? = w1.heap[b]? := fun b hlt=>hm.low b hlt (hS b hlt)
 have hKl:∀ b j,B.K b j→b<w1.heap.size:=fun b j hk=>hok.K b j (hb.K b j hk)
 refine Fin.mk' (g:={ b0:=B.b0,inj:=fun _=>none,K:=B.K }) hq ⟨⟨?_,fun o x hx=>?_,fun o o' x x' b base base' _ hx=>?_,fun b j hk=>Nat.lt_of_lt_of_le (hKl b j hk) hm.size⟩,fun o _ _=>rfl,⟨rfl,fun o ho=>?_,fun _ _ h=>h,fun b j hk=>?_,Nat.le_trans hb.size hm.size,hm.os.trans hb.os,hm.tape.trans hb.tape,hm.output.trans hb.output,fun b hlt hn=>?_,fun o b base ho=>?_,fun _ _ h=>.inl h,fun b cs e fr h=>?_,fun b l h=>?_,fun b cs e fr h hk=>?_⟩,by rw [hp];exact Nat.zero_le _⟩ ⟨hnt,fun t=>?_⟩ ?_
 ·have:=hok.size;rw [hb.b0] at this;exact Nat.le_trans this hm.size
 ·simp [bk,l5,Tr.get_nil] at hx
 ·simp [bk,l5,Tr.get_nil] at hx
 ·rcases ho with ho|ho
  ·rw [hp] at ho;cases ho
  ·exact (hnf o ho).elim
 ·exact (nq (hlow b (hKl b j hk))).trans (hb.cell b j hk)
 ·have hlt1:=Nat.lt_of_lt_of_le hlt hb.size
  exact (hlow b hlt1).trans (hb.frame b hlt hn)
 ·simp [bk,l5,Tr.get_nil] at ho
 ·obtain ⟨cs',fr',q1,q2⟩:=hb.rn b cs e fr h
  exact ⟨cs',fr',(hlow b (bt q1)).trans q1,q2⟩
 ·obtain ⟨l',q1⟩:=hb.lp b l h
  exact ⟨l',(hlow b (bt q1)).trans q1⟩
 ·have q1:=hb.whole b cs e fr h hk
  exact (hlow b (bt (q1.trans h))).trans q1
 ·rw [s7]
  by_cases e:r=t
  ·subst e;rw [if_pos rfl,hv];exact .sc _
  ·rw [if_neg e];exact .bad _
 ·obtain ⟨bs,e1,e2,e3⟩:=hm.Fs
  obtain ⟨cs,c1,c2,c3⟩:=h1.Fs
  refine ⟨bs++cs,by rw [e1,c1,List.map_append,List.append_assoc],?_,fun b hb'=>?_⟩
  ·rw [List.nodup_append]
   refine ⟨e2,c2,fun x hx y hy e=>?_⟩
   subst e
   have h2:=bt (c3 x hy).2.1
   have h3:=(e3 x hx).1
   omega
  ·have hun:ia { b0:=B.b0,inj:=fun _=>none,K:=B.K } (bk []).h b:=fun o base ho=>by simp [bk,l5,Tr.get_nil] at ho
   rcases List.mem_append.1 hb' with hb'|hb'
   ·exact ⟨Nat.le_trans hn0 (Nat.le_trans hb.size (e3 b hb').1),(e3 b hb').2,hun⟩
   ·have q:=c3 b hb'
    exact ⟨q.1,(hlow b (bt q.2.1)).trans q.2.1,hun⟩
def aia (x:Operand):Option Nat:=
 match x with
 |.tmp t=>some t
 |_=>none
def ao2 (o:Oper):Option (Option Nat × Nat × List Nat):=
 match o.op,o.guard with
 |.call { callee:=.value (.func f),args,.. },none=>(args.toList.mapM aia).map fun ts=>(o.dst,f,ts)
 |_,_=>none
def Hv (ops:Array Oper) (n:Nat):Option (Option Nat × Nat × List Nat):=
 match ops.toList.drop n with
 | [o]=>ao2 o
 |_=>none
theorem ahr:∀ {l:List Operand} {ts:List Nat},l.mapM aia=some ts→l=ts.map Operand.tmp
 | [],ts,h=>by simp at h;subst h;rfl
 |x::l,ts,h=>by
  simp only [List.mapM_cons,Option.bind_eq_bind,Option.bind_eq_some_iff] at h
  obtain ⟨t,h1,us,h2,h3⟩:=h
  cases h3
  cases x with
  |tmp u=>simp only [aia,Option.some.injEq] at h1;subst h1;rw [List.map_cons,ahr h2]
  |_=>cases h1
theorem afe {ops:Array Oper} {n f:Nat} {d:Option Nat} {args:List Nat} (h:Hv ops n=some (d,f,args)):∃ c ts pos af ty,ops.toList.drop n=[⟨d,.call { callee:=.value (.func f),args:=(args.map Operand.tmp).toArray,argTypes:=ts },ty,pos,af,none⟩]∧c=():=by
 unfold Hv at h
 split at h
 ·rename_i o ho
  obtain ⟨dst,op,ty,pos,af,gd⟩:=o
  unfold ao2 at h
  split at h
  ·rename_i f' aa ats h1 h2
   simp only [Option.map_eq_some_iff,Prod.mk.injEq] at h
   obtain ⟨ts,h3,rfl,rfl,rfl⟩:=h
   subst h1 h2
   refine ⟨(),ats,pos,af,ty,?_,rfl⟩
   rw [ho,← ahr h3]
  ·cases h
 ·cases h
theorem afo {P:Program} [KP P] {T:ec} (hT:ak P T) {B:fj} {nt:NT} (hnf:B.lr) {N id n:Nat} {ops:Array Oper} {K:SL→St→Prop} {X:Exit→Act→World→Prop} {L st g a w} (hs:du nt (.region id ops false)=true)
 {f:Nat} {args:List Nat} {d:Option Nat} (hl:Hv ops n=some (d,f,args)) (he:nv P f=true)
 (h:opsL P T ops (ops.toList.take n) K L st) (hh:k8 B nt L st g a w)
 (hK:∀ L' st' g' a' w',K L' st'→k8 B nt L' st' g' a' w'→Calls P f (args.map fun t=>a'.tmps.getD t undef).toArray w' (fun e w''=>∃ r,e = .returned r∧∀ a'',a''.defers=a'.defers→r9 nt a''.tmps→(∀ dd,d=some dd→a''.tmps.getD dd undef=r)→X .normal a'' w'')) :
 (Code.region id ops false).wpIn (g8 none) N P X a w:=by
 simp only [du,Bool.and_eq_true] at hs
 obtain ⟨hd,hg⟩:=hs
 obtain ⟨_,ts,pos,af,ty,hl,_⟩:=afe hl
 have key:∀ (l:List Oper) (is:List Nat),(∀ o ∈ l,o ∈ ops)→is.map (fun i=>ops[i]?)=(l++ops.toList.drop n).map some→∀ L st g a w,opsL P T ops l K L st→k8 B nt L st g a w→wpOpsIn (g8 none) N P ops X is a w:=by
  intro l
  induction l with
  |nil=>
   intro is _ his L st g a w h hh
   rw [hl,List.nil_append] at his
   match is,his with
   | [i],his=>
    simp only [List.map_cons,List.map_nil,List.cons.injEq,and_true] at his
    have hK':=hK L st g a w h hh
    have ho:(⟨d,.call { callee:=.value (.func f),args:=(args.map Operand.tmp).toArray,argTypes:=ts },ty,pos,af,none⟩:Oper) ∈ ops:=by
     have:(⟨d,.call { callee:=.value (.func f),args:=(args.map Operand.tmp).toArray,argTypes:=ts },ty,pos,af,none⟩:Oper) ∈ ops.toList.drop n:=by rw [hl];exact List.mem_singleton.2 rfl
     exact Array.mem_toList_iff.1 (List.mem_of_mem_drop this)
    simp only [wpOpsIn,his]
    have hw:Region.wanted (⟨d,.call { callee:=.value (.func f),args:=(args.map Operand.tmp).toArray,argTypes:=ts },ty,pos,af,none⟩:Oper) (yielded ops a.tmps)=true:=by simp [Region.wanted]
    rw [hw,if_pos rfl]
    refine ⟨lz none P _ a w,?_⟩
    rw [Oper.semAt_eq _ _ _ (by intro c e;cases e)]
    have hrun:(execOp a.eval (⟨d,.call { callee:=.value (.func f),args:=(args.map Operand.tmp).toArray,argTypes:=ts },ty,pos,af,none⟩:Oper)).run P w=(callFunc f (args.map fun t=>a.tmps.getD t undef).toArray).run P w:=by
     rw [G9 (h:=f) (first:=#[]) (captured:=#[]) (f:=.func f) rfl rfl]
     congr 2
     apply Array.ext'
     simp [Act.eval]
    rw [hrun,ur he]
    refine ⟨(fun h=>(by cases h)),(rz (ro:=none) (n:=N - 1) hK').mono ?_⟩
    rintro e w' ⟨r,rfl,hX⟩
    have hdd:=fun dd (e:d=some dd)=>q9 hd ho dd e
    show wpOpsIn (g8 none) N P ops X [] (a.put d r) w'
    refine hX _ (put_defers _ _ _) (hh.sl.1.put hdd) (fun dd e=>?_)
    subst e
    have:=(NT.Ks (hdd dd rfl)).1
    show (a.tmps.setIfInBounds dd r).getD dd undef=r
    rw [Array.getD_eq_getD_getElem?,Array.getElem?_setIfInBounds,if_pos rfl,if_pos (by rw [hh.sl.1.size];exact this)];rfl
   | [],his=>cases his
   |_::_::_,his=>simp at his
  |cons o l ih=>
   intro is hmem his L st g a w h hh
   obtain ⟨hc,hr,hdf⟩:=hh
   cases is with
   |nil=>cases his
   |cons i is=>
    simp only [List.cons_append,List.map_cons,List.cons.injEq] at his
    obtain ⟨hi,his⟩:=his
    have ho:=hmem o (by simp)
    simp only [wpOpsIn,hi]
    rcases H0 hr (Hp hg ho) h with ⟨hw,h1⟩|⟨hw,h1⟩
    ·rw [hw,if_pos rfl]
     unfold T0 Fx at h1
     cases hop:gx P T o (dt L) st with
     |none=>
      rw [hop] at h1
      refine adq hc.ok (fun o ho=>hc.fresh o ho (hnf o)) hr.eval h1 none N _ _ ?_
      rintro u w' ⟨g',v,st',q0,q1,q2,q3,q4⟩
      exact ih is (fun o ho=>hmem o (by simp [ho])) his _ st' g' _ w' q0 ⟨hc.step (hnf.Fl _ _) ⟨q1,q2⟩ q3,(hr.ext q2.ext).put q4 (q9 hd ho),by rw [put_defers];exact hdf.step q2⟩
     |some p=>
      obtain ⟨v,st'⟩:=p
      rw [hop] at h1
      refine Pm hT hc.ok (hc.free (hnf.Fl _ _)) hr.eval hop none N _ _ ?_
      rintro u w' ⟨g',q1,q2,q3⟩
      exact ih is (fun o ho=>hmem o (by simp [ho])) his _ st' g' _ w' h1 ⟨hc.step (hnf.Fl _ _) ⟨Dd hop,q1⟩ q2,(hr.ext q1.ext).put q3 (q9 hd ho),by rw [put_defers];exact hdf.step q1⟩
    ·rw [hw,if_neg (by simp)]
     refine ⟨lz none P o a w,?_⟩
     exact ih is (fun o ho=>hmem o (by simp [ho])) his _ st g _ w h1 ⟨hc,hr.put (.sc _) (q9 hd ho),by rw [put_defers];exact hdf⟩
 refine wpIn_region ?_
 exact key (ops.toList.take n) (List.range ops.size) (fun o ho=>Array.mem_toList_iff.1 (List.mem_of_mem_take ho)) (by rw [List.take_append_drop];exact Jz ops) L st g a w h hh
def pa:Nat→Code→Code
 |0,.seq a _=>a
 |n+1,.seq _ b=>pa n b
 |_,_=>.skip
def C2:Code→Array Oper
 |.region _ ops _=>ops
 |_=>#[]
def idC:Code→Nat
 |.region i _ _=>i
 |_=>0
theorem ux {a b:Code}:pa 0 (.seq a b)=a:=rfl
theorem ve {n:Nat} {a b:Code}:pa (n+1) (.seq a b)=pa n b:=rfl
theorem yp {i ops d}:C2 (.region i ops d)=ops:=rfl
theorem Q9:∀ {n:Nat} {c:Code},Jn (n+1) c=true→i9 n c = .seq (pa n c) (i9 (n+1) c)
 |0,.seq a b,_=>rfl
 |n+1,.seq a b,h=>Q9 (n:=n) (c:=b) h
theorem af7 (n:Nat) (ts:List Nat) (x y:Array Value) (t:Nat):(zv n ts x).has t=(zv n ts y).has t:=by
 unfold NT.has zv
 rw [List.all_map,List.all_map]
 rfl
theorem Bp {n:Nat} {ts:List Nat} {x y:Array Value}:∀ {c:Code},du (zv n ts x) c=true→du (zv n ts y) c=true:=by
 intro c
 induction c with
 |region i ops d=>
  intro h
  simp only [du,Be,tw,af7 n ts y x] at h ⊢
  exact h
 |seq a b iha ihb=>intro h;simp only [du,Bool.and_eq_true] at h ⊢;exact ⟨iha h.1,ihb h.2⟩
 |cond c a b iha ihb=>intro h;simp only [du,Bool.and_eq_true] at h ⊢;exact ⟨iha h.1,ihb h.2⟩
 |block i b ih=>intro h;exact ih h
 |loop b ih=>intro h;exact ih h
 |scope b ih=>intro h;exact ih h
 |rangeFunc f ps a b iha ihb=>
  intro h
  simp only [du,Bool.and_eq_true,af7 n ts y x] at h ⊢
  exact ⟨⟨⟨⟨h.1.1.1.1,iha h.1.1.1.2⟩,ihb h.1.1.2⟩,h.1.2⟩,h.2⟩
 |_=>intro _;rfl
theorem I4 {P:Program} [KP P] {T:ec} (hT:ak P T) {B:fj} {nt:NT} (hnf:B.lr) {N k n:Nat} {c:Code} (hsp:Jn (k+1) c=true) (hreg:pa k c = .region (idC (pa k c)) (C2 (pa k c)) false) (hs:du nt (pa k c)=true)
 {d:Option Nat} {f:Nat} {args:List Nat} (hcall:Hv (C2 (pa k c)) n=some (d,f,args)) (he:nv P f=true) {K:SL→St→Prop} {L st g a w} (h:opsL P T (C2 (pa k c)) ((C2 (pa k c)).toList.take n) K L st) (hh:k8 B nt L st g a w) {X:Exit→Act→World→Prop}
 (hK:∀ L' st' g' a' w',K L' st'→k8 B nt L' st' g' a' w'→Calls P f (args.map fun t=>a'.tmps.getD t undef).toArray w' (fun e w''=>∃ r,e = .returned r∧∀ a'',a''.defers=a'.defers→r9 nt a''.tmps→(∀ dd,d=some dd→a''.tmps.getD dd undef=r)→(i9 (k+1) c).wpIn (g8 none) N P X a'' w'')) :
 (i9 k c).wpIn (g8 none) N P X a w:=by
 rw [Q9 hsp]
 refine wpIn_seq ?_
 rw [hreg] at hs ⊢
 exact afo hT hnf hs hcall he h hh hK
end
end Go.Vm
namespace Go.Vm
variable [TK]
theorem k8.exact {B:fj} {nt L st g a w} (hh:k8 B nt L st g a w) {t:Nat} {x:Value} (h:lk L t = .sc x):a.tmps.getD t undef=x:=by
 have:=hh.sl.2 t
 rw [h] at this
 exact this.exact rfl
theorem ai4 {g:Gh} {w:World} {tmps:Array Value}:∀ {Ls:SL},(∀ p ∈ Ls,Rel g w p.2 (tmps.getD p.1 undef))→∀ t,Rel g w (lk Ls t) (tmps.getD t undef)
 | [],_,t=>.bad _
 |p::Ls,h,t=>by
  rw [s7]
  by_cases e:p.1=t
  ·rw [if_pos e,← e];exact h p (by simp)
  ·rw [if_neg e];exact ai4 (fun q hq=>h q (by simp [hq])) t
theorem k8.quiet {w0:World} {D:List Deferred} {nt L st g a w} (hh:k8 (Yn w0 D) nt L st g a w) (S:Nat→Prop) (m:Nat) (xx:Bool):ib S m xx w0 w:=by
 have hb:=hh.cur.base
 exact .quiet S m xx hb.size hb.os hb.tape hb.output (fun b h=>hb.frame b h (fun h=>h))
theorem am6 {nt:NT} {n:Nat} {tmps:Array Value} (h:r9 nt tmps) (hn:nt.n=n):r9 (n:NT) tmps:=⟨by rw [h.size,hn],fun p hp=>by cases hp⟩
end Go.Vm
namespace Go.Vm
variable [TK]
noncomputable section
section
variable (P : Program) (ρ : Operand → AV) (d : Option Tmp) (ty : TypeId) (pos : String) (af : Array Edge) (gd : Option (Nat × Bool)) (t u : TypeId) (x y : Operand)
theorem K4 (op:BinOp) (k k':IntKind) (a b:Int) (hx : ρ x = .sc (.int k a)) (hy : ρ y = .sc (.int k' b)) :
 nr P ρ ⟨d,.binOp op t x y u,ty,pos,af,gd⟩ op t (.sc (.int k a)) (.sc (.int k' b))=M.of ((ev P (binOp op t (.int k a) (.int k' b))).map .sc):=by
 have h1:∀ s:Sem Value,ev P (do pure (Next.value (← s)))=(ev P s).map Next.value:=by
  intro s
  induction s with
  |pure b=>rfl
  |program k ih=>exact ih P
  |choose q k ih=>
   simp only [bind,Sem.bind,ev]
   split
   ·exact ih 0
   ·rfl
  |mark m k ih=>exact ih
  |_=>rfl
 have h2:execOp (fun z=>((ρ z).gn).getD undef) ⟨d,.binOp op t x y u,ty,pos,af,gd⟩=(do pure (Next.value (← (do eqGuard op t x y (.int k a) (.int k' b);binOp op t (.int k a) (.int k' b))))):=by
  simp only [execOp,hx,hy,AV.gn,Option.getD_some]
 have h3:ev P (do eqGuard op t x y (.int k a) (.int k' b);binOp op t (.int k a) (.int k' b))=ev P (binOp op t (.int k a) (.int k' b)):=by
  cases op<;>rfl
 unfold nr qp
 simp only [AV.gn,Option.isSome_some,Bool.and_self,cond_true]
 rw [h2,h1,h3]
 cases ev P (binOp op t (.int k a) (.int k' b))<;>rfl
theorem aly (k k':IntKind) (a b:Int) (h : 0≤b):ev P (binOp .shl t (.int k a) (.int k' b))=some (.int k (k.wrap (a * 2 ^ (min b.toNat k.bits)))):=by
 have:¬ b<0:=by omega
 simp [binOp,Op.shift,this,Cs]
theorem alw (k k':IntKind) (a b:Int) (h : 0≤b):ev P (binOp .shr t (.int k a) (.int k' b))=some (.int k (a.fdiv (2 ^ (min b.toNat k.bits)))):=by
 have:¬ b<0:=by omega
 simp [binOp,Op.shift,this,Cs]
theorem Iy (op:BinOp) (a b:Bool) (hx : ρ x = .sc (.bool a)) (hy : ρ y = .sc (.bool b)) :
 nr P ρ ⟨d,.binOp op t x y u,ty,pos,af,gd⟩ op t (.sc (.bool a)) (.sc (.bool b))=M.of ((ev P (binOp op t (.bool a) (.bool b))).map .sc):=by
 have h1:∀ s:Sem Value,ev P (do pure (Next.value (← s)))=(ev P s).map Next.value:=by
  intro s
  induction s with
  |pure b=>rfl
  |program k ih=>exact ih P
  |choose q k ih=>
   simp only [bind,Sem.bind,ev]
   split
   ·exact ih 0
   ·rfl
  |mark m k ih=>exact ih
  |_=>rfl
 have h2:execOp (fun z=>((ρ z).gn).getD undef) ⟨d,.binOp op t x y u,ty,pos,af,gd⟩=(do pure (Next.value (← (do eqGuard op t x y (.bool a) (.bool b);binOp op t (.bool a) (.bool b))))):=by
  simp only [execOp,hx,hy,AV.gn,Option.getD_some]
 have h3:ev P (do eqGuard op t x y (.bool a) (.bool b);binOp op t (.bool a) (.bool b))=ev P (binOp op t (.bool a) (.bool b)):=by
  cases op<;>rfl
 unfold nr qp
 simp only [AV.gn,Option.isSome_some,Bool.and_self,cond_true]
 rw [h2,h1,h3]
 cases ev P (binOp op t (.bool a) (.bool b))<;>rfl
theorem Zm {d:TypeDesc} (h:P.underlying t=some d):ev P (underlying t)=some d:=by
 rw [underlying]
 show ev P (match P.underlying t with|some d=>pure d|none=>_)=_
 rw [h];rfl
theorem acb (n:Nat) (a b:Bool) (h:P.underlying t=some .bool):ev P (Op.equalIn (n+1) t (.bool a) (.bool b))=some (a == b):=by
 simp only [Op.equalIn]
 rw [uf,Zm P t h]
 rfl
theorem N0 (a b:Bool) (h:P.underlying t=some .bool):ev P (binOp .neq t (.bool a) (.bool b))=some (.bool (a != b)):=by
 show ev P (do pure (Value.bool (!(← Op.equalIn (9999+1) t (.bool a) (.bool b)))))=_
 rw [uf,acb P t 9999 a b h]
 rfl
theorem J9 (op:BinOp) (a b:ByteArray) (hx : ρ x = .sc (.string a)) (hy : ρ y = .sc (.string b)) :
 nr P ρ ⟨d,.binOp op t x y u,ty,pos,af,gd⟩ op t (.sc (.string a)) (.sc (.string b))=M.of ((ev P (binOp op t (.string a) (.string b))).map .sc):=by
 have h1:∀ s:Sem Value,ev P (do pure (Next.value (← s)))=(ev P s).map Next.value:=by
  intro s
  induction s with
  |pure b=>rfl
  |program k ih=>exact ih P
  |choose q k ih=>
   simp only [bind,Sem.bind,ev]
   split
   ·exact ih 0
   ·rfl
  |mark m k ih=>exact ih
  |_=>rfl
 have h2:execOp (fun z=>((ρ z).gn).getD undef) ⟨d,.binOp op t x y u,ty,pos,af,gd⟩=(do pure (Next.value (← (do eqGuard op t x y (.string a) (.string b);binOp op t (.string a) (.string b))))):=by
  simp only [execOp,hx,hy,AV.gn,Option.getD_some]
 have h3:ev P (do eqGuard op t x y (.string a) (.string b);binOp op t (.string a) (.string b))=ev P (binOp op t (.string a) (.string b)):=by
  cases op<;>rfl
 unfold nr qp
 simp only [AV.gn,Option.isSome_some,Bool.and_self,cond_true]
 rw [h2,h1,h3]
 cases ev P (binOp op t (.string a) (.string b))<;>rfl
theorem str_eq (a b:ByteArray):(a.toList == b.toList)=decide (a=b):=by
 rw [ByteArray.toList_eq,ByteArray.toList_eq,Bool.eq_iff_iff]
 simp only [beq_iff_eq,decide_eq_true_eq]
 constructor
 ·intro h
  cases a;cases b
  congr 1
  exact Array.ext' h
 ·intro h;rw [h]
theorem Qv (a b:ByteArray):ev P (binOp .eql t (.string a) (.string b))=some (.bool (decide (a=b))):=by
 rw [← str_eq];rfl
theorem Rp (a b:ByteArray):ev P (binOp .neq t (.string a) (.string b))=some (.bool (!decide (a=b))):=by
 rw [← str_eq];rfl
end
def Ll (u:Option TypeDesc):Bool:=match u with|some (.slice _)=>true|_=>false
theorem afr (e):Ll (some (.slice e))=true:=id rfl
theorem agz {u} (h:Ll u=true):∃ e,u=some (.slice e):=by
 unfold Ll at h;split at h
 ·exact ⟨_,rfl⟩
 ·cases h
theorem agp {P:Program} {t op x y} (h:Ll (P.underlying t)=true):Md P t op x y=Lr op x y:=by
 obtain ⟨e,he⟩:=agz h
 unfold Md;rw [he]
theorem Sy (P:Program) (ρ o op t l sz es b):nr P ρ o op t (.vl l sz es) b=Md P t op (.vl l sz es) b:=id rfl
theorem aha (b):og .eql b=M.pure (.sc (.bool b)):=id rfl
theorem Gn (P:Program) (ρ:Operand→AV) (d ty pos af gd) (t u:TypeId) (x y:Operand) (op:BinOp) (a b:Option Addr) (n c m k:Nat) (hx : ρ x = .sc (.slice a n c)) (hy : ρ y = .sc (.slice b m k)) :
 nr P ρ ⟨d,.binOp op t x y u,ty,pos,af,gd⟩ op t (.sc (.slice a n c)) (.sc (.slice b m k))=M.of ((ev P (binOp op t (.slice a n c) (.slice b m k))).map .sc):=by
 have h1:∀ s:Sem Value,ev P (do pure (Next.value (← s)))=(ev P s).map Next.value:=by
  intro s
  induction s with
  |pure b=>rfl
  |program k ih=>exact ih P
  |choose q k ih=>
   simp only [bind,Sem.bind,ev]
   split
   ·exact ih 0
   ·rfl
  |mark m k ih=>exact ih
  |_=>rfl
 have h2:execOp (fun z=>((ρ z).gn).getD undef) ⟨d,.binOp op t x y u,ty,pos,af,gd⟩=(do pure (Next.value (← (do eqGuard op t x y (.slice a n c) (.slice b m k);binOp op t (.slice a n c) (.slice b m k))))):=by
  simp only [execOp,hx,hy,AV.gn,Option.getD_some]
 have h3:ev P (do eqGuard op t x y (.slice a n c) (.slice b m k);binOp op t (.slice a n c) (.slice b m k))=ev P (binOp op t (.slice a n c) (.slice b m k)):=by
  cases op<;>rfl
 unfold nr qp
 simp only [AV.gn,Option.isSome_some,Bool.and_self,cond_true]
 rw [h2,h1,h3]
 cases ev P (binOp op t (.slice a n c) (.slice b m k))<;>rfl
theorem X9 {P:Program} {t:TypeId} {a:Option Addr} {n c m k:Nat} (d:Nat) (h:Ll (P.underlying t)=true):ev P (Op.equalIn (d+1) t (.slice a n c) (.slice none m k))=some a.isNone:=by
 obtain ⟨e,he⟩:=agz h
 simp only [Op.equalIn]
 rw [uf,Zm P t he]
 cases a<;>rfl
theorem Ke {P:Program} {t:TypeId} {a:Option Addr} {n c m k:Nat} (h:Ll (P.underlying t)=true):ev P (binOp .eql t (.slice a n c) (.slice none m k))=some (.bool a.isNone):=by
 show ev P (do pure (Value.bool (← Op.equalIn (9999+1) t (.slice a n c) (.slice none m k))))=_
 rw [uf,X9 9999 h]
 rfl
end
end Go.Vm
section
set_option maxRecDepth 4000
namespace Go.Vm
theorem wR:type_of% @agy∧type_of% @V4∧type_of% @am7∧type_of% @ag7∧type_of% @acm∧type_of% @ahv∧type_of% @ahb∧type_of% @ann∧type_of% @amr∧type_of% @ak0∧type_of% @aoa∧type_of% @amv∧type_of% @ao3∧type_of% @anz∧type_of% @af2∧type_of% @afx∧type_of% @ahj∧type_of% @amf∧type_of% @amq∧type_of% @Wt∧type_of% @Zu∧type_of% @Xh∧type_of% @Sh∧type_of% @Rn∧type_of% @aak∧type_of% @ab4∧type_of% @adr∧type_of% @ag1∧type_of% @Zh∧type_of% @abq∧type_of% @Xe∧type_of% @Y0∧type_of% @V9∧type_of% @V1∧type_of% @ac6∧type_of% @Vw∧type_of% @Wm∧type_of% @aow∧type_of% @F1∧type_of% @F6∧type_of% @Zl∧type_of% @aa8∧type_of% @Sj∧type_of% @ahh∧type_of% @Z6∧type_of% @Vk∧type_of% @Z5∧type_of% @agk∧type_of% @anq∧type_of% @am8∧type_of% @alo∧type_of% @anr∧type_of% @anp∧type_of% @amt∧type_of% @afv∧type_of% @age∧type_of% @agr∧type_of% @agh∧type_of% @af4∧type_of% @aai∧type_of% @Vf∧type_of% @Ry∧type_of% @Re∧type_of% @abt∧type_of% @ag0∧type_of% @agd∧type_of% @Sm∧type_of% @anv∧type_of% @aox∧type_of% @adk∧type_of% @Y8∧type_of% @agi∧type_of% @Nc∧type_of% @J0:=
 ⟨@agy,@V4,@am7,@ag7,@acm,@ahv,@ahb,@ann,@amr,@ak0,@aoa,@amv,@ao3,@anz,@af2,@afx,@ahj,@amf,@amq,@Wt,@Zu,@Xh,@Sh,@Rn,@aak,@ab4,@adr,@ag1,@Zh,@abq,@Xe,@Y0,@V9,@V1,@ac6,@Vw,@Wm,@aow,@F1,@F6,@Zl,@aa8,@Sj,@ahh,@Z6,@Vk,@Z5,@agk,@anq,@am8,@alo,@anr,@anp,@amt,@afv,@age,@agr,@agh,@af4,@aai,@Vf,@Ry,@Re,@abt,@ag0,@agd,@Sm,@anv,@aox,@adk,@Y8,@agi,@Nc,@J0⟩
theorem R0:type_of% @Zn∧type_of% @ams∧type_of% @nc0∧type_of% @nc1∧type_of% @Int.sub_zero∧type_of% @Int.sub_self∧type_of% @Int.add_zero∧type_of% @Int.zero_add∧type_of% @Pw∧type_of% @amg∧type_of% @W5∧type_of% @aax∧type_of% @agc∧type_of% @Ns∧type_of% @List.length_replicate.{0}∧type_of% @Vt∧type_of% @V6∧type_of% @aob∧type_of% @En∧type_of% @Ng∧type_of% @Je∧type_of% @abj∧type_of% @adn∧type_of% @Rl∧type_of% @H8∧type_of% @aan∧type_of% @ag6∧type_of% @ak6∧type_of% @Pn∧type_of% @D9∧type_of% @On∧type_of% @ama∧type_of% @ahn∧type_of% @Nm∧type_of% @Rh∧type_of% @Oc∧type_of% @K5∧type_of% @W9∧type_of% @Rq∧type_of% @Qw∧type_of% @List.length_append.{0}∧type_of% @rtT∧type_of% @rtF∧type_of% @Go.Vm.z8.eq_1∧type_of% @Go.Vm.bounds.eq_1∧type_of% @Go.Vm.Dr.eq_1∧type_of% @Go.Vm.Dr.eq_2:=
 ⟨@Zn,@ams,@nc0,@nc1,@Int.sub_zero,@Int.sub_self,@Int.add_zero,@Int.zero_add,@Pw,@amg,@W5,@aax,@agc,@Ns,@List.length_replicate.{0},@Vt,@V6,@aob,@En,@Ng,@Je,@abj,@adn,@Rl,@H8,@aan,@ag6,@ak6,@Pn,@D9,@On,@ama,@ahn,@Nm,@Rh,@Oc,@K5,@W9,@Rq,@Qw,@List.length_append.{0},@rtT,@rtF,@Go.Vm.z8.eq_1,@Go.Vm.bounds.eq_1,@Go.Vm.Dr.eq_1,@Go.Vm.Dr.eq_2⟩
theorem R1:type_of% @Go.Vm.zk.eq_1∧type_of% @Go.Vm.Cn.eq_def∧type_of% @Go.Vm.sw.eq_1∧type_of% @F9∧type_of% @If∧type_of% @Nb∧type_of% @vt∧type_of% @Pv∧type_of% @Nat.div_one∧type_of% @S8∧type_of% @Px∧type_of% @ale∧type_of% @Oi∧type_of% @P0∧type_of% @Ob∧type_of% @ast∧type_of% @ag4∧type_of% @ahs∧type_of% @asj∧type_of% @ar3∧type_of% @aft∧type_of% @Xp∧type_of% @Y3∧type_of% @Xo∧type_of% @E3∧type_of% @Hz∧type_of% @Fg∧type_of% @Ta∧type_of% @V5∧type_of% @Ra∧type_of% @Q6∧type_of% @Vb∧type_of% @Pq:=
 ⟨@Go.Vm.zk.eq_1,@Go.Vm.Cn.eq_def,@Go.Vm.sw.eq_1,@F9,@If,@Nb,@vt,@Pv,@Nat.div_one,@S8,@Px,@ale,@Oi,@P0,@Ob,@ast,@ag4,@ahs,@asj,@ar3,@aft,@Xp,@Y3,@Xo,@E3,@Hz,@Fg,@Ta,@V5,@Ra,@Q6,@Vb,@Pq⟩
theorem R2:type_of% @afr∧type_of% @agp∧type_of% @Sy∧type_of% @aha∧type_of% @Gn∧type_of% @Ke∧type_of% @Option.isNone_none.{0}∧type_of% @Option.isNone_some.{0}∧type_of% @afu∧type_of% @Ny∧type_of% @Is∧type_of% @I9∧type_of% @Ni∧type_of% @Jk∧type_of% @Xm∧type_of% @ad0∧type_of% @Wx∧type_of% @Jb∧type_of% @Ii∧type_of% @I8∧type_of% @Ic∧type_of% @Fz∧type_of% @Zv∧type_of% @Dq∧type_of% @List.isEmpty_cons.{0}∧type_of% @List.isEmpty_nil.{0}∧type_of% @List.flatMap_nil.{0,0}∧type_of% @M9∧type_of% @Od∧type_of% @Nt∧type_of% @N1∧type_of% @S6∧type_of% @Pp∧type_of% @and_true∧type_of% @true_and∧type_of% @Nz∧type_of% @Nq∧type_of% @Wp∧type_of% @ahm∧type_of% @aoy∧type_of% @and_self:=
 ⟨@afr,@agp,@Sy,@aha,@Gn,@Ke,@Option.isNone_none.{0},@Option.isNone_some.{0},@afu,@Ny,@Is,@I9,@Ni,@Jk,@Xm,@ad0,@Wx,@Jb,@Ii,@I8,@Ic,@Fz,@Zv,@Dq,@List.isEmpty_cons.{0},@List.isEmpty_nil.{0},@List.flatMap_nil.{0,0},@M9,@Od,@Nt,@N1,@S6,@Pp,@and_true,@true_and,@Nz,@Nq,@Wp,@ahm,@aoy,@and_self⟩
theorem R3:type_of% @List.size_toArray.{0}∧type_of% @V0∧type_of% @V3∧type_of% @Z1∧type_of% @Ze∧type_of% @W8∧type_of% @Z8∧type_of% @Rc∧type_of% @ab8∧type_of% @Iw∧type_of% @Wk∧type_of% @ac1∧type_of% @V2∧type_of% @Iz∧type_of% @Jw∧type_of% @Ww∧type_of% @Wi∧type_of% @Fy∧type_of% @M8∧type_of% @Wf∧type_of% @Vj∧type_of% @ago∧type_of% @Sn∧type_of% @aao∧type_of% @Wr∧type_of% @Sf∧type_of% @Y1∧type_of% @Xc∧type_of% @Xa∧type_of% @Sr∧type_of% @Pt∧type_of% @Nv∧type_of% @ase∧type_of% @adf∧type_of% @Xk∧type_of% @N3∧type_of% @J9∧type_of% @Qv∧type_of% @Rp∧type_of% @vo∧type_of% @Go.Vm.cellsIn.eq_1∧type_of% @Go.Vm.cellsIn.eq_2∧type_of% @Go.Vm.cellsIn.eq_5∧type_of% @Go.Vm.cellsIn.eq_6∧type_of% @Go.Vm.C3.eq_1:=
 ⟨@List.size_toArray.{0},@V0,@V3,@Z1,@Ze,@W8,@Z8,@Rc,@ab8,@Iw,@Wk,@ac1,@V2,@Iz,@Jw,@Ww,@Wi,@Fy,@M8,@Wf,@Vj,@ago,@Sn,@aao,@Wr,@Sf,@Y1,@Xc,@Xa,@Sr,@Pt,@Nv,@ase,@adf,@Xk,@N3,@J9,@Qv,@Rp,@vo,@Go.Vm.cellsIn.eq_1,@Go.Vm.cellsIn.eq_2,@Go.Vm.cellsIn.eq_5,@Go.Vm.cellsIn.eq_6,@Go.Vm.C3.eq_1⟩
theorem R4:type_of% @Go.Vm.Hd.eq_1∧type_of% @Dm∧type_of% @J4∧type_of% @Kl∧type_of% @K9∧type_of% @B4∧type_of% @Ey∧type_of% @E0∧type_of% @D2∧type_of% @Kv∧type_of% @Gf∧type_of% @K0∧type_of% @B7∧type_of% @Ir∧type_of% @Jq∧type_of% @Ix∧type_of% @B6∧type_of% @Ia∧type_of% @Jf∧type_of% @N8∧type_of% @Kp∧type_of% @Wu∧type_of% @rr∧type_of% @Hr∧type_of% @M4∧type_of% @sx∧type_of% @agl∧type_of% @ami∧type_of% @ak4∧type_of% @Ss∧type_of% @Qq∧type_of% @Ev∧type_of% @Wd∧type_of% @Q4:=
 ⟨@Go.Vm.Hd.eq_1,@Dm,@J4,@Kl,@K9,@B4,@Ey,@E0,@D2,@Kv,@Gf,@K0,@B7,@Ir,@Jq,@Ix,@B6,@Ia,@Jf,@N8,@Kp,@Wu,@rr,@Hr,@M4,@sx,@agl,@ami,@ak4,@Ss,@Qq,@Ev,@Wd,@Q4⟩
theorem R5:type_of% @Go.Vm.sh.eq_1∧type_of% @List.flatten_cons.{0}∧type_of% @List.flatten_nil.{0}∧type_of% @List.replicate_succ.{0}∧type_of% @List.replicate_zero.{0}∧type_of% @Vn∧type_of% @Vo∧type_of% @anx∧type_of% @ag9∧type_of% @arw∧type_of% @ar9∧type_of% @asn∧type_of% @Ht∧type_of% @C9∧type_of% @Hb∧type_of% @ya∧type_of% @Nx∧type_of% @Hs∧type_of% @Fj∧type_of% @It∧type_of% @x9∧type_of% @Am∧type_of% @M1∧type_of% @Vh∧type_of% @E9∧type_of% @v9∧type_of% @Es∧type_of% @F0∧type_of% @B0∧type_of% @Ol∧type_of% @M5∧type_of% @J8∧type_of% @Dv∧type_of% @Qk∧type_of% @K4∧type_of% @Iy∧type_of% @aly∧type_of% @alw∧type_of% @N0∧type_of% @Go.IntKind.bits.eq_6∧type_of% @Nat.min_def∧type_of% @ar1∧type_of% @arx:=
 ⟨@Go.Vm.sh.eq_1,@List.flatten_cons.{0},@List.flatten_nil.{0},@List.replicate_succ.{0},@List.replicate_zero.{0},@Vn,@Vo,@anx,@ag9,@arw,@ar9,@asn,@Ht,@C9,@Hb,@ya,@Nx,@Hs,@Fj,@It,@x9,@Am,@M1,@Vh,@E9,@v9,@Es,@F0,@B0,@Ol,@M5,@J8,@Dv,@Qk,@K4,@Iy,@aly,@alw,@N0,@Go.IntKind.bits.eq_6,@Nat.min_def,@ar1,@arx⟩
theorem R6:type_of% @asa∧type_of% @asp∧type_of% @asv∧type_of% @ar7∧type_of% @ar4∧type_of% @asq∧type_of% @asi∧type_of% @asd∧type_of% @acj∧type_of% @ac5∧type_of% @apw∧type_of% @awo∧type_of% @aix∧type_of% @Go.Vm.G1.eq_1∧type_of% @Go.Vm.zq.eq_1∧type_of% @Go.Vm.um.eq_def∧type_of% @Go.Vm.Pk.eq_1∧type_of% @Go.Vm.Dc.eq_1∧type_of% @Go.Vm.wz.eq_1∧type_of% @Go.Vm.od.eq_1∧type_of% @Go.Vm.od.eq_2∧type_of% @Go.Vm.AV.known.eq_2∧type_of% @Go.Value.oneCell'.eq_3∧type_of% @Go.Vm.AV.cells.eq_1∧type_of% @Go.Vm.AV.cells.eq_2∧type_of% @Go.Vm.AV.cells.eq_3∧type_of% @Go.Value.cells.eq_1∧type_of% @Go.Value.cells.eq_2∧type_of% @Go.Vm.AV.one.eq_4∧type_of% @Go.Vm.AV.one.eq_5∧type_of% @Go.Vm.ql.eq_1∧type_of% @Go.Vm.po.eq_1∧type_of% @Go.Vm.po.eq_2∧type_of% @Go.Vm.T8.eq_1∧type_of% @Go.Vm.ph.eq_1∧type_of% @Go.Vm.tm.eq_2∧type_of% @Go.Vm.tm.eq_6∧type_of% @Go.Vm.jn.eq_1:=
 ⟨@asa,@asp,@asv,@ar7,@ar4,@asq,@asi,@asd,@acj,@ac5,@apw,@awo,@aix,@Go.Vm.G1.eq_1,@Go.Vm.zq.eq_1,@Go.Vm.um.eq_def,@Go.Vm.Pk.eq_1,@Go.Vm.Dc.eq_1,@Go.Vm.wz.eq_1,@Go.Vm.od.eq_1,@Go.Vm.od.eq_2,@Go.Vm.AV.known.eq_2,@Go.Value.oneCell'.eq_3,@Go.Vm.AV.cells.eq_1,@Go.Vm.AV.cells.eq_2,@Go.Vm.AV.cells.eq_3,@Go.Value.cells.eq_1,@Go.Value.cells.eq_2,@Go.Vm.AV.one.eq_4,@Go.Vm.AV.one.eq_5,@Go.Vm.ql.eq_1,@Go.Vm.po.eq_1,@Go.Vm.po.eq_2,@Go.Vm.T8.eq_1,@Go.Vm.ph.eq_1,@Go.Vm.tm.eq_2,@Go.Vm.tm.eq_6,@Go.Vm.jn.eq_1⟩
theorem R7:type_of% @Go.Vm.jn.eq_3∧type_of% @Go.Vm.jn.eq_4∧type_of% @Go.Vm.He.eq_1∧type_of% @Go.Vm.Mg.eq_1∧type_of% @Go.Vm.aa7.eq_1∧type_of% @Go.Vm.l6.eq_1∧type_of% @Go.Vm.l6.eq_2∧type_of% @Go.Vm.l6.eq_3∧type_of% @Go.Vm.l6.eq_4∧type_of% @Go.Vm.l6.eq_5∧type_of% @Go.Vm.l6.eq_6∧type_of% @Go.Vm.l6.eq_7∧type_of% @Go.Vm.l6.eq_8∧type_of% @Go.Vm.l6.eq_9∧type_of% @Go.Vm.l6.eq_10∧type_of% @Go.Vm.AV.int.eq_1∧type_of% @Go.Vm.AV.bool.eq_1∧type_of% @Go.Vm.AV.exact.eq_1∧type_of% @Go.Vm.AV.exact.eq_2∧type_of% @Go.Vm.intOf.eq_1∧type_of% @Go.Vm.intOf.eq_2∧type_of% @Go.Vm.nn.eq_1∧type_of% @Go.Vm.qe.eq_1∧type_of% @Go.Vm.xd.eq_1∧type_of% @Go.Vm.xd.eq_2∧type_of% @Go.Vm.vh.eq_1∧type_of% @Go.Vm.Bg.eq_1∧type_of% @Go.Vm.ny.eq_1∧type_of% @Go.Vm.tu.eq_1∧type_of% @Go.Vm.qd.eq_1∧type_of% @Go.Vm.qd.eq_3∧type_of% @Go.Vm.qd.eq_9∧type_of% @Go.Vm.K2.eq_1∧type_of% @Go.Vm.Oo.eq_1∧type_of% @Go.Vm.Qe.eq_1∧type_of% @Go.Vm.isSlice.eq_3∧type_of% @Go.Vm.isSlice.eq_4∧type_of% @Go.Vm.Ly.eq_1∧type_of% @Go.goInt.eq_1∧type_of% @al1∧type_of% @alj∧type_of% @aoo:=
 ⟨@Go.Vm.jn.eq_3,@Go.Vm.jn.eq_4,@Go.Vm.He.eq_1,@Go.Vm.Mg.eq_1,@Go.Vm.aa7.eq_1,@Go.Vm.l6.eq_1,@Go.Vm.l6.eq_2,@Go.Vm.l6.eq_3,@Go.Vm.l6.eq_4,@Go.Vm.l6.eq_5,@Go.Vm.l6.eq_6,@Go.Vm.l6.eq_7,@Go.Vm.l6.eq_8,@Go.Vm.l6.eq_9,@Go.Vm.l6.eq_10,@Go.Vm.AV.int.eq_1,@Go.Vm.AV.bool.eq_1,@Go.Vm.AV.exact.eq_1,@Go.Vm.AV.exact.eq_2,@Go.Vm.intOf.eq_1,@Go.Vm.intOf.eq_2,@Go.Vm.nn.eq_1,@Go.Vm.qe.eq_1,@Go.Vm.xd.eq_1,@Go.Vm.xd.eq_2,@Go.Vm.vh.eq_1,@Go.Vm.Bg.eq_1,@Go.Vm.ny.eq_1,@Go.Vm.tu.eq_1,@Go.Vm.qd.eq_1,@Go.Vm.qd.eq_3,@Go.Vm.qd.eq_9,@Go.Vm.K2.eq_1,@Go.Vm.Oo.eq_1,@Go.Vm.Qe.eq_1,@Go.Vm.isSlice.eq_3,@Go.Vm.isSlice.eq_4,@Go.Vm.Ly.eq_1,@Go.goInt.eq_1,@al1,@alj,@aoo⟩
theorem R8:type_of% @Go.Vm.pack.eq_1∧type_of% @Go.Vm.pack.eq_2∧type_of% @Go.Vm.cd.eq_1∧type_of% @Go.Vm.cd.eq_2∧type_of% @Go.Vm.bk.eq_1∧type_of% @Go.Vm.l5.eq_1∧type_of% @Go.Vm.l5.eq_2∧type_of% @Go.Vm.tj.eq_1∧type_of% @k7∧type_of% @zw∧type_of% @V7∧type_of% @adx∧type_of% @xe∧type_of% @wq∧type_of% @A9∧type_of% @Rm∧type_of% @Sd∧type_of% @Sq∧type_of% @Oh∧type_of% @Q8∧type_of% @Go.Vm.gi.eq_1∧type_of% @Go.Vm.ep.eq_1∧type_of% @Go.Vm.gj.eq_1∧type_of% @Go.Vm.mz.eq_1∧type_of% @Go.Vm.mz.eq_2∧type_of% @Go.Vm.reach.eq_2∧type_of% @Go.Vm.reach.eq_3∧type_of% @Go.Vm.fe.eq_1∧type_of% @Go.Vm.dx.eq_1∧type_of% @Go.Vm.dx.eq_2∧type_of% @Go.Vm.AV.names.eq_1∧type_of% @Go.Vm.AV.names.eq_2∧type_of% @Go.Vm.AV.names.eq_3∧type_of% @Go.Vm.AV.names.eq_4∧type_of% @Go.Vm.AV.names.eq_5∧type_of% @Go.Vm.AV.names.eq_9∧type_of% @Go.Vm.AV.names.go.eq_1∧type_of% @Go.Vm.AV.names.go.eq_2∧type_of% @Go.Vm.bh.names.eq_1∧type_of% @Go.Vm.AV.dr.eq_1∧type_of% @Go.Vm.AV.dr.eq_2∧type_of% @Go.Vm.AV.dr.eq_3∧type_of% @Go.Vm.AV.dr.eq_4∧type_of% @Go.Vm.AV.dr.eq_5∧type_of% @Go.Vm.AV.dr.eq_6∧type_of% @Go.Vm.AV.dr.eq_7∧type_of% @Go.Vm.AV.dr.eq_11:=
 ⟨@Go.Vm.pack.eq_1,@Go.Vm.pack.eq_2,@Go.Vm.cd.eq_1,@Go.Vm.cd.eq_2,@Go.Vm.bk.eq_1,@Go.Vm.l5.eq_1,@Go.Vm.l5.eq_2,@Go.Vm.tj.eq_1,@k7,@zw,@V7,@adx,@xe,@wq,@A9,@Rm,@Sd,@Sq,@Oh,@Q8,@Go.Vm.gi.eq_1,@Go.Vm.ep.eq_1,@Go.Vm.gj.eq_1,@Go.Vm.mz.eq_1,@Go.Vm.mz.eq_2,@Go.Vm.reach.eq_2,@Go.Vm.reach.eq_3,@Go.Vm.fe.eq_1,@Go.Vm.dx.eq_1,@Go.Vm.dx.eq_2,@Go.Vm.AV.names.eq_1,@Go.Vm.AV.names.eq_2,@Go.Vm.AV.names.eq_3,@Go.Vm.AV.names.eq_4,@Go.Vm.AV.names.eq_5,@Go.Vm.AV.names.eq_9,@Go.Vm.AV.names.go.eq_1,@Go.Vm.AV.names.go.eq_2,@Go.Vm.bh.names.eq_1,@Go.Vm.AV.dr.eq_1,@Go.Vm.AV.dr.eq_2,@Go.Vm.AV.dr.eq_3,@Go.Vm.AV.dr.eq_4,@Go.Vm.AV.dr.eq_5,@Go.Vm.AV.dr.eq_6,@Go.Vm.AV.dr.eq_7,@Go.Vm.AV.dr.eq_11⟩
theorem R9:type_of% @Go.Vm.bh.dr.eq_1∧type_of% @O6∧type_of% @aho∧type_of% @Go.Vm.ju.eq_1∧type_of% @Go.Vm.ju.eq_2∧type_of% @Go.Vm.gu.eq_2∧type_of% @kb∧type_of% @Option.bind_some.{0,0}∧type_of% @Option.bind_none.{0,0}∧type_of% @Option.map_some.{0,0}∧type_of% @Option.getD_some.{0}∧type_of% @Option.getD_none.{0}∧type_of% @Option.isSome_some.{0}∧type_of% @List.getElem?_cons_zero.{0}∧type_of% @List.getElem?_toArray.{0}∧type_of% @Go.Vm.dk.eq_1∧type_of% @List.drop_zero.{0}∧type_of% @List.drop_succ_cons.{0}∧type_of% @List.drop_nil.{0}∧type_of% @List.take_succ_cons.{0}∧type_of% @List.take_zero.{0}∧type_of% @List.length_cons.{0}∧type_of% @List.length_nil.{0}∧type_of% @List.length_map.{0,0}∧type_of% @List.getElem?_cons_succ.{0}∧type_of% @List.getElem?_map.{0,0}∧type_of% @List.getElem?_drop.{0}∧type_of% @List.map_cons.{0,0}∧type_of% @List.map_nil.{0,0}∧type_of% @List.nil_append.{0}∧type_of% @List.cons_append.{0}∧type_of% @List.append_nil.{0}∧type_of% @List.all_cons.{0}∧type_of% @List.all_nil.{0}∧type_of% @cond_true.{1}∧type_of% @cond_false.{1}∧type_of% @decide_true∧type_of% @decide_false∧type_of% @Bool.and_true∧type_of% @Bool.true_and∧type_of% @Bool.and_self∧type_of% @Bool.not_true∧type_of% @Bool.not_false∧type_of% @BEq.rfl.{0}∧type_of% @Nat.zero_le∧type_of% @Nat.le_refl∧type_of% @Nat.add_zero∧type_of% @Nat.zero_add∧type_of% @Nat.mul_one∧type_of% @Int.toNat_natCast∧type_of% @Int.natCast_nonneg:=
 ⟨@Go.Vm.bh.dr.eq_1,@O6,@aho,@Go.Vm.ju.eq_1,@Go.Vm.ju.eq_2,@Go.Vm.gu.eq_2,@kb,@Option.bind_some.{0,0},@Option.bind_none.{0,0},@Option.map_some.{0,0},@Option.getD_some.{0},@Option.getD_none.{0},@Option.isSome_some.{0},@List.getElem?_cons_zero.{0},@List.getElem?_toArray.{0},@Go.Vm.dk.eq_1,@List.drop_zero.{0},@List.drop_succ_cons.{0},@List.drop_nil.{0},@List.take_succ_cons.{0},@List.take_zero.{0},@List.length_cons.{0},@List.length_nil.{0},@List.length_map.{0,0},@List.getElem?_cons_succ.{0},@List.getElem?_map.{0,0},@List.getElem?_drop.{0},@List.map_cons.{0,0},@List.map_nil.{0,0},@List.nil_append.{0},@List.cons_append.{0},@List.append_nil.{0},@List.all_cons.{0},@List.all_nil.{0},@cond_true.{1},@cond_false.{1},@decide_true,@decide_false,@Bool.and_true,@Bool.true_and,@Bool.and_self,@Bool.not_true,@Bool.not_false,@BEq.rfl.{0},@Nat.zero_le,@Nat.le_refl,@Nat.add_zero,@Nat.zero_add,@Nat.mul_one,@Int.toNat_natCast,@Int.natCast_nonneg⟩
theorem R10:type_of% @Nat.sub_self∧type_of% @List.contains_nil.{0}∧type_of% @List.contains_cons.{0}∧type_of% @Bool.or_false∧type_of% @Bool.false_or∧type_of% @Bool.or_true∧type_of% @Bool.true_or∧type_of% @List.map_map.{0,0,0}∧type_of% @Zt∧type_of% @Lv∧type_of% @J2∧type_of% @I7∧type_of% @Wy∧type_of% @Vi∧type_of% @Sl∧type_of% @Nw∧type_of% @P3∧type_of% @avw∧type_of% @awf∧type_of% @awe∧type_of% @av5∧type_of% @au0∧type_of% @avk∧type_of% @acp∧type_of% @ack∧type_of% @Vs∧type_of% @S4∧type_of% @acq∧type_of% @Go.Vm.AV.fresh.eq_1∧type_of% @Go.Vm.AV.fresh.eq_3∧type_of% @Go.Vm.AV.fresh.eq_4∧type_of% @Go.Vm.AV.fresh.go.eq_1∧type_of% @Go.Vm.AV.fresh.go.eq_2∧type_of% @List.map_append.{0,0}:=
 ⟨@Nat.sub_self,@List.contains_nil.{0},@List.contains_cons.{0},@Bool.or_false,@Bool.false_or,@Bool.or_true,@Bool.true_or,@List.map_map.{0,0,0},@Zt,@Lv,@J2,@I7,@Wy,@Vi,@Sl,@Nw,@P3,@avw,@awf,@awe,@av5,@au0,@avk,@acp,@ack,@Vs,@S4,@acq,@Go.Vm.AV.fresh.eq_1,@Go.Vm.AV.fresh.eq_3,@Go.Vm.AV.fresh.eq_4,@Go.Vm.AV.fresh.go.eq_1,@Go.Vm.AV.fresh.go.eq_2,@List.map_append.{0,0}⟩
theorem RA:type_of% R0∧type_of% R1∧type_of% R2∧type_of% R3∧type_of% R4∧type_of% R5∧type_of% R6∧type_of% R7∧type_of% R8∧type_of% R9∧type_of% R10:=
 ⟨R0,R1,R2,R3,R4,R5,R6,R7,R8,R9,R10⟩
theorem FB:type_of% @List.cons.injEq.{0}∧type_of% @Xg∧type_of% @V8∧type_of% @List.length_append.{0}∧type_of% @List.length_cons.{0}∧type_of% @List.length_nil.{0}∧type_of% @List.map_append.{0,0}∧type_of% @List.map_cons.{0,0}∧type_of% @List.map_nil.{0,0}∧type_of% @and_true∧type_of% @true_and∧type_of% @and_self∧type_of% @AV.sc.injEq∧type_of% @AV.sl.injEq∧type_of% @bh.row.injEq∧type_of% @Option.some.injEq.{0}∧type_of% @Value.int.injEq∧type_of% @Nat.zero_add:=
 ⟨@List.cons.injEq.{0},@Xg,@V8,@List.length_append.{0},@List.length_cons.{0},@List.length_nil.{0},@List.map_append.{0,0},@List.map_cons.{0,0},@List.map_nil.{0,0},@and_true,@true_and,@and_self,@AV.sc.injEq,@AV.sl.injEq,@bh.row.injEq,@Option.some.injEq.{0},@Value.int.injEq,@Nat.zero_add⟩
end Go.Vm
end
section
namespace Go.Vm
variable [TK]
noncomputable section
open Go.ChangeShapes Go.WideShapes Go.ChangeAt
mutual
def k5 {H:Type}:DataW H→Nat
 |.lit (.string bytes)=>bytes.length+1
 |.lit _=>1
 |.nil=>1
 |.ptr d=>k5 d+1
 |.slice elems spare=>l8 elems+l8 spare+1
 |.agg parts=>l8 parts+1
 |.iface _ d=>k5 d+1
 |.map entries=>So entries+1
 |.held _=>1
def l8 {H:Type}:List (DataW H)→Nat
 | []=>0
 |d::r=>k5 d+l8 r
def So {H:Type}:List (Lit × DataW H)→Nat
 | []=>0
 |x::r=>aiw x+So r
def aiw {H:Type}:Lit × DataW H→Nat
 |(.string bytes,d)=>bytes.length+k5 d+1
 |(_,d)=>k5 d+1
end
def ab1 (W:World):Nat→Nat→Prop:=fun b _=>b<W.heap.size
def Rd (P:Program) (t:TypeId) {α:Type} (C:dh α) (μ : α→Nat):Prop:=
 ∀ {H:Type} (enc:TypeId × Value→H) (W:World) (b0 fuel:Nat) (cs:List Value) (x:DataW H × List MemPlace),DataW.trod enc P W 0 (fun _=>true) true fuel t cs=some x →
  ∃ y,bp (gK b0 (ab1 W)) W (C.cells false y) cs ∧ μ y≤k5 x.1
theorem axh {P:Program} {t:TypeId} (ht:P.underlying t=some (.int .u8)):Rd P t bg (fun _=>1):=by
 intro H enc W b0 fuel cs x h
 obtain ⟨n,rfl,rfl,hw⟩:=DataW.trod_int ht h
 have hx : 0≤n∧n≤255:=by simpa [Lit.wf,IntKind.min,IntKind.max,IntKind.signed,IntKind.bits] using hw
 refine ⟨UInt8.ofNat n.toNat,?_,by simp [k5]⟩
 have:n=((UInt8.ofNat n.toNat).toNat:Int):=by rw [UInt8.toNat_ofNat'];omega
 exact bp.one (by (conv=>rhs;rw [this]);exact .sc _)
theorem amd {P:Program} {t:TypeId} (ht:P.underlying t=some (.int .u16)):Rd P t cw (fun _=>1):=by
 intro H enc W b0 fuel cs x h
 obtain ⟨n,rfl,rfl,hw⟩:=DataW.trod_int ht h
 have hx : 0≤n∧n≤65535:=by simpa [Lit.wf,IntKind.min,IntKind.max,IntKind.signed,IntKind.bits] using hw
 refine ⟨UInt16.ofNat n.toNat,?_,by simp [k5]⟩
 have:n=((UInt16.ofNat n.toNat).toNat:Int):=by rw [UInt16.toNat_ofNat'];omega
 exact bp.one (by (conv=>rhs;rw [this]);exact .sc _)
theorem al4 {P:Program} {t:TypeId} (ht:P.underlying t=some (.int .u32)):Rd P t cg (fun _=>1):=by
 intro H enc W b0 fuel cs x h
 obtain ⟨n,rfl,rfl,hw⟩:=DataW.trod_int ht h
 have hx : 0≤n∧n≤4294967295:=Go.bounds_u32 hw
 refine ⟨UInt32.ofNat n.toNat,?_,by simp [k5]⟩
 have:n=((UInt32.ofNat n.toNat).toNat:Int):=by rw [UInt32.toNat_ofNat'];omega
 exact bp.one (by (conv=>rhs;rw [this]);exact .sc _)
theorem avc {P:Program} {t:TypeId} (ht:P.underlying t=some .string):Rd P t ai (fun s=>s.size+1):=by
 intro H enc W b0 fuel cs x h
 obtain ⟨s,rfl,rfl,_⟩:=DataW.trod_string ht h
 refine ⟨s,bp.one (.sc _),?_⟩
 show s.size+1≤k5 (DataW.lit (Lit.string s.data.toList))
 rw [k5,Array.length_toList]
 exact Nat.le_refl _
theorem atb (ao k s v j:Nat) (h3:v=k * s) (hge:v≤j):ao+k * s+(j - v)=ao+j:=by rw [← h3];omega
def qy {α:Type} (μ : α→Nat):List α→Nat
 | []=>0
 |x::r=>μ x+qy μ r
theorem Of {α:Type} (μ : α→Nat):∀ a b:List α,qy μ (a++b)=qy μ a+qy μ b
 | [],b=>by simp [qy]
 |x::a,b=>by simp [qy,Of μ a b];omega
theorem Kc {H:Type}:∀ a b:List (DataW H),l8 (a++b)=l8 a+l8 b
 | [],b=>by simp [l8]
 |x::a,b=>by simp [l8,Kc a b];omega
theorem atj {P:Program} {t e:TypeId} {α:Type} {C:dh α} {μ : α→Nat} (ht:P.underlying t=some (.slice e)) (hsz:P.cellsOf e=C.sz) (hpos : 0<C.sz) (he:Rd P e C μ):Rd P t (br C) (fun l=>qy μ l+1):=by
 intro H enc W b0 fuel cs x h
 rcases Go.Deep.open_slice ht h with ⟨rfl,rfl⟩|⟨a,len,cap,m,n,D,Pl,rfl,_,hl,hm,hmm,rfl,hx⟩
 ·exact ⟨[],bp.one (.j4 _ _),by simp [qy,k5]⟩
 ·simp only [if_true] at hmm
  subst hmm
  have spot : 0<m→a.spot=none∧a.block<W.heap.size:=by
   intro h0
   obtain ⟨cs',h1,_⟩:=hx 0 h0
   rw [hsz] at h1
   simp only [World.cells?,Nat.zero_le,if_true] at h1
   have h2:=mapM_some_get h1 0 0 (by simp [hpos])
   have hlen:=mapM_some_length h1
   have h3:∃ v,cs'[0]? = some v:=⟨cs'[0]'(by rw [hlen];simpa using hpos),by simp⟩
   obtain ⟨v,hv⟩:=h3
   rw [hv] at h2
   simp only [Nat.zero_mul,Addr.add,if_true] at h2
   simp only [World.cell?] at h2
   split at h2
   ·rename_i c _ _ hb
    cases hs:a.spot with
    |none=>exact ⟨rfl,bt hb⟩
    |some s=>simp [hs] at h2
   ·cases h2
  have build:∀ k,k≤len→∃ (xs:List α) (vs:List Value),xs.length=k∧bp (gK b0 (ab1 W)) W (xs.flatMap (C.cells false)) vs∧vs.length=k * C.sz∧(∀ j v,vs[j]? = some v→W.cell? ⟨a.block,a.off+j,none⟩=some v) ∧
   qy μ xs≤l8 ((List.range k).map D):=by
   intro k
   induction k with
   |zero=>intro _;exact ⟨[],[],rfl,bp.nil _ _,by simp,(fun j v hj=>by simp at hj),by simp [qy,l8]⟩
   |succ k ih=>
    intro hk
    obtain ⟨xs,vs,h1,h2,h3,h4,h5⟩:=ih (by omega)
    obtain ⟨cs',h6,h7⟩:=hx k (by omega)
    obtain ⟨y,h8,h9⟩:=he enc W b0 n cs' _ h7
    rw [hsz] at h6
    simp only [World.cells?,Nat.zero_le,if_true] at h6
    have hlen:=mapM_some_length h6
    simp only [List.length_range] at hlen
    refine ⟨xs++[y],vs++cs',by simp [h1],?_,by simp [h3,hlen,Nat.succ_mul],fun j v hj=>?_,?_⟩
    ·rw [List.flatMap_append];exact h2.append (by simpa using h8)
    ·by_cases hj1:j<vs.length
     ·rw [List.getElem?_append_left hj1] at hj;exact h4 j v hj
     ·rw [List.getElem?_append_right (by omega)] at hj
      have hj2:=(List.getElem?_eq_some_iff.1 hj).1
      have h10:=mapM_some_get h6 (j - vs.length) (j - vs.length) (List.getElem?_range (by rw [← hlen];exact hj2))
      rw [hj] at h10
      have hs:=(spot (by omega)).1
      have e:(a.add (k * C.sz)).add (j - vs.length)=⟨a.block,a.off+j,none⟩:=by
       obtain ⟨ab,ao,azs⟩:=a
       simp only at hs
       subst hs
       rw [Addr.my,Addr.my]
       have hge:vs.length≤j:=Nat.le_of_not_lt hj1
       rw [atb ao k C.sz vs.length j h3 hge]
      rw [e] at h10
      exact h10
    ·rw [Of,List.range_succ,List.map_append,Kc]
     simp only [qy,List.map_cons,List.map_nil,l8]
     have : μ y≤k5 (D k):=h9
     omega
  obtain ⟨xs,vs,h1,h2,h3,h4,h5⟩:=build len (Nat.le_refl _)
  refine ⟨xs,bp.one ?_,by
   simp only [k5]
   have:qy μ xs≤l8 ((List.range len).map D):=h5
   omega⟩
  by_cases h0 : 0<m
  ·obtain ⟨hs,hb⟩:=spot h0
   obtain ⟨ab,ao,azs⟩:=a
   simp only at hs hb h4
   subst hs
   rw [← h1]
   refine ahy C h2 (by omega) (fun e=>by cases e) (fun j v hj=>⟨hb,h4 j v hj⟩) (fun e=>by cases e)
  ·have hl0:len=0:=by omega
   have hm0:m=0:=by omega
   subst hl0 hm0
   have:xs=[]:=List.eq_nil_of_length_eq_zero h1
   subst this
   exact .qz _ _ _
def Xi (P:Program) (fs:List Field) (off:Nat) {α:Type} (C:dh α) (μ : α→Nat):Prop:=
 ∀ {H:Type} (enc:TypeId × Value→H) (W:World) (b0 n:Nat) (cs:List Value) (ys:List (DataW H × List MemPlace)),ys.length=fs.length →
  (∀ (i:Nat) f,fs[i]? = some f→DataW.trod enc P W 0 (fun _=>true) true n f.type ((cs.drop f.offset).take (P.cellsOf f.type))=ys[i]?) →
  ∃ y,bp (gK b0 (ab1 W)) W (C.cells false y) ((cs.drop off).take C.sz) ∧ μ y≤l8 (ys.map (·.1))
theorem auc {P:Program} {f:Field} {off:Nat} {α:Type} {C:dh α} {μ : α→Nat} (ho:f.offset=off) (hs:P.cellsOf f.type=C.sz) (h:Rd P f.type C μ):Xi P [f] off C μ:=by
 intro H enc W b0 n cs ys hl hf
 match ys,hl with
 | [y0],_=>
  have:=hf 0 f rfl
  obtain ⟨y,h1,h2⟩:=h enc W b0 n _ y0 this
  rw [ho,hs] at h1
  exact ⟨y,h1,by simp [l8];exact h2⟩
theorem apk {P:Program} {f:Field} {fs:List Field} {off:Nat} {α β:Type} {A:dh α} {B:dh β} {μ : α→Nat} {ν : β→Nat} (ho:f.offset=off) (hs:P.cellsOf f.type=A.sz) (h:Rd P f.type A μ) (hr:Xi P fs (off+A.sz) B ν) :
 Xi P (f::fs) off (jq A B) (fun p=>μ p.1 + ν p.2):=by
 intro H enc W b0 n cs ys hl hf
 match ys,hl with
 |y0::ys,hl=>
  have h0:=hf 0 f rfl
  obtain ⟨y,h1,h2⟩:=h enc W b0 n _ y0 h0
  obtain ⟨z,h3,h4⟩:=hr enc W b0 n cs ys (by simpa using hl) (fun i g hg=>by have:=hf (i+1) g (by simpa using hg);simpa using this)
  rw [ho,hs] at h1
  refine ⟨(y,z),?_,by simp [l8];omega⟩
  have:=h1.append h3
  rwa [show (cs.drop off).take A.sz++(cs.drop (off+A.sz)).take B.sz=(cs.drop off).take (A.sz+B.sz) from by
   rw [List.take_add,List.drop_drop]] at this
theorem am1 {P:Program} {t:TypeId} {fs:Array Field} {α:Type} {C:dh α} {μ : α→Nat} (ht:P.underlying t=some (.struct fs)) (hc:P.cellsOf t=C.sz) (h:Xi P fs.toList 0 C μ):Rd P t C (fun x=>μ x+1):=by
 intro H enc W b0 fuel cs x hx
 obtain ⟨xs,n,_,rfl,hl,hlen,hf⟩:=DataW.trod_struct ht hx
 obtain ⟨y,h1,h2⟩:=h enc W b0 n cs xs (by simpa using hlen) (fun i f hi=>hf i f (by simpa using hi))
 refine ⟨y,?_,by simp [k5];exact h2⟩
 rwa [List.drop_zero,List.take_of_length_le (by omega)] at h1
theorem avi {P:Program} {t:TypeId} {α β:Type} {C:dh α} {μ : α→Nat} {f : β → α} {i : α → β} {h1:∀ y,i (f y)=y} {h2:∀ x,f (i x)=x} (h:Rd P t C μ):Rd P t (yj C f i h1 h2) (fun y=>μ (f y)):=by
 intro H enc W b0 fuel cs x hx
 obtain ⟨y,h3,h4⟩:=h enc W b0 fuel cs x hx
 exact ⟨i y,by show bp _ _ (C.cells false (f (i y))) cs;rw [h2];exact h3,by show μ (f (i y))≤_;rw [h2];exact h4⟩
def RdA (P:Program) (ts:List TypeId) {α:Type} (A:AC α) (μ : α→Nat):Prop:=
 ∀ {H:Type} (enc:TypeId × Value→H) (W:World) (b0 b1:Nat) (vs:List Value) (ds:List (DataW H)) (ps:List MemPlace),(∀ (j:Nat) t v,ts[j]? = some t→vs[j]? = some v→Value.okWide P W .any b1 t v) →
  DataW.TrodAll enc P W 0 (fun _=>true) true ts vs ds ps→∃ y,bp (gK b0 (ab1 W)) W (A.E y) vs ∧ μ y≤l8 ds
theorem ata (P:Program):RdA P [] a0 (fun _=>0):=by
 intro H enc W b0 b1 vs ds ps _ h
 obtain ⟨rfl,rfl,rfl⟩:=trodAll_nil h
 exact ⟨(),bp.nil _ _,Nat.zero_le _⟩
theorem ako {P:Program} {W:World} {b:Nat} {t:TypeId} {v:Value} (h:l9 P t=some true) (ho:Value.okWide P W .any b t v):∃ cs,v = .agg cs:=by
 unfold l9 at h
 unfold Value.okWide at ho
 cases hu:P.underlying t with
 |none=>rw [hu] at h;cases h
 |some d=>
  rw [hu] at h ho
  cases d<;>simp_all<;>exact ⟨_,ho.choose_spec.1⟩
theorem Yz {P:Program} {t:TypeId} {ts:List TypeId} {α β:Type} {C:dh α} {R:AC β} {μ : α→Nat} {ν : β→Nat} (ha:l9 P t=some C.agg) (h:Rd P t C μ) (hr:RdA P ts R ν):RdA P (t::ts) (aC C R) (fun p=>μ p.1 + ν p.2):=by
 intro H enc W b0 b1 vs ds ps hok hall
 obtain ⟨v,vs1,d,ds1,p,q,rfl,rfl,rfl,h0,h1⟩:=trodAll_cons hall
 obtain ⟨fuel,hf⟩:=h0
 obtain ⟨y,h2,h3⟩:=h enc W b0 fuel _ _ hf
 obtain ⟨z,h4,h5⟩:=hr enc W b0 b1 vs1 ds1 q (fun j t v ht hv=>hok (j+1) t v (by simpa using ht) (by simpa using hv)) h1
 have h3' : μ y≤k5 d:=h3
 refine ⟨(y,z),bp.cons ?_ h4,by simp only [l8];omega⟩
 have hv:=hok 0 t v rfl rfl
 show Rel _ _ (C.val false y) v
 unfold dh.val
 cases hg:C.agg with
 |true=>
  obtain ⟨cs,rfl⟩:=ako (by rw [ha,hg]) hv
  exact .agg _ cs (by simpa [Value.cells] using h2.1) (fun i a v ha hv=>h2.2 i a v ha (by simpa [Value.cells] using hv))
 |false=>
  obtain ⟨c,h6,h7,_⟩:=C.one hg false y
  rw [cond_false,h6]
  rw [h6] at h2
  have hcs:v.cells.toList=[v]:=by
   have hl:=h2.1
   simp only [List.length_singleton] at hl
   cases v with
   |agg cs=>
    exfalso
    unfold l9 at ha
    unfold Value.okWide at hv
    cases hu:P.underlying t with
    |none=>rw [hu] at ha;cases ha
    |some d=>
     rw [hu] at ha hv
     have hcell:Cell.okWide P W .any b1 t (.agg cs):=by
      cases d<;>simp_all
     rw [hg] at ha
     unfold Cell.okWide Cell.ok at hcell
     rw [hu] at hcell
     cases d<;>simp_all
   |_=>rfl
  rw [hcs] at h2
  exact h2.head
theorem acu {W W':World} (q:yz W W') {p:MemPlace} (h:p.block<W.heap.size):W.sameAt W' p:=by
 cases p with
 |cell b off=>exact nq (q.heap b h)
 |map b=>exact q.heap b h
theorem again {H:Type} {enc:TypeId × Value→H} {P:Program} {W W':World} {sp:Nat→Bool} (K:Kids P (· < P.types.size)) (hz:∀ t e,t<P.types.size→P.underlying t=some (.slice e)→0<P.cellsOf e) (q:yz W W') :
 ∀ {ts:List TypeId} {vs:List Value} {ds:List (DataW H)} {ps:List MemPlace},(∀ t ∈ ts,t<P.types.size)→DataW.TrodAll enc P W 0 (fun _=>true) true ts vs ds ps→(∀ p ∈ ps,sp p.block=true)→(∀ p ∈ ps,p.block<W.heap.size) →
  DataW.TrodAll enc P W' 0 sp true ts vs ds ps
 | [],[],[],_,_,h,_,_=>h
 |t::ts,v::vs,d::ds,ps,hT,⟨p,p',h1,h2,e⟩,hs,hl=>by
  obtain ⟨n,hn⟩:=h1
  subst e
  have h3:=DataW.trod_respare (spare':=sp) K hz n t _ _ (hT t (by simp)) hn (fun x hx=>hs x (by simp only [List.mem_append];exact .inl hx))
  have h4:=DataW.trod_carry (w':=W') n t _ _ h3 (fun x hx=>acu q (hl x (by simp only [List.mem_append];exact .inl hx)))
  exact ⟨p,p',⟨n,h4⟩,again K hz q (fun t ht=>hT t (by simp [ht])) h2 (fun x hx=>hs x (by simp [hx])) (fun x hx=>hl x (by simp [hx])),rfl⟩
theorem aka {W W':World} (q:yz W W') (may:MemPlace→Prop):W.keptBut W' may:=by
 refine ⟨q.os,q.output,fun i hi=>?_⟩
 rw [q.heap i hi]
 split
 ·rename_i c t fr c' t' fr' h1 h2
  rw [h1] at h2
  cases h2
  exact ⟨rfl,rfl,rfl,fun _ _=>rfl⟩
 ·rename_i es cl es' cl' h1 h2
  rw [h1] at h2
  cases h2
  exact .inr ⟨rfl,rfl⟩
 ·rfl
def ai9 (P:Program):Bool:=(List.range P.types.size).all fun t=>match P.underlying t with|some (.slice e)=>Nat.blt 0 (P.cellsOf e)|_=>true
theorem Xx {P:Program} (h:ai9 P=true) (t e:TypeId) (ht:t<P.types.size) (hu:P.underlying t=some (.slice e)) : 0<P.cellsOf e:=by
 have:=List.all_eq_true.1 h t (List.mem_range.2 ht)
 simp only [hu] at this
 exact Nat.le_of_ble_eq_true this
def att (P:Program) (l:List TypeId):Bool:=l.all fun t=>Nat.blt t P.types.size
theorem ai2 {P:Program} {l:List TypeId} (h:att P l=true):∀ t ∈ l,t<P.types.size:=fun t ht=>Nat.le_of_ble_eq_true (List.all_eq_true.1 h t ht)
theorem arn {P:Program} [KP P] (hlaid:laidOutB P=true) (hmaps:mapsRowed P=true) (hz:∀ t e,t<P.types.size→P.underlying t=some (.slice e)→0<P.cellsOf e) {f:Nat} {fn:Func} {s:ChangeSpec} {tb:TypeId}
 (he:nv P f=true) (hvars:s.vars=[]) (hres:fn.resultTypes = #[tb]) (htb:P.underlying tb=some .bool) (hpar:∀ t ∈ fn.params.toList,t<P.types.size)
 (hfn:∀ (H:Type) (ds:List (DataW H)),ds.length=fn.params.toList.length→s.fn H ds = { results:=[.lit (.bool true)],args:=ds }) {α:Type} {A:AC α} {μ : α→Nat} (hA:RdA P fn.params.toList A μ) {N:Option Nat}
 (hcall:∀ x,(∀ n,N=some n → μ x≤n)→bc P f (A.E x) (.sc (.bool true)))
 {H:Type} (enc:TypeId × Value→H) (W:World) (base:Nat) (args:Array Value) (ds gs:List (DataW H)) (before:List MemPlace) (hval:∀ (j:Nat) t v,fn.params[j]? = some t→args[j]? = some v→Value.okWide P W .any base t v)
 (hW:DataW.Whole enc P fn.params.toList s.vars false W args.toList ds gs before) (hN:∀ n,N=some n→l8 (ds++gs)≤n) :
 Calls P f args W fun e W'=>∃ v,e = .returned v∧s.post enc P fn false true false false W args v W':=by
 have hW':=hW
 obtain ⟨p,q,hA0,hV,rfl,hfz,hnd⟩:=hW
 rw [hvars] at hV
 obtain ⟨rfl,rfl⟩:=trodVars_none hV
 obtain ⟨x,hx,hμ⟩:=hA enc W W.heap.size base args.toList ds p (fun j t v ht hv=>hval j t v (by simpa using ht) (by simpa using hv)) hA0
 have hp:=hcall x (fun n hn=>Nat.le_trans hμ (by have:=hN n hn;simpa using this)) (ab1 W) W args.toList (fun _ _ h=>h) hx
 have hlen:ds.length=fn.params.toList.length:=by
  have:∀ {ts:List TypeId} {vs:List Value} {ds:List (DataW H)} {ps:List MemPlace},DataW.TrodAll enc P W 0 (fun _=>true) true ts vs ds ps→ds.length=ts.length:=by
   intro ts
   induction ts with
   |nil=>intro vs ds ps h;obtain ⟨_,rfl,_⟩:=trodAll_nil h;rfl
   |cons t ts ih=>intro vs ds ps h;obtain ⟨v,vs1,d,ds1,p,q,rfl,rfl,rfl,h0,h1⟩:=trodAll_cons h;simp [ih h1]
  exact this hA0
 have hlt:∀ y ∈ p++[],y.block<W.heap.size:=fun y hy=>hW'.lt y hy
 have hspec:=hfn H ds hlen
 rcases hp with ⟨v,hv,_⟩|⟨_,hc⟩
 ·rw [ur he] at hv;cases hv
 ·refine hc.mono ?_
  rintro e W' ⟨v,rfl,hq,hr⟩
  obtain rfl:=hr.exact rfl
  refine ⟨_,rfl,ds,[],p++[],[],p,[],hW',?_,?_,?_,aka hq _,fun e=>by cases e⟩
  ·rw [List.append_nil,hspec,hres]
   exact trodAll_cons_mk (Go.RowKit.shut_bool htb _) trodAll_mk0
  ·rw [List.append_nil,hspec]
   exact again (kids_rows hlaid hmaps) hz hq hpar hA0 (fun y hy=>by have:=hlt y (by simp [hy]);simpa using this) (fun y hy=>hlt y (by simp [hy]))
  ·rw [List.append_nil,hspec,hvars]
   rfl
end
end Go.Vm
end
namespace Go.Vm
noncomputable instance tkI:TK:=⟨dj Go.Proofs.Tryz.prog,ap9 Go.Proofs.Tryz.prog⟩
instance kpI:KP Go.Proofs.Tryz.prog:=⟨rfl,rfl⟩
end Go.Vm
