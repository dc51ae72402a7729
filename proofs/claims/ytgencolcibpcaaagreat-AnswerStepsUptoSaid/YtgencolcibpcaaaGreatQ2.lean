/- A piece of the proof of the law AnswerSteps: lemmas. No condition. -/
import Derived.Test.YtgencolcibpcaaaGreatProg
import Derived.Test.YtgencolcibpcaaaGreatRows
import Derived.Test.YtgencolcibpcaaaGreatQ1
set_option linter.unusedSimpArgs false
set_option linter.unusedVariables false
set_option linter.unusedSectionVars false
set_option maxRecDepth 2000000
namespace Go.Vm
variable [TK]
noncomputable section
theorem bt.one {g w a v} (h:Rel g w a v):bt g w [a] [v]:=bt.cons h (bt.nil _ _)
theorem Ue {g w a vs} (h:bt g w [a] vs):∃ v,vs=[v]/\Rel g w a v:=by
 match vs,h with
 | [v],h=>exact ⟨v,rfl,h.head⟩
 | [],h=>have:=h.1;simp at this
 |_::_::_,h=>have:=h.1;simp at this
def aGv {α:Type} (ofV:Value->Option α) (l:List AV):Option α:=
 match l with
 | [a]=>a.exact.bind ofV
 |_=>none
def Yw {α:Type} (kd:LK) (gw : α->Value) (ofV:Value->Option α) (h1:∀ x,ofV (gw x)=some x) (h2:∀ v x,ofV v=some x->v=gw x) (h3:∀ x,(gw x).cells = #[gw x]) (h4:∀ x,(gw x).oneCell'=true) (h5:∀ x,nw (gw x)=kd):di α where
 kd:=kd
 Lm _ _ _ _ _ _ _ hc hr:=by simp at hc;subst hc;have:=hr.exact rfl;subst this;exact h5 _
 sz:=1
 agg:=false
 cells _ x:=[.sc (gw x)]
 dec _ _ l:=aGv ofV l
 len _ _:=rfl
 rt _ _ _ x _:=h1 x
 one _ _ x:=⟨_,rfl,by simp [AV.cells,h3],rfl⟩
 pl _ x c hc:=by simp at hc;subst hc;exact ⟨fun τ=>by simp [AV.da],by simp [AV.names],h4 x,rfl⟩
 fr x c hc:=by simp at hc;subst hc;rfl
 ok:=by
  intro fr g h w K b0 l vs x _ _ _ hr hd
  match l,hd with
  | [a],hd=>
   obtain ⟨u,rfl,hu⟩:=Ue hr;cases a with
   |sc v=>
    have:=hu.exact rfl;subst this;have:=h2 _ _ hd;subst this;exact bt.one (.sc _)
   |_=>cases hd
def aza (k:IntKind) (v:Value):Option Int:=
 match v with
 |.int k' n=>bif decide (k'=k) then some n else none
 |_=>none
def ba (k:IntKind):di Int:=Yw (.int k) (fun n=>.int k n) (aza k) (fun x=>by simp [aza]) (fun v x h=>by
 cases v<;>simp [aza] at h;rename_i k' n;by_cases e:k'=k
 ·subst e;simp at h;rw [h]
 ·simp [e] at h) (fun x=>rfl) (fun x=>rfl) (fun x=>rfl)
def bk:di Bool:=Yw .bool (fun b=>.bool b) pf (fun x=>rfl) (fun v x h=>by cases v<;>simp [pf] at h;rw [h]) (fun x=>rfl) (fun x=>rfl) (fun x=>rfl)
def ah:di ByteArray:=Yw .str (fun s=>.string s) strOf (fun x=>rfl) (fun v x h=>by cases v<;>simp [strOf] at h;rw [h]) (fun x=>rfl) (fun x=>rfl) (fun x=>rfl)
def u8V (v:Value):Option UInt8:=
 match v with
 |.int k n=>bif decide (k = .u8) && decide (0<=n) && decide (n<256) then some (UInt8.ofNat n.toNat) else none
 |_=>none
def bq:di UInt8:=Yw (.int .u8) (fun n=>.int .u8 n.toNat) u8V (fun x=>by
 have:=x.toNat_lt;simp [u8V,show (x.toNat:Int)<256 by omega]) (fun v x h=>by
 cases v<;>simp [u8V] at h;rename_i k n;cases hb:(decide (k = .u8) && decide (0<=n) && decide (n<256)) with
 |false=>rw [hb] at h;cases h
 |true=>
  rw [hb] at h;simp at hb h;obtain ⟨⟨rfl,h0⟩,h1⟩:=hb;subst h
  congr 1
  rw [UInt8.toNat_ofNat'];omega) (fun x=>rfl) (fun x=>rfl) (fun x=>rfl)
def axf (v:Value):Option UInt16:=
 match v with
 |.int k n=>bif decide (k = .u16) && decide (0<=n) && decide (n<65536) then some (UInt16.ofNat n.toNat) else none
 |_=>none
def cf:di UInt16:=Yw (.int .u16) (fun n=>.int .u16 n.toNat) axf (fun x=>by
 have:=x.toNat_lt;simp [axf,show (x.toNat:Int)<65536 by omega]) (fun v x h=>by
 cases v<;>simp [axf] at h;rename_i k n;cases hb:(decide (k = .u16) && decide (0<=n) && decide (n<65536)) with
 |false=>rw [hb] at h;cases h
 |true=>
  rw [hb] at h;simp at hb h;obtain ⟨⟨rfl,h0⟩,h1⟩:=hb;subst h
  congr 1
  rw [UInt16.toNat_ofNat'];omega) (fun x=>rfl) (fun x=>rfl) (fun x=>rfl)
def azi (v:Value):Option UInt32:=
 match v with
 |.int k n=>bif decide (k = .u32) && decide (0<=n) && decide (n<4294967296) then some (UInt32.ofNat n.toNat) else none
 |_=>none
def cw:di UInt32:=Yw (.int .u32) (fun n=>.int .u32 n.toNat) azi (fun x=>by
 have:=x.toNat_lt;simp [azi,show (x.toNat:Int)<4294967296 by omega]) (fun v x h=>by
 cases v<;>simp [azi] at h;rename_i k n;cases hb:(decide (k = .u32) && decide (0<=n) && decide (n<4294967296)) with
 |false=>rw [hb] at h;cases h
 |true=>
  rw [hb] at h;simp at hb h;obtain ⟨⟨rfl,h0⟩,h1⟩:=hb;subst h
  congr 1
  rw [UInt32.toNat_ofNat'];omega) (fun x=>rfl) (fun x=>rfl) (fun x=>rfl)
theorem aFc {g w l n es v} (h:Rel g w (.vl l n es) v):nw v = .no:=by cases h<;>rfl
def br {α:Type} (C:di α):di (List α) where
 sz:=1
 kd:=.no
 Lm _ _ _ _ _ _ _ hc hr:=by simp at hc;subst hc;exact aFc hr
 agg:=false
 cells l xs:=[.vl l C.sz (xs.map (C.val l))]
 dec:=azp C
 len _ _:=rfl
 rt:=by
  intro fr h l x hl;simp only [azp,gy];cases hb:(Nat.beq C.sz C.sz && (l || !fr)) with
  |false=>cases fr<;>simp_all
  |true=>rw [cond_true,Xo C fr h l hl]
 one _ _ x:=⟨_,rfl,rfl,rfl⟩
 pl l xs c hc:=by simp at hc;subst hc;exact ⟨fun τ=>by rw [AV.da,T0 (fun c hc=>by obtain ⟨x,_,rfl⟩:=zyj.1 hc;exact Ji C τ l x)],by simp [AV.names],rfl,rfl⟩
 fr xs c hc:=by simp at hc;subst hc;simp only [AV.fresh,Bool.true_and];exact M6 (fun c hc=>by obtain ⟨x,_,rfl⟩:=zyj.1 hc;exact aa5 C x)
 ok:=by
  intro fr g h w K b0 l vs x aB hl hb hr hd
  match l,hd with
  | [a],hd=>
   obtain ⟨u,rfl,hu⟩:=Ue hr;exact bt.one (aA4 C aB hl hb hu hd)
def kn {α β:Type} (A:di α) (B:di β):di (α × β) where
 sz:=A.sz+B.sz
 kd:=bif Nat.beq A.sz 1 then A.kd else B.kd
 Lm e _ _ l x c v hc hr:=by
  rcases zyf 0 A.sz with h|h
  ·have ha:A.sz=1:=zO;have hb:B.cells l x.2=[]:=zzf (by rw [B.len];omega);rw [hb,zzn] at hc;rw [ha];exact A.Lm ha hc hr
  ·have ha:A.sz=0:=zO;have hb:A.cells l x.1=[]:=zzf (by rw [A.len];omega);rw [hb,List.nil_append] at hc;rw [ha];exact B.Lm zO hc hr
 agg:=true
 cells l p:=A.cells l p.1++B.cells l p.2
 dec fr h l:=match A.dec fr h (l.take A.sz),B.dec fr h (l.drop A.sz) with
  |some x,some y=>some (x,y)
  |_,_=>none
 len l p:=by simp [A.len,B.len]
 rt:=by
  intro fr h l p hl;have h1:(A.cells l p.1++B.cells l p.2).take A.sz=A.cells l p.1:=by rw [<- A.len l p.1,List.take_left]
  have h2:(A.cells l p.1++B.cells l p.2).drop A.sz=B.cells l p.2:=by rw [<- A.len l p.1,List.drop_left]
  simp only [h1,h2,A.rt fr h l _ hl,B.rt fr h l _ hl]
 one e:=by cases e
 pl l p c hc:=by rcases zzq.1 hc with h|h;exact A.pl l _ c h;exact B.pl l _ c h
 fr p c hc:=by rcases zzq.1 hc with h|h;exact A.fr _ c h;exact B.fr _ c h
 ok:=by
  intro fr g h w K b0 l vs x aB hl hb hr hd
  split at hd
  ·rename_i x1 y1 hx hy;simp at hd;subst hd;have:=(A.ok aB hl hb (hr.take A.sz) hx).append (B.ok aB hl hb (hr.drop A.sz) hy)
   rwa [zzm] at this
  ·cases hd
def yj {α β:Type} (C:di α) (f : β -> α) (i : α -> β) (h1:∀ y,i (f y)=y) (h2:∀ x,f (i x)=x):di β where
 sz:=C.sz
 kd:=C.kd
 Lm e _ _ _ _ _ _ hc hr:=C.Lm e hc hr
 agg:=C.agg
 cells l y:=C.cells l (f y)
 dec fr h l:=(C.dec fr h l).map i
 len l y:=C.len l (f y)
 rt fr h l y hl:=by rw [C.rt fr h l _ hl];simp [h1]
 one e l y:=C.one e l (f y)
 pl l y:=C.pl l (f y)
 fr y:=C.fr (f y)
 ok:=by intro fr g h w K b0 l vs x aB hl hb hr hd;rw [zzk] at hd;obtain ⟨y,hy,rfl⟩:=hd;rw [h2];exact C.ok aB hl hb hr hy
structure AC (α:Type) where
 E : α->List AV
 D:Tr bo->List AV->Option α
 rt:∀ h x,D h (E x)=some x
 ok:∀ {g h w K b0 l vs x},Ok g h w->u9 g h K->bt g w l vs->D h l=some x->bt (gK b0 K) w (E x) vs
def AC.get {α:Type} (A:AC α) (h:Tr bo) (l:List AV):Option α:=A.D h l
def a0:AC Unit where
 E _:=[]
 D _ l:=match l with
  | []=>some ()
  |_=>none
 rt _ _:=rfl
 ok:=by
  intro g h w K b0 l vs x _ _ hr hd
  match l,hd with
  | [],_=>
   have:=hr.1;simp at this;subst this;exact bt.nil _ _
def aC {α β:Type} (C:di α) (R:AC β):AC (α × β) where
 E p:=C.val false p.1::R.E p.2
 D h l:=match l with
  | []=>none
  |a::r=>match C.fq false h a,R.D h r with
   |some x,some y=>some (x,y)
   |_,_=>none
 rt h p:=by simp only [C.Me false h false p.1 (fun e=>by cases e),R.rt]
 ok:=by
  intro g h w K b0 l vs x aB hl hr hd
  match l,hd with
  |a::r,hd=>
   simp only at hd
   split at hd
   ·rename_i x1 y1 hx hy;simp at hd;subst hd
    match vs,hr with
    | [],hr=>have:=hr.1;simp at this
    |v::vs,hr=>exact bt.cons (C.J3 aB hl (fun e=>by cases e) hr.head hx) (R.ok aB hl hr.tail hy)
   ·cases hd
structure RC (α:Type) where
 E:Bool -> α->AV
 D:Bool->Tr bo->AV->Option α
 ok:∀ {fr g h w K b0 a v x},Ok g h w->u9 g h K->(fr=true->b0<=g.b0)->Rel g w a v->D fr h a=some x->Rel (gK b0 K) w (E fr x) v
def RC.get {α:Type} (R:RC α) (fr:Bool) (h:Tr bo) (a:AV):Option α:=R.D fr h a
def r1 {α:Type} (C:di α):RC α where
 E:=C.val
 D:=C.fq
 ok aB hl hb hr hd:=C.J3 aB hl hb hr hd
def Lb (a:AV):Option (List AV):=
 match a with
 |.gn l=>some l
 |.sc v=>match v with
  |.tuple vs=>some (vs.toList.map .sc)
  |_=>none
 |_=>none
theorem anu {g w a v l} (hr:Rel g w a v) (h:Lb a=some l):∃ vs,v = .tuple vs/\bt g w l vs.toList:=by
 cases hr with
 |gn l' vs hs hh=>
  simp [Lb] at h;subst h;exact ⟨vs,rfl,⟨by simpa using hs,fun i a v ha hv=>hh i a v ha (by simpa using hv)⟩⟩
 |sc v=>
  cases v<;>simp [Lb] at h;subst h;exact ⟨_,rfl,bt.G6 g w _⟩
 |_=>cases h
theorem aln {g w l} {vs:Array Value} (h:bt g w l vs.toList):Rel g w (.gn l) (.tuple vs):=
 .gn l vs (by simpa using h.1) (fun i a v ha hv=>h.2 i a v ha (by simpa using hv))
def r2 {α β:Type} (A:di α) (B:di β):RC (α × β) where
 E l p:=.gn [A.val l p.1,B.val l p.2]
 D fr h a:=match Lb a with
  |some [a,b]=>match A.fq fr h a,B.fq fr h b with
   |some x,some y=>some (x,y)
   |_,_=>none
  |_=>none
 ok:=by
  intro fr g h w K b0 a v x aB hl hb hr hd;cases ht:Lb a with
  |none=>rw [ht] at hd;cases hd
  |some l=>
   rw [ht] at hd;obtain ⟨vs,rfl,hrel⟩:=anu hr ht
   match l,hd with
   | [a,b],hd=>
    simp only at hd
    split at hd
    ·rename_i x1 y1 hx hy;simp at hd;subst hd;obtain ⟨vl⟩:=vs
     match vl,hrel with
     | [u,v],hrel=>exact aln (bt.cons (A.J3 aB hl hb hrel.head hx) (bt.one (B.J3 aB hl hb hrel.tail.head hy)))
     | [],hrel=>have:=hrel.1;simp at this
     | [_],hrel=>have:=hrel.1;simp at this
     |_::_::_::_,hrel=>have:=hrel.1;simp at this
    ·cases hd
def r3 {α β γ:Type} (A:di α) (B:di β) (C:di γ):RC (α × β × γ) where
 E l p:=.gn [A.val l p.1,B.val l p.2.1,C.val l p.2.2]
 D fr h a:=match Lb a with
  |some [a,b,c]=>match A.fq fr h a,B.fq fr h b,C.fq fr h c with
   |some x,some y,some z=>some (x,y,z)
   |_,_,_=>none
  |_=>none
 ok:=by
  intro fr g h w K b0 a v x aB hl hb hr hd;cases ht:Lb a with
  |none=>rw [ht] at hd;cases hd
  |some l=>
   rw [ht] at hd;obtain ⟨vs,rfl,hrel⟩:=anu hr ht
   match l,hd with
   | [a,b,c],hd=>
    simp only at hd
    split at hd
    ·rename_i x1 y1 z1 hx hy hz;simp at hd;subst hd;obtain ⟨vl⟩:=vs
     match vl,hrel with
     | [u,v,t],hrel=>exact aln (bt.cons (A.J3 aB hl hb hrel.head hx) (bt.cons (B.J3 aB hl hb hrel.tail.head hy) (bt.one (C.J3 aB hl hb hrel.tail.tail.head hz))))
     | [],hrel=>have:=hrel.1;simp at this
     | [_],hrel=>have:=hrel.1;simp at this
     | [_,_],hrel=>have:=hrel.1;simp at this
     |_::_::_::_::_,hrel=>have:=hrel.1;simp at this
    ·cases hd
structure k5 (w w':World):Prop where
 size:w.heap.size<=w'.heap.size
 heap:∀ b,b<w.heap.size->w'.heap[b]? = w.heap[b]?
 os:w'.os=w.os
 tape:w'.tape=w.tape
 output:w'.output=w.output
def v9 (K:Nat->Nat->Prop) (w w':World):Nat->Nat->Prop:=fun b j=>K b j\/(w.heap.size<=b/\b<w'.heap.size)
def ann (P:Program) (f:Nat) (vs:List Value) (w:World) (X:Value->World->Prop):Prop:=
 (∃ v,(callFunc f vs.toArray).run P w = .ok (.value v) w/\X v w) \/
 ((callFunc f vs.toArray).run P w = .ok (.enter f vs.toArray) w/\Calls P f vs.toArray w (fun e w'=>∃ v,e = .returned v/\X v w'))
def bf (P:Program) (f:Nat) (args:List AV) (r:AV):Prop:=
 ∀ (K:Nat->Nat->Prop) (w:World) (vs:List Value),(∀ b j,K b j->b<w.heap.size)->bt (gK w.heap.size K) w args vs ->
  ann P f vs w (fun v w'=>k5 w w'/\Rel (gK w.heap.size (v9 K w w')) w' r v)
theorem Pz {P:Program} [KP P] {g w nt} {L:SL} {tmps:Array Value} {st:St} (aB:Ok g st.h w) (hs:i6 g w nt L tmps):∀ (rs:List ResultVar) (l:List AV),sg P L st rs=some l ->
 ∃ vs,(rs.mapM (wm tmps)).run P w = .ok vs w/\bt g w l vs:=by
 intro rs
 induction rs with
 |nil=>intro l h;simp [sg] at h;subst h;exact ⟨[],by simp,bt.nil _ _⟩
 |cons r rs ih=>
  intro l h;cases r with
  |tmp t=>
   simp only [sg,zzk] at h;obtain ⟨l',h1,rfl⟩:=h;obtain ⟨vs,h2,h3⟩:=ih l' h1;refine ⟨tmps.getD t undef::vs,?_,bt.cons (hs.2 t) h3⟩;simp only [List.mapM_cons,Sem.run_bind,wm,Sem.run_pure,Result.andThen_ok,h2]
  |cell c t=>
   simp only [sg] at h
   split at h
   ·rename_i v aA hl;rw [zzk] at h;obtain ⟨l',h1,rfl⟩:=h;obtain ⟨vs,h2,h3⟩:=ih l' h1;have hrel:=hs.2 c;have qB:∃ ad,tmps.getD c undef = .pointer (some ad):=by
     generalize lk L c=x at hrel hl;generalize tmps.getD c undef=v at hrel;cases hrel<;>first|exact ⟨_,rfl⟩|cases hl
    obtain ⟨ad,had⟩:=qB;obtain ⟨u,h4,h5⟩:=ape (P:=P) aB hrel hl had;refine ⟨u::vs,?_,bt.cons h5 h3⟩;have h6:(wm tmps (.cell c t)).run P w = .ok u w:=by simp [wm,had,asAddr,h4]
    simp only [List.mapM_cons,Sem.run_bind,h6,Result.andThen_ok,h2];rfl
   ·cases h
theorem Qe {P:Program} [KP P] {g w} {fn:Func} {tmps:Array Value} {l:List AV} {vs:List Value} (h:(fn.results.toList.mapM (wm tmps)).run P w = .ok vs w) (q4:bt g w l vs) :
 ∃ v,(results fn tmps).run P w = .ok v w/\Rel g w (pack l) v:=by
 have hmap:(fn.results.mapM (wm tmps)).run P w = .ok vs.toArray w:=by rw [Array.mapM_eq_mapM_toList];simp [h]
 rw [aoi];simp only [Sem.run_bind,hmap,Result.andThen_ok,Sem.run_pure];refine ⟨_,rfl,?_⟩
 match l,vs,q4 with
 | [a1],[v1],q4=>simpa [pack] using q4.head
 | [],[],q4=>simp [pack];exact .gn _ _ rfl (fun i a v h _=>by simp at h)
 |a1::a2::l,v1::v2::vs,q4=>
  simp [pack];exact .gn _ _ (by have:=q4.1;simp at this ⊢;omega) (fun i a v h1 h2=>q4.2 i a v h1 (by simpa using h2))
 | [],v::vs,q4=>have:=q4.1;simp at this
 |a::l,[],q4=>have:=q4.1;simp at this
 | [a1],v1::v2::vs,q4=>have:=q4.1;simp at this
 |a1::a2::l,[v1],q4=>have:=q4.1;simp at this
theorem Y6 {P:Program} [KP P] {T:eh} (hT:ar P T) (hm:P.follows .mixedOrders=true) {f:Nat} {fn:Func} {body:Code} (hf:P.funcs[f]? = some fn) (hb:fn.body=some body) (he:nq P f=true) (hs:ec fn.ntmps body=true)
 {args:List AV} (hl:args.length<=fn.ntmps) {ρ:Type} (R:RC ρ) (fr:Bool) (x : ρ)
 (h:wl P T 0 body (c8 P fn.results.toList (fun r st=>R.get fr st.h r=some x)) (cg 0 args) (bh [])):bf P f args (R.E fr x):=by
 intro K w vs hK hrel;refine .inr ⟨sq he _ _,u2 (ro:=none) (n:=0) (callsIn_of_wp_marks hf hb trivial ?_)⟩
 let B:fh:={ b0:=w.heap.size,w,K,O:=fun _=>False,bb:=0,pb:=fun _=>none,n0:=w.heap.size }
 have dK:j8 B (gK w.heap.size K) (bh []) w:=by
  refine ⟨⟨zza _,fun o x hx=>?_,fun o o' x x' b base base' _ hx=>?_,hK⟩,fun o _ _=>rfl,⟨rfl,(fun o ho=>(by rcases ho with ho|ho;cases ho;exact ho.elim)),fun _ _ h=>h,fun _ _ _=>rfl,zza _,rfl,rfl,rfl,fun _ _ _=>rfl,fun o b base ho=>?_,fun _ _ h=>.inl h,fun b cs e fr h=>⟨cs,fr,h,rfl⟩,fun b l h=>⟨l,h⟩,fun _ _ _ _ _ _=>rfl⟩,zzb _⟩
  ·simp [bh,l6,Tr.get_nil] at hx
  ·simp [bh,l6,Tr.get_nil] at hx
  ·simp [bh,l6,Tr.get_nil] at ho
 refine wpIn_mono (api hT hm (N:=0) (B:=B) (nt:=fn.ntmps) (fun _ h=>h) (by show (0:Nat)<=1000;omega) (zza _) body hs _ _ _ (gK w.heap.size K) w _ h dK (B2 hrel hl) (Marks.nil _ _ _ _)) ?_;rintro ex a w' ⟨e,L,st,g,rfl,hq,hc,hr,hd⟩;have fin:E8 (sg P L st fn.results.toList) (fun r st=>R.get fr st.h r=some x) st->bodyPostM (ft none) 0 P fn (fun e w'=>∃ v,e = .returned v/\k5 w w'/\Rel (gK w.heap.size (v9 K w w')) w' (R.E fr x) v) .ret a w':=by
  intro hq;show LeavesInM (ft none) 0 P fn a.tmps _ a.defers .returning w';unfold E8 at hq;cases hres:sg P L st fn.results.toList with
  |none=>rw [hres] at hq;exact hq.elim
  |some l=>
   rw [hres] at hq;have aT:=hc.base;obtain ⟨bs,e1,e2,e3⟩:=hd;have e1:=e1.trans (zzn _);rw [e1];refine D1 (Good:=fun u=>Ok g st.h u/\k5 w u/\(∀ a v,Rel g w' a v->Rel g u a v)/\u.heap.size=w'.heap.size) (S:=fun b=>w.heap.size<=b/\i5 g st.h b) ?_ ?_ bs w'
    ⟨hc.ok,⟨aT.size,fun b hlt=>aT.frame b hlt (fun h=>h),aT.os,aT.tape,aT.output⟩,fun _ _ h=>h,rfl⟩ e2 (fun b hb=>⟨⟨(e3 b hb).1,(e3 b hb).2.2⟩,(e3 b hb).2.1⟩)
   ·rintro u b ⟨g1,g2,g3,g4⟩ ⟨hb1,hb2⟩ hb3;have hput:=Ok.D2 (ds':=none) g1 hb3 hb2;exact ⟨hput.1,⟨by rw [lf];exact g2.size,fun c hc=>(ey u _ zO).trans (g2.heap c hc),g2.os,g2.tape,g2.output⟩,fun a v h=>hput.2 a v (g3 a v h),by rw [lf];exact g4⟩
   ·rintro u ⟨g1,g2,g3,g4⟩;obtain ⟨us,h1,h2⟩:=Pz (P:=P) g1 ⟨hr.1,fun t=>g3 _ _ (hr.2 t)⟩ fn.results.toList l hres;obtain ⟨v,h3,h4⟩:=Qe h1 h2;refine ⟨v,h3,v,rfl,g2,?_⟩;refine R.ok g1 ⟨fun b j hk=>?_,fun o cells k s e ho b base hi j hj=>?_⟩ (fun _=>?_) h4 hq
    ·rcases aT.n8 b j hk with h5|h5|h5
     ·exact .inl h5
     ·exact .inr ⟨h5,g1.K b j hk⟩
     ·exact h5.elim
    ·obtain ⟨b',base',h5,_,h6⟩:=g1.obj o _ ho;rw [hi] at h5;cases h5;rcases aT.own o b base (by rw [ho];rfl) hi with h7|h7
     ·exact .inr ⟨h7,h6.lt⟩
     ·exact h7.elim
    ·rw [aT.b0];exact zza _
 cases e with
 |normal=>exact fin hq
 |ret=>exact fin hq
 |exit id=>exact hq.elim
theorem Rel.lift {b0 K g w a v} (h:Rel (gK b0 K) w a v) (hb:g.b0<=b0) (hK:∀ b j,K b j->g.K b j):Rel g w a v:=by
 have hno:∀ o p,(gK b0 K).inj o≠some p:=fun o p e=>by cases e
 generalize hg:gK b0 K=g0 at h hno;have hK':∀ b j,g0.K b j->g.K b j:=by subst hg;exact hK
 have hb':g.b0<=g0.b0:=by subst hg;exact hb
 clear hg
 induction h with
 |sc x=>exact .sc x
 |agg l vs hs _ ih=>exact .agg l vs hs ih
 |gn l vs hs _ ih=>exact .gn l vs hs ih
 |vl loc sz es b off cap c hsz hl aK h _ hw ih=>exact .vl loc sz es b off cap c hsz (fun e=>zzu hb' (hl e)) aK (fun j a hj=>⟨hK' _ _ (h j a hj).1,(h j a hj).2⟩) ih (fun e=>⟨fun j=>hK' _ _ ((hw e).K j),(hw e).sv,(hw e).none,(hw e).cm⟩)
 |jy loc sz=>exact .jy loc sz
 |tv loc sz a=>exact .tv loc sz a
 |sl o off len sz b base cap hi hc hm hr=>exact (hno _ _ hi).elim
 |r9 o off sz a=>exact .r9 o off sz a
 |tg o off sz=>exact .tg o off sz
 |ez a=>exact .ez a
 |ptr o off b base hi=>exact (hno _ _ hi).elim
 |fe l b off c h _ ih=>exact .fe l b off c (fun j a hj=>⟨hK' _ _ (h j a hj).1,(h j a hj).2⟩) ih
 |fn f first captured va vb hs _ hs' _ ih ih'=>exact .fn f first captured va vb hs ih hs' ih'
 |mp o b base hi=>exact (hno _ _ hi).elim
 |tf t a v _ ih=>exact .tf t a v ih
 |yl o b base hi=>exact (hno _ _ hi).elim
 |bad v=>exact .bad v
theorem Fw {l:List AV} (h:AV.fresh.go l=true):∀ a ∈ l,a.fresh=true:=by
 induction l with
 |nil=>intro a ha;cases ha
 |cons x l ih=>
  simp only [AV.fresh.go,zzh] at h;intro a ha;rcases zya.1 ha with rfl|ha
  ·exact h.1
  ·exact ih h.2 a ha
theorem ak6 {a:AV} (h:a.fresh=true):∀ c ∈ a.cells,c.fresh=true:=by
 cases a with
 |agg l=>exact Fw h
 |sc v=>intro c hc;simp only [AV.cells,zyj] at hc;obtain ⟨x,_,rfl⟩:=hc;rfl
 |_=>intro c hc;simp only [AV.cells,zz0] at hc;subst hc;exact h
theorem Rel.fresh {b0 K g w a v} (h:Rel (gK b0 K) w a v) (hf:a.fresh=true) (hb:g.b0<=b0) (hK:∀ b j,K b j->b0<=b->g.K b j):Rel g w a v:=by
 generalize hg:gK b0 K=g0 at h;have hK':∀ b j,g0.K b j->g0.b0<=b->g.K b j:=by subst hg;exact hK
 have hb':g.b0<=g0.b0:=by subst hg;exact hb
 clear hg hb hK
 induction h with
 |sc x=>exact .sc x
 |agg l vs hs _ ih=>exact .agg l vs hs (fun i a v ha hv=>ih i a v ha hv (Fw hf a (zm ha)))
 |gn l vs hs _ ih=>exact .gn l vs hs (fun i a v ha hv=>ih i a v ha hv (Fw hf a (zm ha)))
 |vl loc sz es b off cap c hsz hl aK h _ hw ih=>
  simp only [AV.fresh,zzh] at hf;have iY:=hl hf.1;refine .vl loc sz es b off cap c hsz (fun e=>zzu hb' iY) aK (fun j a hj=>⟨hK' _ _ (h j a hj).1 iY,(h j a hj).2⟩) (fun j a hj=>ih j a hj ?_) (fun e=>⟨fun j=>hK' _ _ ((hw e).K j) iY,(hw e).sv,(hw e).none,(hw e).cm⟩);obtain ⟨e,he,hc⟩:=List.mem_flatMap.1 (zm hj);exact ak6 (Fw hf.2 e he) a hc
 |jy loc sz=>exact .jy loc sz
 |tv loc sz a=>exact .tv loc sz a
 |sl o off len sz b base cap hi hc hm hr=>cases hf
 |r9 o off sz a=>cases hf
 |tg o off sz=>cases hf
 |ez a=>exact .ez a
 |ptr o off b base hi=>cases hf
 |fe l b off c h _ ih=>cases hf
 |fn f first captured va vb hs _ hs' _ ih ih'=>
  simp only [AV.fresh,zzh] at hf;exact .fn f first captured va vb hs (fun i a v ha hv=>ih i a v ha hv (Fw hf.1 a (zm ha))) hs' (fun i a v ha hv=>ih' i a v ha hv (Fw hf.2 a (zm ha)))
 |mp o b base hi=>cases hf
 |tf t a v _ ih=>exact .tf t a v (ih hf)
 |yl o b base hi=>cases hf
 |bad v=>cases hf
def Gh.more (g:Gh) (w w':World):Gh:={ g with K:=v9 g.K w w' }
theorem Vn {g h w w'} {lo hi:Nat} (aB:Ok g h w) (q:k5 w w'):Step g h w lo hi (g.more w w') h w'/\Ok (g.more w w') h w':=by
 have aG:Ext g w (g.more w w') w':=by refine ⟨rfl,fun _ _ h=>h,fun _ _ h=>.inl h,fun b j hj=>o8 (q.heap b (aB.K b j hj)),fun b cs e fr hb=>⟨cs,fr,(q.heap b (bu hb)).trans hb,rfl⟩,fun b l hb=>⟨l,(q.heap b (bu hb)).trans hb⟩,fun b cs e fr hb _=>q.heap b (bu hb)⟩
 refine ⟨⟨aG,q.size,q.os,q.tape,q.output,fun b hb _=>q.heap b hb,fun _ h _=>h,fun o b base ho hi=>.inr ⟨o,base,ho,hi⟩,fun b j hk=>?_⟩,⟨zzu aB.size q.size,fun o x hx=>?_,aB.sep,fun b j hk=>?_⟩⟩
 ·rcases hk with hk|hk
  ·exact .inl hk
  ·exact .inr (.inl hk.1)
 ·refine (aB.mn o x hx).imp id ?_;rintro ⟨b,base,h1,h2,h3⟩;refine ⟨b,base,h1,h2,h3.ext aG (q.heap b h3.lt) (fun j hk=>?_)⟩;rcases hk with hk|hk
  ·exact hk
  ·have:=h3.lt;omega
 ·rcases hk with hk|hk
  ·exact zyc (aB.K b j hk) q.size
  ·exact hk.2
noncomputable def ct {α:Type} (A:AC α) (F : α->Option AV) (args:List AV):M AV:=fun st=>
 match A.get .nil args with
 |some x=>(F x).map fun r=>(r,st)
 |none=>
  match A.get st.h args with
  |some x=>
   match F x with
   |some r=>bif r.fresh then some (r,st) else some (r,{ st with h:=.nil })
   |none=>none
  |none=>none
theorem aq {P:Program} [KP P] {f:Nat} {α:Type} {A:AC α} {F : α->Option AV} (h:∀ x r,F x=some r->bf P f (A.E x) r) (args:List AV):Ca P f args (ct A F args):=by
 intro g st w vs r aA aB bF hrel hm;have go:∀ (X:Value->World->Prop),ann P f vs w X->(∀ v w',X v w'->k5 w w'/\Rel (g.more w w') w' r v)->aA=st ->
  (∃ v w' g',(callFunc f vs.toArray).run P w = .ok (.value v) w'/\Step g st.h w st.nx aA.nx g' aA.h w'/\Ok g' aA.h w'/\Rel g' w' r v) \/
  ((callFunc f vs.toArray).run P w = .ok (.enter f vs.toArray) w/\Calls P f vs.toArray w (fun e w'=>∃ v g',e = .returned v/\Step g st.h w st.nx aA.nx g' aA.h w'/\Ok g' aA.h w'/\Rel g' w' r v)):=by
  intro X hx hX e;subst e;rcases hx with ⟨v,h1,h2⟩|⟨h1,h2⟩
  ·obtain ⟨q,hr⟩:=hX v w h2;have:=Vn (lo:=aA.nx) (hi:=aA.nx) aB q;exact .inl ⟨v,w,_,h1,this.1,this.2,hr⟩
  ·refine .inr ⟨h1,h2.mono ?_⟩;rintro e w' ⟨v,rfl,h3⟩;obtain ⟨q,hr⟩:=hX v w' h3;have:=Vn (lo:=aA.nx) (hi:=aA.nx) aB q;exact ⟨v,_,rfl,this.1,this.2,hr⟩
 unfold ct at hm;cases h1:A.get .nil args with
 |some x=>
  rw [h1] at hm;simp only [zzk] at hm;obtain ⟨r',h2,h3⟩:=hm;cases h3;have aL:=A.ok (b0:=w.heap.size) (aB.part (hm:=.nil) (fun o x hx=>by rw [Tr.get_nil] at hx;cases hx)) (u9.nil g g.K (fun _ _ h=>h)) hrel h1;refine go _ (h x r h2 g.K w vs aB.K aL) (fun v w' hv=>⟨hv.1,hv.2.lift aB.size (fun b j hk=>hk)⟩) rfl
 |none=>
  rw [h1] at hm;simp only at hm;cases h2:A.get st.h args with
  |none=>rw [h2] at hm;cases hm
  |some x=>
   rw [h2] at hm;simp only at hm;cases h3:F x with
   |none=>rw [h3] at hm;cases hm
   |some r'=>
    rw [h3] at hm;simp only at hm;cases h4:r'.fresh with
    |false=>
     rw [h4] at hm;cases hm;obtain ⟨K1,eK⟩:∃ K1:Nat->Nat->Prop,(fun b j=>g.K b j\/((∃ o base,(st.h.get o).isSome=true/\g.inj o=some (b,base))/\b<w.heap.size))=K1:=⟨_,rfl⟩;have nL:∀ b j,K1 b j↔(g.K b j\/((∃ o base,(st.h.get o).isSome=true/\g.inj o=some (b,base))/\b<w.heap.size)):=fun b j=>by rw [<- eK]
     have nK:∀ b j,K1 b j->b<w.heap.size:=fun b j hk=>((nL b j).1 hk).elim (aB.K b j) (fun q=>q.2)
     have aL:=A.ok (b0:=w.heap.size) (K:=K1) aB ⟨fun b j hk=>(nL b j).2 (.inl hk),fun o cells k s e ho b base hi j hj=>by obtain ⟨b',base',h5,_,h6⟩:=aB.obj o _ ho;rw [hi] at h5;cases h5;exact (nL _ _).2 (.inr ⟨⟨o,base,by rw [ho];rfl,hi⟩,h6.lt⟩)⟩ hrel h2
     have fin:∀ (v:Value) (w':World),k5 w w'/\Rel (gK w.heap.size (v9 K1 w w')) w' r v ->
      Step g st.h w st.nx st.nx { g with K:=v9 K1 w w' } .nil w'/\Ok { g with K:=v9 K1 w w' } .nil w'/\Rel { g with K:=v9 K1 w w' } w' r v:=by
      rintro v w' ⟨q,hr⟩;refine ⟨⟨⟨rfl,fun _ _ h=>h,fun b j h=>.inl ((nL b j).2 (.inl h)),fun b j hj=>o8 (q.heap b (aB.K b j hj)),fun b cs e fr hb=>⟨cs,fr,(q.heap b (bu hb)).trans hb,rfl⟩,fun b l hb=>⟨l,(q.heap b (bu hb)).trans hb⟩,fun b cs e fr hb _=>q.heap b (bu hb)⟩,
       q.size,q.os,q.tape,q.output,fun b hb _=>q.heap b hb,fun _ h _=>h,fun o b base ho hi=>(by rw [Tr.get_nil] at ho;cases ho),fun b j hk=>?_⟩,
       ⟨zzu aB.size q.size,fun o x hx=>(by rw [Tr.get_nil] at hx;cases hx),fun o o' x x' b base base' _ hx=>(by rw [Tr.get_nil] at hx;cases hx),fun b j hk=>?_⟩,hr.lift aB.size (fun b j hk=>hk)⟩
      ·rcases hk with hk|hk
       ·rcases (nL b j).1 hk with hk|⟨hk,_⟩
        ·exact .inl hk
        ·exact .inr (.inr hk)
       ·exact .inr (.inl hk.1)
      ·rcases hk with hk|hk
       ·exact zyc (nK b j hk) q.size
       ·exact hk.2
     rcases h x r h3 K1 w vs nK aL with ⟨v,p1,p2⟩|⟨p1,p2⟩
     ·have q:=fin v w p2;exact .inl ⟨v,w,_,p1,q.1,q.2.1,q.2.2⟩
     ·refine .inr ⟨p1,p2.mono ?_⟩;rintro e w' ⟨v,rfl,p3⟩;have q:=fin v w' p3;exact ⟨v,_,rfl,q.1,q.2.1,q.2.2⟩
    |true=>
     rw [h4] at hm;cases hm;have aL:=A.ok (b0:=w.heap.size) (K:=fun b _=>b<w.heap.size) aB ⟨fun b j hk=>aB.K b j hk,fun o cells k s e ho b base hi j hj=>by obtain ⟨b',base',h5,_,h6⟩:=aB.obj o _ ho;rw [hi] at h5;cases h5;exact h6.lt⟩ hrel h2
     refine go _ (h x r h3 (fun b _=>b<w.heap.size) w vs (fun _ _ h=>h) aL) (fun v w' hv=>⟨hv.1,hv.2.fresh h4 aB.size (fun b j hk hle=>?_)⟩) rfl;rcases hk with hk|hk
     ·omega
     ·exact .inr hk
theorem ar.nil (P:Program):ar P []:=fun f b m h=>by cases h
theorem ar.cons {P:Program} [KP P] {f:Nat} {b:Bool} {m:List AV->M AV} {T:eh} (h:∀ args,Ca P f args (m args)) (hT:ar P T):ar P ((f,b,m)::T):=by
 intro f' b' m' hf args;simp only [eh.find] at hf;by_cases e:f=f'
 ·subst e;simp only [Nat.beq_refl,cond_true,Option.some.injEq] at hf;cases hf;exact h args
 ·rw [qg e,cond_false] at hf;exact hT f' b' m' hf args
def ao5 (g:Gh) (st:St) (w:World):fh:={ kx g st.h w st.nx (fun _=>False) with n0:=w.heap.size }
theorem j8.ofC {g st w} (aB:Ok g st.h w) (hfr:∀ o,st.nx<=o->g.inj o=none):j8 (ao5 g st w) g st w:=
 ⟨aB,fun o h1 _=>hfr o h1,⟨rfl,fun _o zr=>rfl,fun _ _ h=>h,fun _ _ _=>rfl,zza _,rfl,rfl,rfl,fun _ _ _=>rfl,fun o _b base ho hi=>.inr (.inr ⟨o,base,ho,hi⟩),fun _ _ h=>.inl h,
  fun _b cs _e fr h=>⟨cs,fr,h,rfl⟩,fun _b l h=>⟨l,h⟩,fun _ _ _ _ _ _=>rfl⟩,zza _⟩
theorem j8.aFm {g st w g' aA w'} (h:j8 (ao5 g st w) g' aA w') (hfr:∀ o,st.nx<=o->g.inj o=none):Step g st.h w st.nx aA.nx g' aA.h w':=by
 have b:=h.base;have pins:∀ o,o<st.nx->g'.inj o=g.inj o:=fun o ho=>b.pins o (.inl ho)
 refine ⟨⟨b.b0,fun o p hp=>?_,b.K,b.cell,b.sv,b.lp,b.whole⟩,b.size,b.os,b.tape,b.output,fun c hc hn=>b.frame c hc (fun hO=>?_),fun o ho hr=>?_,fun o c base ho hi=>?_,fun c j hk=>?_⟩
 ·by_cases h1:st.nx<=o
  ·rw [hfr o h1] at hp;cases hp
  ·rw [pins o zO];exact hp
 ·rcases hO with hO|⟨o,base,h1,h2⟩
  ·exact hO
  ·exact hn o base h1 h2
 ·by_cases h1:o<st.nx
  ·rw [pins o h1];exact ho
  ·exact h.fresh o zO (fun hf=>hf)
 ·rcases b.own o c base ho hi with h1|h1|h1
  ·exact .inl h1
  ·exact h1.elim
  ·exact .inr h1
 ·rcases b.n8 c j hk with h1|h1|h1|h1
  ·exact .inl h1
  ·exact .inr (.inl h1)
  ·exact h1.elim
  ·exact .inr (.inr h1)
theorem cx {P:Program} [KP P] {T:eh} (hT:ar P T) (hm:P.follows .mixedOrders=true) {f:Nat} {fn:Func} {body:Code} (hf:P.funcs[f]? = some fn) (hb:fn.body=some body) (he:nq P f=true) (hs:ec fn.ntmps body=true)
 {args:List AV} (hl:Nat.ble args.length fn.ntmps=true) {st:St} (hp:Nat.ble st.nx 1000=true) {R:AV->St->Prop}
 (h:wl P T st.nx body (c8 P fn.results.toList R) (cg 0 args) st):k8 P f args st R:=by
 intro g w vs aB hfr hrel;refine .inr ⟨sq he _ _,u2 (ro:=none) (n:=0) (callsIn_of_wp_marks hf hb trivial ?_)⟩;have dK:=j8.ofC (w:=w) aB hfr;refine wpIn_mono (api hT hm (N:=0) (B:=ao5 g st w) (nt:=fn.ntmps) (fun _ h=>h) (zB hp) (zza _) body hs _ _ _ g w _ h dK (B2 hrel (zB hl)) (Marks.nil _ _ _ _)) ?_;rintro ex a w' ⟨e,L,aA,g',rfl,hq,hc,hr,hd⟩;have fin:E8 (sg P L aA fn.results.toList) R aA->bodyPostM (ft none) 0 P fn (fun e w'=>∃ v g' r aA,e = .returned v/\R r aA/\st.nx<=aA.nx/\Step g st.h w st.nx aA.nx g' aA.h w'/\Ok g' aA.h w'/\Rel g' w' r v) .ret a w':=by
  intro hq;show LeavesInM (ft none) 0 P fn a.tmps _ a.defers .returning w';unfold E8 at hq;cases hres:sg P L aA fn.results.toList with
  |none=>rw [hres] at hq;exact hq.elim
  |some l=>
   rw [hres] at hq;obtain ⟨bs,e1,e2,e3⟩:=hd;have e1:=e1.trans (zzn _);rw [e1];refine D1 (Good:=fun u=>Ok g' aA.h u/\Step g st.h w st.nx aA.nx g' aA.h u/\(∀ a v,Rel g' w' a v->Rel g' u a v)) (S:=fun b=>w.heap.size<=b/\i5 g' aA.h b) ?_ ?_ bs w'
    ⟨hc.ok,hc.aFm hfr,fun _ _ h=>h⟩ e2 (fun b hb=>⟨⟨(e3 b hb).1,(e3 b hb).2.2⟩,(e3 b hb).2.1⟩)
   ·rintro u b ⟨g1,g2,g3⟩ ⟨hb1,hb2⟩ hb3;have hput:=Ok.D2 (ds':=none) g1 hb3 hb2;exact ⟨hput.1,Step.ayn (ds':=none) aB g2 hb1,fun a v h=>hput.2 a v (g3 a v h)⟩
   ·rintro u ⟨g1,g2,g3⟩;obtain ⟨us,h1,h2⟩:=Pz (P:=P) g1 ⟨hr.1,fun t=>g3 _ _ (hr.2 t)⟩ fn.results.toList l hres;obtain ⟨v,h3,h4⟩:=Qe h1 h2;exact ⟨v,h3,v,g',_,aA,rfl,hq,hc.bb,g2,g1,h4⟩
 cases e with
 |normal=>exact fin hq
 |ret=>exact fin hq
 |exit id=>exact hq.elim
def pk (D:List Nat) (nx i:Nat):Nat:=match D[i]? with|some o=>o|none=>nx+(i - D.length)
def Ce (D:List Nat) (nx n0 i:Nat):Option Nat:=bif Nat.blt i n0 then some (pk D nx i) else none
def qf (D:List Nat) (nx n0:Nat) (h0:Tr bo):List Nat->Tr bo->Tr bo
 | [],h=>h
 |i::r,h=>qf D nx n0 h0 r (Tr.set depth h (pk D nx i) ((h0.get i).bind (bo.da (Ce D nx n0))))
def m7 (D:List Nat) (st st0:St):St:={ h:=qf D st.nx st0.nx st0.h (dz 0 st0.nx) st.h,nx:=st.nx+(st0.nx - D.length),rl:=[],wl:=[] }
theorem Bv {D:List Nat} {nx i o:Nat} (h:D[i]? = some o):pk D nx i=o:=by unfold pk;rw [h]
theorem El {D:List Nat} {nx i:Nat} (h:D.length<=i):pk D nx i=nx+(i - D.length):=by unfold pk;rw [zzy h]
theorem aAt {D:List Nat} {nx:Nat} (hD:D.Nodup) (hlt:∀ o ∈ D,o<nx) {i j:Nat} (h:pk D nx i=pk D nx j):i=j:=by
 rcases zyf i D.length with hi|hi<;>rcases zyf j D.length with hj|hj
 ·rw [Bv (zh hi),Bv (zh hj)] at h;exact (List.getElem_inj hD).1 h
 ·rw [Bv (zh hi),El hj] at h;have:=hlt _ (zyl hi);omega
 ·rw [El hi,Bv (zh hj)] at h;have:=hlt _ (zyl hj);omega
 ·rw [El hi,El hj] at h;omega
theorem aDv {D:List Nat} {nx n0 i:Nat} (hlt:∀ o ∈ D,o<nx) (hi:i<n0):pk D nx i<=nx+n0:=by
 rcases zyf i D.length with h|h
 ·rw [Bv (zh h)];have:=hlt _ (zyl h);omega
 ·rw [El h];omega
theorem Kr {D:List Nat} {nx n0:Nat} {h0:Tr bo} {o:Nat}:∀ (l:List Nat) (h:Tr bo),(∀ i ∈ l,pk D nx i<=c9)->(∀ i ∈ l,pk D nx i≠o)->(qf D nx n0 h0 l h).get o=h.get o
 | [],h,_,_=>rfl
 |i::r,h,hl,ho=>by rw [qf,Kr r _ (fun j hj=>hl j (by simp [hj])) (fun j hj=>ho j (by simp [hj])),i4 _ _ _ _ (hl i (by simp)),if_neg (fun e=>ho i (by simp) e.symm)]
theorem Zy {D:List Nat} {nx n0:Nat} {h0:Tr bo} (aN:∀ i j,pk D nx i=pk D nx j->i=j) {i:Nat}:∀ (l:List Nat) (h:Tr bo),(∀ j ∈ l,pk D nx j<=c9)->i ∈ l->(qf D nx n0 h0 l h).get (pk D nx i)=(h0.get i).bind (bo.da (Ce D nx n0))
 | [],_,_,hi=>by cases hi
 |j::r,h,hl,hi=>by
  rw [qf];by_cases hr:i ∈ r
  ·exact Zy aN r _ (fun k hk=>hl k (by simp [hk])) hr
  ·have dI:i=j:=by rcases zya.1 hi with e|e;exact e;exact (hr e).elim
   subst dI;rw [Kr r _ (fun k hk=>hl k (by simp [hk])) (fun k hk e=>hr (aN k i e ▸ hk)),i4 _ _ _ _ (hl i (by simp)),if_pos rfl]
theorem ayo {n i:Nat} (h:i<n):i ∈ dz 0 n:=(mh n 0 i).2 ⟨zzb _,zO⟩
theorem Xb {n i:Nat} (h:i ∈ dz 0 n):i<n:=by have:=((mh n 0 i).1 h).2;omega
theorem ah9:∀ (l:List Nat) (o i:Nat),idx l o i=none->o ∉ l
 | [],o,i,_=>by simp
 |a::l,o,i,h=>by
  rw [Lo] at h
  split at h
  ·cases h
  ·rename_i ne;have:=ah9 l o (i+1) h;simp only [zya,not_or];exact ⟨fun e=>ne e.symm,this⟩
theorem ahj {D:List Nat} {g eI:Gh} {st aM:St} {h0:Tr bo} {w w':World} {r:AV} {v:Value} (hD:D.Nodup) (hlt:∀ o ∈ D,o<st.nx) (hp:∀ o ∈ D,(st.h.get o).isSome=true)
 (aB:Ok g st.h w) (hfr:∀ o,st.nx<=o->g.inj o=none) (hk:D.length<=aM.nx) (hb:st.nx+aM.nx<=c9)
 (s0:Step (g.da D) h0 w D.length aM.nx eI aM.h w') (lH:Ok eI aM.h w') (hr:Rel eI w' r v) :
 ∃ g',st.nx<=(m7 D st aM).nx/\Step g st.h w st.nx (m7 D st aM).nx g' (m7 D st aM).h w'/\Ok g' (m7 D st aM).h w'/\Rel g' w' (r.da (Ce D st.nx aM.nx)) v:=by
 obtain ⟨n0,aS⟩:∃ n0,n0=aM.nx:=⟨_,rfl⟩;have aN:=fun i j=>aAt (nx:=st.nx) hD hlt (i:=i) (j:=j)
 have lK:∀ i ∈ dz 0 aM.nx,pk D st.nx i<=c9:=fun i hi=>zzu (aDv hlt (Xb hi)) hb
 have hin:∀ i,i<aM.nx->(m7 D st aM).h.get (pk D st.nx i)=(aM.h.get i).bind (bo.da (Ce D st.nx aM.nx)):=fun i hi=>Zy aN _ _ lK (ayo hi)
 have hout:∀ o,(∀ i,i<aM.nx->pk D st.nx i≠o)->(m7 D st aM).h.get o=st.h.get o:=fun o ho=>Kr _ _ lK (fun i hi=>ho i (Xb hi))
 have eY:∀ i,(g.da D).inj i=(D[i]?).bind g.inj:=fun _=>rfl
 have hold:∀ i b base,(g.da D).inj i=some (b,base)->∃ o ∈ D,g.inj o=some (b,base)/\(st.h.get o).isSome=true:=fun i b base hi=>by
  rw [eY] at hi;cases hd:D[i]? with
  |none=>rw [hd] at hi;cases hi
  |some o=>rw [hd] at hi;exact ⟨o,zm hd,hi,hp o (zm hd)⟩
 have hno:∀ i,aM.nx<=i->eI.inj i=none:=fun i hi=>s0.fresh i (by rw [eY,zzy zO];rfl) zO
 let g':Gh:={ b0:=g.b0,inj:=fun o=>if o<st.nx then g.inj o else eI.inj (D.length+(o - st.nx)),K:=eI.K }
 have gl:∀ o,o<st.nx->g'.inj o=g.inj o:=fun o ho=>if_pos ho
 have gg:∀ o,st.nx<=o->g'.inj o=eI.inj (D.length+(o - st.nx)):=fun o ho=>if_neg zO
 have F1:∀ i,g'.inj (pk D st.nx i)=eI.inj i:=fun i=>by
  rcases zyf i D.length with hi|hi
  ·have hd:=zh hi;rw [Bv hd,gl _ (hlt _ (zyl hi))];have h1:(g.da D).inj i=g.inj D[i]:=by rw [eY,hd];rfl
   cases hg:g.inj D[i] with
   |some p=>exact (s0.ext.inj i p (h1.trans hg)).symm
   |none=>exact (s0.fresh i (h1.trans hg) zO).symm
  ·rw [El hi,gg _ zO]
   congr 1;omega
 let N:List Nat:=(List.range (st.nx+aM.nx)).map fun o=>if o<st.nx then (idx D o 0).getD aM.nx else D.length+(o - st.nx)
 have rV:∀ p,p<st.nx+aM.nx->N[p]? = some (if p<st.nx then (idx D p 0).getD aM.nx else D.length+(p - st.nx)):=fun p hp=>by simp only [N,zzj,zyi hp,Option.map_some]
 have qY:∀ i o,D[i]? = some o->idx D o 0=some i:=fun i o hi=>by
  cases hx:idx D o 0 with
  |some p=>
   have h1:=F0 D o p hx;obtain ⟨hi',ei⟩:=zg.1 hi;obtain ⟨hp',ep⟩:=zg.1 h1;rw [(List.getElem_inj hD).1 (ei.trans ep.symm)]
  |none=>exact absurd (zm hi) (ah9 D o 0 hx)
 have hτ:∀ o p,Ce D st.nx aM.nx o=some p->N[p]? = some o:=fun i p h=>by
  unfold Ce at h;cases hlt2:Nat.blt i aM.nx with
  |false=>rw [hlt2] at h;cases h
  |true=>
   rw [hlt2] at h;cases h;have hi:i<aM.nx:=zB hlt2;rcases zyf i D.length with aY|aY
   ·have hd:=zh aY;rw [Bv hd,rV _ (by have:=hlt _ (zyl aY);omega),if_pos (hlt _ (zyl aY)),qY i _ hd];rfl
   ·rw [El aY,rV _ zO,if_neg zO]
    congr 1;omega
 have aG:Ext (eI.da N) w' g' w':=by
  refine ⟨s0.ext.b0.symm,fun p q hq=>?_,fun _ _ h=>h,fun _ _ _=>rfl,fun b cs e fr h=>⟨cs,fr,h,rfl⟩,fun b l h=>⟨l,h⟩,fun _ _ _ _ _ _=>rfl⟩;have hq':(N[p]?).bind eI.inj=some q:=hq;rcases zyf p (st.nx+aM.nx) with hpl|hpl
  ·rw [rV p hpl,Option.bind_some] at hq';by_cases tH:p<st.nx
   ·rw [if_pos tH] at hq';cases hx:idx D p 0 with
    |none=>rw [hx,Option.getD_none,hno _ (zza _)] at hq';cases hq'
    |some i=>
     rw [hx,Option.getD_some] at hq';rw [<- Bv (nx:=st.nx) (F0 D p i hx),F1];exact hq'
   ·rw [if_neg tH] at hq';rw [gg p zO];exact hq'
  ·have:N[p]? = none:=zzy (by simp only [N,zzo,List.length_range];exact hpl);rw [this] at hq';cases hq'
 have gN:∀ o,(∃ i,i<aM.nx/\pk D st.nx i=o)\/(∀ i,i<aM.nx->pk D st.nx i≠o):=fun o=>by
  by_cases h:∃ i,i<aM.nx/\pk D st.nx i=o
  ·exact .inl h
  ·exact .inr fun i hi e=>h ⟨i,hi,e⟩
 have ef:∀ i x,i<aM.nx->(m7 D st aM).h.get (pk D st.nx i)=some x->∃ y,aM.h.get i=some y/\y.da (Ce D st.nx aM.nx)=some x:=fun i x hi hx=>by
  rw [hin i hi] at hx;cases hy:aM.h.get i with
  |none=>rw [hy] at hx;cases hx
  |some y=>rw [hy] at hx;exact ⟨y,rfl,hx⟩
 have eH:∀ o b base,(∀ i,i<aM.nx->pk D st.nx i≠o)->g'.inj o=some (b,base)->o<st.nx/\o ∉ D/\g.inj o=some (b,base):=fun o b base ho hi=>by
  rcases zyf o st.nx with h1|h1
  ·refine ⟨h1,fun hd=>?_,by rw [<- gl o h1];exact hi⟩;obtain ⟨i,bO,e⟩:=List.getElem_of_mem hd;exact ho i zO (by rw [Bv (zh bO)];exact e)
  ·rw [gg o h1] at hi;rcases zyf (D.length+(o - st.nx)) aM.nx with h2|h2
   ·exact (ho _ h2 (by rw [El zO];omega)).elim
   ·rw [hno _ h2] at hi;cases hi
 have eX:∀ o x b base,o ∉ D->st.h.get o=some x->g.inj o=some (b,base)->b<w.heap.size->w'.heap[b]? = w.heap[b]? /\ (∀ i base',eI.inj i=some (b,base')->(aM.h.get i).isSome=true->False)/\(∀ j,eI.K b j->g.K b j):=fun o x b base ho hx hi aT=>by
  have jZ:∀ i base',(g.da D).inj i≠some (b,base'):=fun i base' e=>by obtain ⟨o2,hd,aY,hs2⟩:=hold i b base' e;obtain ⟨x2,hx2⟩:=zzv.1 hs2;exact aB.sep o o2 x x2 b base base' (fun e=>ho (e ▸ hd)) hx hx2 hi aY
  refine ⟨s0.frame b aT fun i base' _=>jZ i base',fun i base' e hs=>?_,fun j hj=>?_⟩
  ·rcases s0.own i b base' hs e with h1|⟨o',aI,_,h2⟩
   ·omega
   ·exact jZ o' aI h2
  ·rcases s0.n8 b j hj with h1|h1|⟨o',aI,_,h2⟩
   ·exact h1
   ·omega
   ·exact (jZ o' aI h2).elim
 have hblk:∀ o x b base,st.h.get o=some x->g.inj o=some (b,base)->l9 g w b base x:=fun o x b base hx hi=>by
  rcases aB.mn o x hx with ⟨h1,_⟩|⟨b',base',h1,_,h2⟩
  ·rw [h1] at hi;cases hi
  ·rw [h1] at hi;cases hi;exact h2
 have hsz:∀ b base x,l9 g w b base x->b<w.heap.size:=fun b base x hx=>by
  have hs:∃ q,w.heap[b]? = some q:=by
   cases x with
   |row cells k st et=>obtain ⟨cs,fr,h1,_⟩:=hx;exact ⟨_,h1⟩
   |map es=>obtain ⟨_,ms,clock,h1,_⟩:=hx;exact ⟨_,h1⟩
   |loop slots nt params assign body state pending=>obtain ⟨_,l,h1,_⟩:=hx;exact ⟨_,h1⟩
  obtain ⟨q,hq⟩:=hs;exact (zz1.1 hq).1
 have hE:Ext g w g' w':=by
  refine ⟨rfl,fun o p hp=>?_,fun b j h=>s0.ext.K b j h,fun b j h=>s0.ext.cell b j h,s0.ext.sv,s0.ext.lp,s0.ext.whole⟩;rcases zyf o st.nx with h1|h1
  ·rw [gl o h1];exact hp
  ·rw [hfr o h1] at hp;cases hp
 refine ⟨g',Nat.le_add_right _ _,⟨hE,s0.size,s0.os,s0.tape,s0.output,fun b aT hn=>?_,fun o ho hr2=>?_,fun o b base ho hi=>?_,fun b j hK=>?_⟩,⟨?_,fun o x hx=>?_,fun o o' x x' b base base' hne hx hx' hi hi'=>?_,lH.K⟩,(hr.da hτ).ext aG⟩
 ·refine s0.frame b aT fun i base _ e=>?_
  obtain ⟨o,_,h1,h2⟩:=hold i b base e;exact hn o base h2 h1
 ·rcases zyf o st.nx with h1|h1
  ·rw [gl o h1];exact ho
  ·rw [gg o h1];exact hno _ (by simp only [m7] at hr2;omega)
 ·rcases gN o with ⟨i,eL,rfl⟩|ho2
  ·obtain ⟨x,hx⟩:=zzv.1 ho;obtain ⟨y,hy,_⟩:=ef i x eL hx;rw [F1] at hi;rcases s0.own i b base (by rw [hy];rfl) hi with h1|⟨o',base',_,h2⟩
   ·exact .inl h1
   ·obtain ⟨o2,_,h3,h4⟩:=hold o' b base' h2;exact .inr ⟨o2,base',h4,h3⟩
  ·obtain ⟨_,_,h3⟩:=eH o b base ho2 hi;rw [hout o ho2] at ho;exact .inr ⟨o,base,ho,h3⟩
 ·rcases s0.n8 b j hK with h1|h1|⟨o',base',_,h2⟩
  ·exact .inl h1
  ·exact .inr (.inl h1)
  ·obtain ⟨o2,_,h3,h4⟩:=hold o' b base' h2;exact .inr (.inr ⟨o2,base',h4,h3⟩)
 ·exact zzu aB.size s0.size
 ·rcases gN o with ⟨i,eL,rfl⟩|ho2
  ·obtain ⟨y,hy,pL⟩:=ef i x eL hx;refine (lH.mn i y hy).imp (fun q=>⟨by rw [F1];exact q.1,by obtain ⟨s1,e1,rfl⟩:=q.2;simp only [bo.da,AV.da.go,Option.some.injEq] at pL;exact ⟨s1,e1,pL.symm⟩⟩) ?_;rintro ⟨b,base,q1,q2,q3⟩;refine ⟨b,base,by rw [F1];exact q1,by show g.b0<=b;have:=s0.ext.b0;have e:eI.b0=g.b0:=this;omega,(q3.da hτ pL).ext aG rfl (fun j hj=>hj)⟩
  ·rw [hout o ho2] at hx;cases hg:g'.inj o with
   |none=>
    refine .inl ⟨rfl,?_⟩;rcases zyf o st.nx with h1|h1
    ·rw [gl o h1] at hg;rcases aB.mn o x hx with ⟨_,h2⟩|⟨b,base,h2,_⟩
     ·exact h2
     ·rw [hg] at h2;cases h2
    ·rcases aB.mn o x hx with ⟨_,h2⟩|⟨b,base,h2,_⟩
     ·exact h2
     ·rw [hfr o h1] at h2;cases h2
   |some p=>
    obtain ⟨b,base⟩:=p;obtain ⟨h1,h2,h3⟩:=eH o b base ho2 hg;have tJ:=hblk o x b base hx h3;obtain ⟨e1,_,e3⟩:=eX o x b base h2 hx h3 (hsz b base x tJ);refine .inr ⟨b,base,rfl,?_,tJ.ext hE e1 e3⟩;rcases aB.mn o x hx with ⟨h4,_⟩|⟨b',base',h4,h5,_⟩
    ·rw [h4] at h3;cases h3
    ·rw [h4] at h3;cases h3;exact h5
 ·rcases gN o with ⟨i,eL,rfl⟩|ho2<;>rcases gN o' with ⟨i',mQ,rfl⟩|gH
  ·obtain ⟨y,hy,_⟩:=ef i x eL hx;obtain ⟨y',hy',_⟩:=ef i' x' mQ hx';rw [F1] at hi hi';exact lH.sep i i' y y' b base base' (fun e=>hne (by rw [e])) hy hy' hi hi'
  ·obtain ⟨y,hy,_⟩:=ef i x eL hx;obtain ⟨h1,h2,h3⟩:=eH o' b base' gH hi';rw [hout o' gH] at hx';rw [F1] at hi;exact (eX o' x' b base' h2 hx' h3 (hsz b base' x' (hblk o' x' b base' hx' h3))).2.1 i base hi (by rw [hy];rfl)
  ·obtain ⟨y,hy,_⟩:=ef i' x' mQ hx';obtain ⟨h1,h2,h3⟩:=eH o b base ho2 hi;rw [hout o ho2] at hx;rw [F1] at hi';exact (eX o x b base h2 hx h3 (hsz b base x (hblk o x b base hx h3))).2.1 i' base' hi' (by rw [hy];rfl)
  ·obtain ⟨h1,h2,h3⟩:=eH o b base ho2 hi;obtain ⟨h1',h2',dA⟩:=eH o' b base' gH hi';rw [hout o ho2] at hx;rw [hout o' gH] at hx';exact aB.sep o o' x x' b base base' hne hx hx' h3 dA
theorem ajb {P:Program} [KP P] {f:Nat} {args:List AV} {st:St} {R:AV->St->Prop} (D:List Nat) (hD:D.Nodup) (hlt:∀ o ∈ D,o<st.nx) (hp:∀ o ∈ D,(st.h.get o).isSome=true) (hl:D.length<=c9)
 (h:k8 P f (AV.da.go (fun o=>idx D o 0) args) (bh (jc st.h (fun o=>idx D o 0) D)) (fun r aA=>(D.length<=aA.nx/\st.nx+aA.nx<=c9)/\R (r.da (Ce D st.nx aA.nx)) (m7 D st aA))):k8 P f args st R:=by
 intro g w vs aB hfr hrel;have hτ:∀ o p,(fun o=>idx D o 0) o=some p->D[p]? = some o:=fun o p h=>F0 _ o p h
 have bM:(bh (jc st.h (fun o=>idx D o 0) D)).nx=D.length:=by simp only [bh,iq]
 have aN:∀ i o,D[i]? = some o->(g.da D).inj i=g.inj o:=fun i o h=>by simp [Gh.da,h]
 have ef:∀ i x,(bh (jc st.h (fun o=>idx D o 0) D)).h.get i=some x->∃ o y,D[i]? = some o/\st.h.get o=some y/\y.da (fun o=>idx D o 0)=some x:=by
  intro i x hx;simp only [bh] at hx;rw [uk _ _ _ (by rw [iq];omega),if_pos (zzb _),Nat.sub_zero,uz] at hx;cases hi:D[i]? with
  |none=>rw [hi] at hx;cases hx
  |some o=>
   rw [hi] at hx;simp only [Option.map_some,Option.join_some] at hx;cases hy:st.h.get o with
   |none=>rw [hy] at hx;cases hx
   |some y=>rw [hy] at hx;exact ⟨o,y,rfl,hy,hx⟩
 have fD:Ok (g.da D) (bh (jc st.h (fun o=>idx D o 0) D)).h w:=by
  refine ⟨aB.size,fun i x hx=>?_,fun i j x y b base base' dI hx hy hb hb'=>?_,aB.K⟩
  ·obtain ⟨o,y,h1,h2,h3⟩:=ef i x hx;refine (aB.mn o y h2).imp (fun q=>⟨by rw [aN i o h1];exact q.1,by obtain ⟨s0,e0,rfl⟩:=q.2;simp only [bo.da,AV.da.go,Option.some.injEq] at h3;exact ⟨s0,e0,h3.symm⟩⟩) ?_;rintro ⟨b,base,q1,q2,q3⟩;exact ⟨b,base,by rw [aN i o h1];exact q1,q2,q3.da hτ h3⟩
  ·obtain ⟨o,y1,h1,h2,_⟩:=ef i x hx;obtain ⟨o',y2,h1',h2',_⟩:=ef j y hy;rw [aN i o h1] at hb;rw [aN j o' h1'] at hb';have hne:o≠o':=by
    intro e;subst e;obtain ⟨hi,ei⟩:=zg.1 h1;obtain ⟨hj,ej⟩:=zg.1 h1';exact dI ((List.getElem_inj hD).1 (ei.trans ej.symm))
   exact aB.sep o o' _ _ b base base' hne h2 h2' hb hb'
 have hfr0:∀ o,(bh (jc st.h (fun o=>idx D o 0) D)).nx<=o->(g.da D).inj o=none:=fun o ho=>by rw [bM] at ho;simp [Gh.da,zzy ho]
 have fA:bt (g.da D) w (AV.da.go (fun o=>idx D o 0) args) vs:=by
  rw [gv];refine ⟨by rw [zzo];exact hrel.1,fun i a v ha hv=>?_⟩;rw [zzj] at ha;cases hx:args[i]? with
  |none=>rw [hx] at ha;cases ha
  |some a0=>rw [hx] at ha;cases ha;exact (hrel.2 i a0 v hx hv).da hτ
 rcases h (g.da D) w vs fD hfr0 fA with ⟨v,w',g',r,aA,q1,q2,q3,q4,q5,q6⟩|⟨q1,q2⟩
 ·rw [bM] at q4;obtain ⟨g'',p1,p2,p3,p4⟩:=ahj hD hlt hp aB hfr q2.1.1 q2.1.2 q4 q5 q6;exact .inl ⟨v,w',g'',_,_,q1,q2.2,p1,p2,p3,p4⟩
 ·refine .inr ⟨q1,q2.mono ?_⟩;rintro e w' ⟨v,g',r,aA,rfl,q2,q3,q4,q5,q6⟩;rw [bM] at q4;obtain ⟨g'',p1,p2,p3,p4⟩:=ahj hD hlt hp aB hfr q2.1.1 q2.1.2 q4 q5 q6;exact ⟨v,g'',_,_,rfl,q2.2,p1,p2,p3,p4⟩
theorem qj {P:Program} [KP P] {f:Nat} {args:List AV} {st:St} {R:AV->St->Prop} (D:List Nat) {jF:List AV} {iC:List (Option bo)} {r0:AV} {cN:List (Option bo)}
 (hc:k8 P f jF (bh iC) (fun r aA=>r=r0/\aA=bh cN)) (hD:D.Nodup)
 (hlt:(D.all fun o=>Nat.blt o st.nx)=true) (hp:(D.all fun o=>(st.h.get o).isSome)=true) (hl:D.length<=c9)
 (ha:AV.da.go (fun o=>idx D o 0) args=jF) (hs:jc st.h (fun o=>idx D o 0) D=iC) (hb:D.length<=cN.length/\st.nx+cN.length<=c9)
 (h:R (r0.da (Ce D st.nx cN.length)) (m7 D st (bh cN))):k8 P f args st R:=by
 refine ajb D hD (fun o ho=>zB (zz8.1 hlt o ho)) (fun o ho=>zz8.1 hp o ho) hl ?_;rw [ha,hs];intro g w vs aB hfr hrel;rcases hc g w vs aB hfr hrel with ⟨v,w',g',r,aA,q1,⟨rfl,rfl⟩,q3⟩|⟨q1,q2⟩
 ·exact .inl ⟨v,w',g',_,_,q1,⟨hb,h⟩,q3⟩
 ·refine .inr ⟨q1,q2.mono ?_⟩;rintro e w' ⟨v,g',r,aA,e1,⟨rfl,rfl⟩,q3⟩;exact ⟨v,g',_,_,e1,⟨hb,h⟩,q3⟩
end
variable [TK]
noncomputable section
section code
variable (P : Program) (T : eh) (bb : Nat) (Q : QL) (L : SL) (st : St)
theorem am9:wl P T bb .skip Q L st=Q .normal L st:=id rfl
theorem aix (l):wl P T bb (.label l) Q L st=Q .normal L st:=id rfl
theorem Zo (i ops d):wl P T bb (.region i ops d) Q L st=F2 P T ops d (Q .normal) L st:=id rfl
theorem ata (a b):wl P T bb (.seq a b) Q L st=wl P T bb a (Ik (wl P T bb b) Q) L st:=id rfl
theorem alv (c a b):wl P T bb (.cond c a b) Q L st=wa (dw L c) (wl P T bb a Q) (wl P T bb b Q) L st:=id rfl
theorem aif (i b):wl P T bb (.block i b) Q L st=wl P T bb b (Li i Q) L st:=id rfl
theorem amx (b):wl P T bb (.loop b) Q L st=tx bb (wl P T bb b) Q L st:=id rfl
theorem aga (b):wl P T bb (.scope b) Q L st=wl P T bb b Q L st:=id rfl
theorem als (i):wl P T bb (.exit i) Q L st=Q (.exit i) L st:=id rfl
theorem av9:wl P T bb .ret Q L st=Q .ret L st:=id rfl
theorem avt (W):Ik W Q .normal L st=W Q L st:=id rfl
theorem avo (W i):Ik W Q (.exit i) L st=Q (.exit i) L st:=id rfl
theorem av0 (W):Ik W Q .ret L st=Q .ret L st:=id rfl
theorem au7 (i):Li i Q .normal L st=Q .normal L st:=id rfl
theorem ave (i):Li i Q .ret L st=Q .ret L st:=id rfl
theorem atn (i j):Li i Q (.exit j) L st=bif Nat.beq j i then Q .normal L st else Q (.exit j) L st:=id rfl
theorem amr (keep X):xl bb keep X Q .normal L st=X (ij bb keep L st) (fl bb keep L st):=id rfl
theorem alq (keep X i):xl bb keep X Q (.exit i) L st=Q (.exit i) L st:=id rfl
theorem ami (keep X):xl bb keep X Q .ret L st=Q .ret L st:=id rfl
theorem atb (rs R):c8 P rs R .normal L st=E8 (sg P L st rs) R st:=id rfl
theorem asx (rs R):c8 P rs R .ret L st=E8 (sg P L st rs) R st:=id rfl
theorem ab2 (ops K):F2 P T ops false K L st=opsL P T ops ops.toList K L st:=id rfl
theorem aii (ops K):opsL P T ops [] K L st=K L st:=id rfl
theorem acd (ops o r K):opsL P T ops (o::r) K L st=z7 ops o.guard (Tn P T o (opsL P T ops r K)) (Jh o.dst (opsL P T ops r K)) L st:=id rfl
theorem agw (ops K recs):G0 P T ops [] K recs L st=(ga (Region.before ops) 0 recs=true/\K L st):=id rfl
theorem aaw (ops o r K recs):G0 P T ops (o::r) K recs L st=z7 ops o.guard (fv P T o recs (G0 P T ops r K)) (Jh o.dst (G0 P T ops r K (recs++[⟨[],[]⟩]))) L st:=id rfl
theorem Vp (ops X Y):z7 ops none X Y L st=X L st:=id rfl
theorem Wc (ops j c X Y):z7 ops (some (j,c)) X Y L st=Gs (lk L (wi ops j)) c X Y L st:=id rfl
theorem adt (b:Bool) (X Y:SL->St->Prop):Gs (.sc (.bool b)) true X Y L st=wa (.sc (.bool b)) X Y L st:=by cases b<;>simp [Gs,Bk,D6,H9,wa,re,AV.bool,AV.exact,pf]
theorem ahx (b:Bool) (X Y:SL->St->Prop):Gs (.sc (.bool b)) false X Y L st=wa (.sc (.bool b)) Y X L st:=by cases b<;>simp [Gs,Bk,D6,H9,wa,re,AV.bool,AV.exact,pf]
theorem ahs (c:Bool) (X Y:SL->St->Prop):Gs (.sc undef) c X Y L st=Y L st:=by simp [Gs,Bk,D6,H9,AV.exact,undef]
theorem anc (o K):Tn P T o K L st=Gm (gz P T o (dw L) st) P o L st K:=id rfl
theorem ah7 (v o K aA):Gm (some (v,aA)) P o L st K=K (oq o.dst v L) aA:=id rfl
theorem aij (K d r):fu K d L r st=K (oq d r L) st:=id rfl
theorem ahn (ro F o recs K v gi):Gb ro F o recs K L st (some (v,gi))=((Hy st.nx F=true/\Nat.ble gi.nx c9=true)/\same (j7 st.h F) gi.h (bif ro then F else []) /\
 K (recs++[⟨F,(bif ro then [] else F)++dz st.nx (gi.nx - st.nx)⟩]) (oq o.dst v L) { h:=vm gi.h (F++dz st.nx (gi.nx - st.nx)) st.h,nx:=gi.nx,rl:=[],wl:=[] }):=id rfl
theorem aah (d K):Jh d K L st=K (oq d (.sc undef) L) st:=id rfl
theorem cq (b X Y):wa (.sc (.bool b)) X Y L st=((b=true->X L st)/\(b=false->Y L st)):=id rfl
theorem I3 (X Y):wa (.sc (.bool true)) X Y L st=X L st:=by simp [wa,re,AV.bool,AV.exact,pf]
theorem Jr (X Y):wa (.sc (.bool false)) X Y L st=Y L st:=by simp [wa,re,AV.bool,AV.exact,pf]
theorem Z7 (v d K):Jy (some (v,st)) d L K=K (oq d v L) st:=id rfl
theorem Z4 (d v):oq (some d) v L=(d,v)::L:=id rfl
theorem Zu (v):oq none v L=L:=id rfl
theorem asm (l R):E8 (some l) R st=R (pack l) st:=id rfl
theorem asa (d v):lk ((d,v)::L) d=v:=by simp [lk]
theorem alo (d t v) (h:(d == t)=false):lk ((d,v)::L) t=lk L t:=by
 have e:d≠t:=by simpa using h
 rw [vu,if_neg e]
theorem azx (t):dw L (.tmp t)=lk L t:=id rfl
theorem aAd (v):dw L (.const v) = .sc v:=id rfl
theorem azr (f):dw L (.func f) = .sc (.func (.func f) #[] #[]):=id rfl
theorem av4:sg P L st []=some []:=id rfl
theorem atr (t r):sg P L st (.tmp t::r)=(sg P L st r).map (lk L t :: ·):=id rfl
theorem au9 (a t r):sg P L st (.cell a t::r)=match ta P t (lk L a) st with|some (v,_)=>(sg P L st r).map (v :: ·)|none=>none:=id rfl
end code
section ops
variable (P : Program) (T : eh) (ρ : Operand -> AV) (d : Option Tmp) (ty : TypeId) (pos : String) (af : Array Edge) (gd : Option (Nat × Bool))
theorem Kz (x):gz P T ⟨d,.move x,ty,pos,af,gd⟩ ρ=mono (M.pure (ρ x)):=id rfl
theorem He (x):gz P T ⟨d,.assign x,ty,pos,af,gd⟩ ρ=mono (M.pure (ρ x)):=id rfl
theorem Ly (t a):gz P T ⟨d,.load t a,ty,pos,af,gd⟩ ρ=mono (ta P t (ρ a)):=id rfl
theorem B0 (s x f):gz P T ⟨d,.fieldAddr s x f,ty,pos,af,gd⟩ ρ=mono (tj P s (ρ x) f):=id rfl
theorem S6 (op t x y u):gz P T ⟨d,.binOp op t x y u,ty,pos,af,gd⟩ ρ=mono (Lf P ρ ⟨d,.binOp op t x y u,ty,pos,af,gd⟩ op t x y):=id rfl
theorem Lu (c a b):gz P T ⟨d,.pick c a b,ty,pos,af,gd⟩ ρ=mono (Gr (ρ c) (ρ a) (ρ b)):=id rfl
theorem Iq (t a x):gz P T ⟨d,.store t a x,ty,pos,af,gd⟩ ρ=mono (x5 P t (ρ a) (ρ x)):=id rfl
theorem Ma (t i):gz P T ⟨d,.extract t i,ty,pos,af,gd⟩ ρ=mono (Ag (ρ t) i):=id rfl
theorem B4 (t x i):gz P T ⟨d,.indexAddr t x i,ty,pos,af,gd⟩ ρ=mono (tk P t (ρ x) (ρ i)):=id rfl
theorem De (x):gz P T ⟨d,.nilCheck x,ty,pos,af,gd⟩ ρ=mono (ql (ρ x)):=id rfl
theorem Te (t):gz P T ⟨d,.alloc t,ty,pos,af,gd⟩ ρ=mono (Cm P t):=id rfl
theorem ab5 (t x):gz P T ⟨d,.box t x,ty,pos,af,gd⟩ ρ=mono (Lj t (ρ x)):=id rfl
theorem Io (t ps):gz P T ⟨d,.build t ps,ty,pos,af,gd⟩ ρ=mono (Aa P t (ps.toList.map fun p=>(p.1,ρ p.2))):=id rfl
theorem zy (t n ps):gz P T ⟨d,.buildSlice t n ps,ty,pos,af,gd⟩ ρ=mono (o9 P t n (ps.toList.map fun p=>(p.1,ρ p.2))):=id rfl
theorem H7 (t l c):gz P T ⟨d,.makeSlice t l c,ty,pos,af,gd⟩ ρ=mono (vy P t (ρ l) (ρ c)):=id rfl
theorem Jc (f a b):gz P T ⟨d,.makeFunc f a b,ty,pos,af,gd⟩ ρ=mono (M.pure (.fn f (a.toList.map ρ) (b.toList.map ρ))):=id rfl
theorem Fb (s u x):gz P T ⟨d,.convert s u x,ty,pos,af,gd⟩ ρ=mono (xi P ρ ⟨d,.convert s u x,ty,pos,af,gd⟩ s u (ρ x)):=id rfl
theorem Sb (s x f):gz P T ⟨d,.field s x f,ty,pos,af,gd⟩ ρ=mono (Fy P s (ρ x) f):=id rfl
theorem Ro (t x i):gz P T ⟨d,.index t x i,ty,pos,af,gd⟩ ρ=mono (C1 P ρ ⟨d,.index t x i,ty,pos,af,gd⟩ t x i):=id rfl
theorem Ry (t x l h m):gz P T ⟨d,.slice t x l h m,ty,pos,af,gd⟩ ρ=mono (Db P ρ ⟨d,.slice t x l h m,ty,pos,af,gd⟩ t x l h m):=id rfl
theorem Nt (x ts):gz P T ⟨d,.call { callee:=.builtin .len,args:=#[x],argTypes:=ts },ty,pos,af,gd⟩ ρ=mono (we ((ts[0]?).bind P.underlying) (ρ x)):=id rfl
theorem G7 (s x ts):gz P T ⟨d,.call { callee:=.builtin .append,args:=#[s,x],argTypes:=ts },ty,pos,af,gd⟩ ρ=mono (rn P ts[0]? ((ts[1]?).bind P.underlying) (ρ s) (ρ x)):=id rfl
theorem Xc (f args ts):gz P T ⟨d,.call { callee:=.value f,args,argTypes:=ts },ty,pos,af,gd⟩ ρ=x6 T (ρ f) (args.toList.map ρ):=id rfl
end ops
section monad
variable {α β : Type} (s : St)
theorem aAj (m:M α):mono m s=match m s with|none=>none|some (a,s')=>bif decide (s.nx<=s'.nx) then some (a,s') else none:=by
 have:∀ a b,Nat.ble a b=decide (a<=b):=fun a b=>by rw [zyb];simp
 unfold mono;cases m s with
 |none=>rfl
 |some p=>simp only [this]
theorem azw (m:M α) (f : α->M β):(m.bind f) s=match m s with|none=>none|some (a,s')=>f a s':=id rfl
theorem aAg (a : α):(M.pure a) s=some (a,s):=id rfl
theorem az9:(M.fail:M α) s=none:=id rfl
theorem aAk (a : α):(M.of (some a)) s=some (a,s):=id rfl
theorem azz (b:Bool) (m m':M α):(bif b then m else m') s=bif b then m s else m' s:=by cases b<;>rfl
theorem aAc (o:Nat):ef o s=match s.h.get o with|some x=>some (x,{ s with rl:=o::s.rl })|none=>none:=id rfl
theorem az0 (x:bo):ln x s=bif decide (s.nx<=c9) then some (s.nx,{ s with h:=s.h.set depth s.nx (some x),nx:=s.nx+1,wl:=s.nx::s.wl }) else none:=by
 have:Nat.ble s.nx c9=decide (s.nx<=c9):=by rw [zyb];simp
 unfold ln;rw [this]
theorem aAi (o:Nat) (x:bo):sf o x s=match s.h.get o with|some _=>bif decide (o<=c9) then some ((),{ s with h:=s.h.set depth o (some x),wl:=o::s.wl }) else none|none=>none:=by
 have:Nat.ble o c9=decide (o<=c9):=by rw [zyb];simp
 unfold sf;rw [this];rfl
theorem azo (o:Nat):Kv o s=match s.h.get o with|some _=>bif decide (o<=c9) then some ((),{ s with h:=s.h.set depth o none,wl:=o::s.wl }) else none|none=>none:=by
 have:Nat.ble o c9=decide (o<=c9):=by rw [zyb];simp
 unfold Kv;rw [this];rfl
theorem adv (t:Tr bo) (n m:Nat) (x:Option bo) (h:n<=16777214):(Tr.set depth t n x).get m=if m=n then x else t.get m:=i4 t n m x h
theorem agk (n:Nat):(Tr.nil:Tr bo).get n=none:=id rfl
theorem awt (a b:Nat):Nat.ble a b=decide (a<=b):=by rw [zyb];simp
theorem aCy (a b:Nat):Nat.blt a b=decide (a<b):=by rw [zyb];simp
theorem ap5 (a b:Nat):Nat.beq a b=decide (a=b):=by rw [zyb];simp
end monad
theorem S0 {a:AV} {x y x' y':Prop} (h1:x->x') (h2:y->y') (h:re a x y):re a x' y':=by
 unfold re at *
 split at h
 ·exact ⟨fun e=>h1 (h.1 e),fun e=>h2 (h.2 e)⟩
 ·exact h.elim
theorem Cf {ops L gd} {x y x' y':Prop} (h1:x->x') (h2:y->y') (h:guarded ops L gd x y):guarded ops L gd x' y':=by
 unfold guarded at *
 split at h
 ·exact h1 h
 ·unfold Bk at *
  split at h
  ·exact ⟨fun e=>h1 (h.1 e),fun e=>h2 (h.2 e)⟩
  ·exact h.elim
theorem k8.mono {P f args st} {R R':AV->St->Prop} (h:∀ r st,R r st->R' r st) (hc:k8 P f args st R):k8 P f args st R':=by
 intro g w vs h1 h2 h3;rcases hc g w vs h1 h2 h3 with ⟨v,w',g',r,aA,q1,q2,q3⟩|⟨q1,q2⟩
 ·exact .inl ⟨v,w',g',r,aA,q1,h _ _ q2,q3⟩
 ·refine .inr ⟨q1,q2.mono ?_⟩;rintro e w' ⟨v,g',r,aA,p1,p2,p3⟩;exact ⟨v,g',r,aA,p1,h _ _ p2,p3⟩
theorem apm {P o L st} {K K':SL->St->Prop} (h:∀ L st,K L st->K' L st) (hc:P7 P o L st K):P7 P o L st K':=by
 unfold P7 apk at *
 split at hc
 ·split at hc
  ·exact k8.mono (fun r st hk=>h _ _ hk) hc
  ·exact hc.elim
 ·exact hc.elim
theorem Hv {P T ops} {K K':SL->St->Prop} (h:∀ L st,K L st->K' L st):∀ (l:List Oper) (L:SL) (st:St),opsL P T ops l K L st->opsL P T ops l K' L st
 | [],L,st,hh=>h L st hh
 |o::r,L,st,hh=>Cf (fun q=>by
  unfold Tn Gm at *
  split at q
  ·exact Hv h r _ _ q
  ·exact apm (fun L st=>Hv h r L st) q) (fun q=>Hv h r _ _ q) hh
theorem Ho {P T ops} {K K':SL->St->Prop} (h:∀ L st,K L st->K' L st):∀ (l:List Oper) (recs:List Rec) (L:SL) (st:St),G0 P T ops l K recs L st->G0 P T ops l K' recs L st
 | [],recs,L,st,hh=>⟨hh.1,h L st hh.2⟩
 |o::r,recs,L,st,hh=>Cf (fun q=>by
  unfold fv kz Gb at *
  split at q
  ·exact ⟨q.1,q.2.1,Ho h r _ _ _ q.2.2⟩
  ·exact q.elim) (fun q=>Ho h r _ _ _ q) hh
theorem Ig {P T ops} {K K':SL->St->Prop} (h:∀ L st,K L st->K' L st):∀ (l:List Oper) (recs:List Rec) (L:SL) (st:St),Oz P T ops l K recs L st->Oz P T ops l K' recs L st
 | [],recs,L,st,hh=>⟨hh.1,h L st hh.2⟩
 |o::r,recs,L,st,hh=>Cf (fun q=>Uw (fun _ _ _ k=>Ig h r _ _ _ k) q) (fun q=>Ig h r _ _ _ q) hh
theorem Ah {P T l bb ops} {R:Ju} (hR:∀ p args (X X':Ex->St->Prop) st,(∀ e st,X e st->X' e st)->R p args X st->R p args X' st) {K K':Option Ex->SL->St->Prop} (h:∀ pe L st,K pe L st->K' pe L st) :
 ∀ (ls:List Oper) (pe:Option Ex) (L:SL) (st:St),G1 P T l R bb ops ls K pe L st->G1 P T l R bb ops ls K' pe L st
 | [],pe,L,st,hh=>h pe L st hh
 |o::r,pe,L,st,hh=>Cf (fun q=>by
  unfold opI Yd at *
  split at q
  ·unfold Jy at *
   split at q
   ·exact Ah hR h r _ _ _ q
   ·exact q.elim
  ·obtain ⟨h0,keep,q⟩:=q;refine ⟨h0,keep,hR _ _ _ _ _ (fun e st q=>?_) q⟩;cases e with
   |normal=>exact Ah hR h r _ _ _ q
   |ret=>exact Ah hR h r _ _ _ q
   |exit id=>exact Ah hR h r _ _ _ q) (fun q=>Ah hR h r _ _ _ q) hh
theorem T5 {P:Program} {T:eh} {l bb:Nat} {R:Ju} (hR:∀ p args (X X':Ex->St->Prop) st,(∀ e st,X e st->X' e st)->R p args X st->R p args X' st) :
 ∀ (c:Code) (Q Q':QI),(∀ e pe L st,Q e pe L st->Q' e pe L st)->∀ pe L st,qd P T l R bb c Q pe L st->qd P T l R bb c Q' pe L st:=by
 intro c
 induction c with
 |skip=>intro Q Q' h pe L st hh;exact h _ _ _ _ hh
 |label l=>intro Q Q' h pe L st hh;exact h _ _ _ _ hh
 |exit i=>intro Q Q' h pe L st hh;exact h _ _ _ _ hh
 |ret=>intro Q Q' h pe L st hh;exact h _ _ _ _ hh
 |region i ops draw=>
  intro Q Q' h pe L st hh;cases draw with
  |false=>exact Ah hR (h _) _ _ _ _ hh
  |true=>exact ⟨hh.1,hh.2.imp (Ho (h _ _) _ _ _ _) (Ig (h _ _) _ _ _ _)⟩
 |seq a b dE dD=>
  intro Q Q' h pe L st hh;refine dE _ _ ?_ pe L st hh;intro e pe L st q;cases e with
  |normal=>exact dD _ _ h pe L st q
  |_=>exact h _ _ _ _ q
 |cond c a b dE dD=>intro Q Q' h pe L st hh;exact S0 (dE _ _ h pe L st) (dD _ _ h pe L st) hh
 |block i b ih=>
  intro Q Q' h pe L st hh;refine ih _ _ ?_ pe L st hh;intro e pe L st q;cases e with
  |exit j=>
   simp only [Tq] at *;cases hb:Nat.beq j i with
   |true=>rw [hb] at q;exact h _ _ _ _ q
   |false=>rw [hb] at q;exact h _ _ _ _ q
  |_=>exact h _ _ _ _ q
 |loop b ih=>
  intro Q Q' h pe L st hh;obtain ⟨h0,keep,hh⟩:=hh;refine ⟨h0,keep,fun X hX=>hh X fun vs os q=>hX vs os (ih _ _ ?_ _ _ _ q)⟩;intro e pe L st q;cases e with
  |normal=>exact q
  |_=>exact h _ _ _ _ q
 |scope b ih=>intro _ _ _ _ _ _ hh;exact hh.elim
 |rangeFunc=>intro _ _ _ _ _ _ hh;exact hh.elim
 |goto=>intro _ _ _ _ _ _ hh;exact hh.elim
 |refuse=>intro _ _ _ _ _ _ hh;exact hh.elim
theorem aye {P:Program} {T:eh}:∀ (c:Code) (bb:Nat) (Q Q':QL),(∀ e L st,Q e L st->Q' e L st)->∀ L st,wl P T bb c Q L st->wl P T bb c Q' L st:=by
 intro c
 induction c with
 |skip=>intro bb Q Q' h L st hh;exact h _ _ _ hh
 |label l=>intro bb Q Q' h L st hh;exact h _ _ _ hh
 |exit i=>intro bb Q Q' h L st hh;exact h _ _ _ hh
 |ret=>intro bb Q Q' h L st hh;exact h _ _ _ hh
 |region i ops draw=>
  intro bb Q Q' h L st hh;cases draw with
  |false=>exact Hv (h _) _ _ _ hh
  |true=>exact ⟨hh.1,hh.2.imp (Ho (h _) _ _ _ _) (Ig (h _) _ _ _ _)⟩
 |seq a b dE dD=>
  intro bb Q Q' h L st hh;refine dE _ _ _ ?_ L st hh;intro e L st q;cases e with
  |normal=>exact dD _ _ _ h L st q
  |_=>exact h _ _ _ q
 |cond c a b dE dD=>intro bb Q Q' h L st hh;exact S0 (dE _ _ _ h L st) (dD _ _ _ h L st) hh
 |block i b ih=>
  intro bb Q Q' h L st hh;refine ih _ _ _ ?_ L st hh;intro e L st q;cases e with
  |exit j=>
   simp only [Li] at *;cases hb:Nat.beq j i with
   |true=>rw [hb] at q;exact h _ _ _ q
   |false=>rw [hb] at q;exact h _ _ _ q
  |_=>exact h _ _ _ q
 |loop b ih=>
  intro bb Q Q' h L st hh;obtain ⟨keep,hh⟩:=hh;refine ⟨keep,fun X hX=>hh X fun vs os q=>hX vs os (ih _ _ _ ?_ _ _ q)⟩;intro e L st q;cases e with
  |normal=>exact q
  |_=>exact h _ _ _ q
 |scope b ih=>intro bb Q Q' h L st hh;exact ih _ _ _ h L st hh
 |rangeFunc f ps a b dE dD=>
  intro bb Q Q' h L st hh;obtain ⟨keep,h0,hh⟩:=hh;refine ⟨keep,h0,?_⟩;unfold Ni at *
  split at hh
  ·unfold Oa at *
   split at hh
   ·refine ⟨hh.1,fun l=>T5 (fun p args X X' st hX hr=>⟨hr.1,hr.2.1,dE _ _ _ (fun e L st q=>(by
     cases e with
     |normal=>exact dD _ _ _ (fun e _ st q=>hX e st q) _ _ q
     |_=>exact q.elim)) _ _ hr.2.2⟩) _ _ _ (fun e pe L st q=>(by
     cases e with
     |exit id=>exact q.elim
     |normal=>
      cases pe with
      |none=>exact h _ _ _ q
      |some e=>exact h _ _ _ q
     |ret=>
      cases pe with
      |none=>exact h _ _ _ q
      |some e=>exact h _ _ _ q)) _ _ _ (hh.2 l)⟩
   ·exact hh.elim
  ·exact hh.elim
 |goto=>intro _ _ _ _ _ _ hh;exact hh.elim
 |refuse=>intro _ _ _ _ _ _ hh;exact hh.elim
theorem C3 {P:Program} {T:eh} {bb:Nat} (c:Code) (Q Q':QL) (h:∀ e L st,Q e L st->Q' e L st) (L:SL) (st:St) (hh:wl P T bb c Q L st):wl P T bb c Q' L st:=aye c bb Q Q' h L st hh
theorem dq {α:Type} {P:Program} {T:eh} {bb:Nat} {b:Code} {Q:QL} {L:SL} {st:St} (keep:List Nat) (V : α->List AV) (O : α->List (Option bo)) (I : α->Prop) (μ : α->Nat) (x : α) (hx:I x)
 (hv:ij bb keep L st=V x) (ho:fl bb keep L st=O x)
 (step:∀ x,I x->wl P T bb b (xl bb keep (fun vs os=>∃ y,I y /\ μ y < μ x/\vs=V y/\os=O y) Q) (iz keep (V x)) (bh (O x))):tx bb (wl P T bb b) Q L st:=
 tx.of keep V O I μ x hx hv ho (fun _ _ h=>C3 b _ _ h) step
section cods
theorem j5 {α:Type} (C:di α) (l:Bool) (xs:List α):(br C).val l xs = .vl l C.sz (xs.map (C.val l)):=id rfl
theorem Aj {α:Type} (C:di α):(br C).sz=1:=id rfl
theorem abg:ah.sz=1:=id rfl
theorem ahk:bq.sz=1:=id rfl
theorem E1:cf.sz=1:=id rfl
theorem xg:cw.sz=1:=id rfl
theorem xj (k:IntKind):(ba k).sz=1:=id rfl
theorem B9:bk.sz=1:=id rfl
theorem E5 (l:Bool) (x:UInt8):bq.val l x = .sc (.int .u8 x.toNat):=id rfl
theorem Vi (l:Bool) (x:UInt16):cf.val l x = .sc (.int .u16 x.toNat):=id rfl
theorem V8 (l:Bool) (x:UInt32):cw.val l x = .sc (.int .u32 x.toNat):=id rfl
theorem V0 (k:IntKind) (l:Bool) (x:Int):(ba k).val l x = .sc (.int k x):=id rfl
theorem Rv (l:Bool) (x:Bool):bk.val l x = .sc (.bool x):=id rfl
theorem amj (o i:Nat):idx [] o i=none:=id rfl
theorem afz {α:Type} (C:di α) (τ:Nat->Option Nat) (l:Bool):AV.da τ ∘ C.val l=C.val l:=by funext x;exact Ji C τ l x
theorem A8 (l:Bool) (x:ByteArray):ah.val l x = .sc (.string x):=id rfl
theorem xa {α:Type} (C:di α) (fr:Bool) (h:Tr bo) (a:AV) (h1:a.known=true) (h2:a.isAgg=C.agg):C.fq fr h a=C.dec fr h a.cells:=by unfold di.fq;rw [h1,h2];simp
theorem aau (fr:Bool) (h:Tr bo) (n:UInt32):cw.fq fr h (.sc (.int .u32 n.toNat))=some n:=cw.Me fr h true n (fun _=>rfl)
theorem xf (fr:Bool) (h:Tr bo) (n:UInt16):cf.fq fr h (.sc (.int .u16 n.toNat))=some n:=cf.Me fr h true n (fun _=>rfl)
theorem Vx (k:IntKind) (fr:Bool) (h:Tr bo) (n:Int):(ba k).fq fr h (.sc (.int k n))=some n:=(ba k).Me fr h true n (fun _=>rfl)
theorem Ru (fr:Bool) (h:Tr bo) (b:Bool):bk.fq fr h (.sc (.bool b))=some b:=bk.Me fr h true b (fun _=>rfl)
theorem Xa (fr:Bool) (h:Tr bo) (s:ByteArray):ah.fq fr h (.sc (.string s))=some s:=ah.Me fr h true s (fun _=>rfl)
theorem Cp {α:Type} (C:di α) (fr:Bool) (h:Tr bo) (a:AV) (h1:a.known=true) (h2:a.isAgg=false) (h3:a.cells=[a]):(br C).fq fr h a=gy C fr h a:=by rw [xa _ _ _ _ h1 h2,h3];rfl
theorem aBv {α:Type} (C:di α) (fr:Bool) (h:Tr bo) (l:Bool) (xs:List α) (hl:(l || !fr)=true):(br C).fq fr h (.vl l C.sz (xs.map (C.val l)))=some xs:=by refine (br C).Me fr h l xs ?_;cases fr<;>simp_all
theorem ahv {α:Type} (C:di α) (fr:Bool) (h:Tr bo):gy C fr h (.sc (.slice none 0 0))=some []:=id rfl
theorem vw {α:Type} (C:di α) (fr:Bool) (h:Tr bo) (l:Bool) (xs:List α) (n:Nat) (hn:n=C.sz) (hl:(l || !fr)=true):gy C fr h (.vl l n (xs.map (C.val l)))=some xs:=by
 subst hn;have:(br C).fq fr h (.vl l C.sz (xs.map (C.val l)))=some xs:=aBv C fr h l xs hl
 rwa [Cp C fr h _ rfl rfl rfl] at this
theorem ant {α:Type} (C:di α) (fr:Bool) (h:Tr bo) (o off len n:Nat):gy C fr h (.sl o off len n)=bif decide (n=C.sz) then (h.get o).bind (kf C fr h off len) else none:=by show (bif Nat.beq n C.sz then _ else _)=_;rw [ap5]
theorem Wq {α:Type} (C:di α) (fr:Bool) (h:Tr bo) (off len:Nat) (cells:List AV) (k s:Nat) (e:TypeId) :
 kf C fr h off len (.row cells k s e)=bif decide (off+len * C.sz<=cells.length) && ze fr C.sz C.kd s off cells.length len e then yd C fr h len ((cells.drop off).take (len * C.sz)) else none:=by
 show (bif Nat.ble _ _ && _ then _ else _)=_;rw [awt]
theorem am7 (sz kd st off len n et):ze false sz kd st off len n et=true:=id rfl
theorem avv {α:Type} (C:di α) (fr:Bool) (h:Tr bo) (n:Nat) (l:List AV):yd C fr h (n+1) l=match C.dec fr h (l.take C.sz),yd C fr h n (l.drop C.sz) with|some x,some xs=>some (x::xs)|_,_=>none:=id rfl
theorem at0 {α:Type} (C:di α) (fr:Bool) (h:Tr bo) (l:List AV):yd C fr h 0 l=some []:=id rfl
theorem V9 (fr:Bool) (h:Tr bo) (n:Int) (h0 : 0<=n) (h1:n<256):bq.dec fr h [.sc (.int .u8 n)]=some (UInt8.ofNat n.toNat):=by show u8V (.int .u8 n)=_;simp [u8V,h0,h1]
theorem aD6 {α β:Type} (A:di α) (B:di β) (l:Bool) (p : α × β):(r2 A B).E l p = .gn [A.val l p.1,B.val l p.2]:=id rfl
theorem aD4 {α:Type} (A:di α) (l:Bool) (x : α):(r1 A).E l x=A.val l x:=id rfl
theorem afk (T:eh) (g:Nat) (a b:Array Value) (args:List AV):x6 T (.sc (.func (.func g) a b)) args=wc T g (a.toList.map .sc++args++b.toList.map .sc):=id rfl
theorem ae6 (T:eh) (g:Nat) (a b:List AV) (args:List AV):x6 T (.fn (.func g) a b) args=wc T g (a++args++b):=id rfl
theorem abe (f:Nat) (b:Bool) (m:List AV->M AV) (T:eh) (args:List AV):wc ((f,b,m)::T) f args=mono (m args):=by simp [wc,eh.find]
theorem Wo (f g:Nat) (b:Bool) (m:List AV->M AV) (T:eh) (args:List AV) (h:(f == g)=false):wc ((f,b,m)::T) g args=wc T g args:=by
 have:f≠g:=by simpa using h
 simp [wc,eh.find,qg this]
theorem aeg {α:Type} (A:AC α) (F : α->Option AV) (args:List AV) (st:St):ct A F args st=match A.get .nil args with|some x=>(F x).map fun r=>(r,st)|none=>match A.get st.h args with|some x=>(match F x with|some r=>bif r.fresh then some (r,st) else some (r,{ st with h:=.nil })|none=>none)|none=>none:=id rfl
theorem aD0 {α β:Type} (A:di α) (B:di β) (fr:Bool) (h:Tr bo) (a b:AV):(r2 A B).get fr h (.gn [a,b])=match A.fq fr h a,B.fq fr h b with|some x,some y=>some (x,y)|_,_=>none:=id rfl
theorem aEt (h:Tr bo):a0.get h []=some ():=id rfl
theorem aC6 {α β:Type} (C:di α) (R:AC β) (h:Tr bo) (a:AV) (r:List AV):(aC C R).get h (a::r)=match C.fq false h a,R.get h r with|some x,some y=>some (x,y)|_,_=>none:=id rfl
theorem aDu {α:Type} (A:di α) (fr:Bool) (h:Tr bo) (a:AV):(r1 A).get fr h a=A.fq fr h a:=id rfl
end cods
section
variable (P : Program)
theorem abd (pl:Nat->Option (Nat × Nat)) (cells:List AV):wg pl cells []=some cells:=id rfl
theorem Vh (pl:Nat->Option (Nat × Nat)) (cells:List AV) (i:Nat) (v:AV) (rest:List (Nat × AV)):wg pl cells ((i,v)::rest)=match pl i with
 |none=>none
 |some (off,size)=>bif !v.known || !(Nat.beq v.cells.length size) || !(Nat.ble (off+size) cells.length) then none else wg pl (cells.take off++v.cells++cells.drop (off+size)) rest:=id rfl
def xe (t:TypeId):Option (List AV × List (Nat × Nat)):=
 match fp P t,P.underlying t with
 |some z,some (.struct fields)=>(Ja P fields).map fun pl=>(z.cells.toList.map .sc,pl)
 |_,_=>none
theorem Wg (t:TypeId) (ps:List (Nat × AV)):Aa P t ps=match xe P t with
 |some (z,pl)=>.of ((wg (fun i=>pl[i]?) z ps).map .agg)
 |none=>Aa P t ps:=by
 cases hb:xe P t with
 |none=>rfl
 |some q=>
  obtain ⟨z,pl⟩:=q;simp only [xe] at hb
  split at hb
  ·rename_i z' fs hz hu;cases hp:Ja P fs with
   |none=>simp [hp] at hb
   |some zU=>
    simp [hp] at hb;obtain ⟨rfl,rfl⟩:=hb;simp [Aa,hz,hu,hp]
  ·cases hb
def Bp (t:TypeId):Option (TypeId × Nat × List AV):=
 match pw P t with
 |none=>none
 |some e=>
  match dt P e,fp P e with
  |some sz,some z=>bif Nat.beq z.cells.size sz then some (e,sz,z.cells.toList.map .sc) else none
  |_,_=>none
theorem Hk (t:TypeId) (len:Nat) (ps:List (Nat × AV)):o9 P t len ps=match Bp P t with
 |some (e,sz,z)=>
  match wg (fun i=>some (i * sz,sz)) (List.replicate len z).flatten ps with
  |some cells=>bif Nat.ble (len * sz) 16777216 && Nat.ble len 16777216 then ur e sz len cells else .fail
  |none=>.fail
 |none=>o9 P t len ps:=by
 cases hb:Bp P t with
 |none=>rfl
 |some q=>
  obtain ⟨e,sz,z⟩:=q;simp only [Bp] at hb
  split at hb
  ·cases hb
  ·rename_i e' he
   split at hb
   ·rename_i bC z' hs hz;cases hq:Nat.beq z'.cells.size bC with
    |false=>simp [hq] at hb
    |true=>
     simp [hq] at hb;obtain ⟨rfl,rfl,rfl⟩:=hb;simp only [o9,he,hs,hz,hq,Bool.and_true];rfl
   ·cases hb
end
section ranges
variable (P : Program) (T : eh) (l bb : Nat) (R : Ju) (Q : QI) (pe : Option Ex) (L : SL) (st : St)
theorem aiv (f:Operand) (ps:Array Tmp) (a b:Code) (Q:QL):wl P T bb (.rangeFunc f ps a b) Q L st=auu P T f ps.toList (fun p=>wl P T p a) (fun p=>wl P T p b) bb Q L st:=id rfl
theorem ah4:qd P T l R bb .skip Q pe L st=Q .normal pe L st:=id rfl
theorem Ug (i:Nat) (ops:Array Oper):qd P T l R bb (.region i ops false) Q pe L st=G1 P T l R bb ops ops.toList (Q .normal) pe L st:=id rfl
theorem amz (a b:Code):qd P T l R bb (.seq a b) Q pe L st=qd P T l R bb a (aer (qd P T l R bb b) Q) pe L st:=id rfl
theorem aio (c:Operand) (a b:Code):qd P T l R bb (.cond c a b) Q pe L st=Dt (dw L c) (qd P T l R bb a Q) (qd P T l R bb b Q) pe L st:=id rfl
theorem abk (i:Nat) (a:Code):qd P T l R bb (.block i a) Q pe L st=qd P T l R bb a (Tq i Q) pe L st:=id rfl
theorem ahi (i:Nat):qd P T l R bb (.exit i) Q pe L st=Q (.exit i) pe L st:=id rfl
theorem ame:qd P T l R bb .ret Q pe L st=Q .ret pe L st:=id rfl
theorem aui (W:QI->Option Ex->SL->St->Prop):aer W Q .normal pe L st=W Q pe L st:=id rfl
theorem at1 (W:QI->Option Ex->SL->St->Prop) (i:Nat):aer W Q (.exit i) pe L st=Q (.exit i) pe L st:=id rfl
theorem au8 (W:QI->Option Ex->SL->St->Prop):aer W Q .ret pe L st=Q .ret pe L st:=id rfl
theorem avu (i:Nat):Tq i Q .normal pe L st=Q .normal pe L st:=id rfl
theorem av8 (i:Nat):Tq i Q .ret pe L st=Q .ret pe L st:=id rfl
theorem ath (i j:Nat):Tq i Q (.exit j) pe L st=if j=i then Q .normal pe L st else Q (.exit j) pe L st:=by show (bif Nat.beq j i then _ else _)=_;rw [ap5];by_cases h:j=i<;>simp [h]
theorem al6 (Q':QL):Cg Q' Q .normal pe L st=(pe=none/\Q' .normal L st):=id rfl
theorem anf (Q':QL) (i:Nat):Cg Q' Q (.exit i) pe L st=Q (.exit i) pe L st:=id rfl
theorem ank (Q':QL):Cg Q' Q .ret pe L st=Q .ret pe L st:=id rfl
theorem al4 (Q:QL) (L0:SL):aec Q L0 .normal none L st=Q .normal L0 st:=id rfl
theorem ang (Q:QL) (L0:SL) (e:Ex):aec Q L0 .ret (some e) L st=Q e L0 st:=id rfl
theorem ag3 (ops:Array Oper) (K:Option Ex->SL->St->Prop):G1 P T l R bb ops [] K pe L st=K pe L st:=id rfl
theorem aac (ops:Array Oper) (o:Oper) (r:List Oper) (K:Option Ex->SL->St->Prop):G1 P T l R bb ops (o::r) K pe L st=K0 ops o.guard (opI P T l R bb o (G1 P T l R bb ops r K)) (Ys o.dst (G1 P T l R bb ops r K)) pe L st:=id rfl
theorem Wy (ops:Array Oper) (X Y:Option Ex->SL->St->Prop):K0 ops none X Y pe L st=X pe L st:=id rfl
theorem Wd (ops:Array Oper) (j:Nat) (c:Bool) (X Y:Option Ex->SL->St->Prop):K0 ops (some (j,c)) X Y pe L st=aeu (lk L (wi ops j)) c X Y pe L st:=id rfl
theorem af7 (b:Bool) (X Y:Option Ex->SL->St->Prop):aeu (.sc (.bool b)) true X Y pe L st=Dt (.sc (.bool b)) X Y pe L st:=by cases b<;>simp [aeu,Bk,D6,H9,Dt,re,AV.bool,AV.exact,pf]
theorem amv (X Y:Option Ex->SL->St->Prop):Dt (.sc (.bool true)) X Y pe L st=X pe L st:=by simp [Dt,re,AV.bool,AV.exact,pf]
theorem alu (X Y:Option Ex->SL->St->Prop):Dt (.sc (.bool false)) X Y pe L st=Y pe L st:=by simp [Dt,re,AV.bool,AV.exact,pf]
theorem xz (b:Bool) (X Y:Option Ex->SL->St->Prop):Dt (.sc (.bool b)) X Y pe L st=((b=true->X pe L st)/\(b=false->Y pe L st)):=by simp [Dt,re,AV.bool,AV.exact,pf]
theorem Ux (d:Option Tmp) (K:Option Ex->SL->St->Prop):Ys d K pe L st=K pe (oq d (.sc undef) L) st:=id rfl
theorem ar3 (o:Oper) (K:Option Ex->SL->St->Prop):opI P T l R bb o K pe L st=Yd P T R bb o K pe L st (yieldOf l o L):=id rfl
theorem ate (o:Oper) (K:Option Ex->SL->St->Prop):Yd P T R bb o K pe L st none=Jy (gz P T o (dw L) st) o.dst L (K pe):=id rfl
theorem afy (d:Option Tmp) (K:Option Ex->SL->St->Prop):aff d L K .normal st=K none (oq d (.sc (.bool true)) L) st:=id rfl
theorem afl (d:Option Tmp) (K:Option Ex->SL->St->Prop):aff d L K .ret st=K (some .ret) (oq d (.sc (.bool false)) L) st:=id rfl
theorem al9 (B:QL->SL->St->Prop) (X:Ex->St->Prop):azq B X .normal L st=B (fun e _ st=>X e st) L st:=id rfl
theorem aal (k:Nat) (va vb:Array Value):Dk l (.sc (.func (.yield k) va vb))=(Nat.beq k l && Nat.beq va.size 0 && Nat.beq vb.size 0):=id rfl
theorem Sc:C7 [] [] L=L:=id rfl
theorem Nl (t:Nat) (ts:List Nat) (v:AV) (vs:List AV):C7 (t::ts) (v::vs) L=C7 ts vs ((t,v)::L):=id rfl
theorem axz {α:Type} {b:Code} (keep:List Nat) (V : α->List AV) (O : α->List (Option bo)) (I : α->Prop) (μ : α->Nat) (x : α) (hx:I x) (hR:∀ p args (X X':Ex->St->Prop) st,(∀ e st,X e st->X' e st)->R p args X st->R p args X' st)
 (hv:ij bb keep L st=V x) (ho:fl bb keep L st=O x)
 (step:∀ x,I x->qd P T l R bb b (Cg (xl bb keep (fun vs os=>∃ y,I y /\ μ y < μ x/\vs=V y/\os=O y) (fun _ _ _=>False)) Q) none (iz keep (V x)) (bh (O x))):qd P T l R bb (.loop b) Q none L st:=
 ⟨rfl,tx.of (B:=fun Q' L st=>qd P T l R bb b (Cg Q' Q) none L st) keep V O I μ x hx hv ho (fun Q1 Q2 h L st hh=>T5 hR b _ _ (fun e pe L st q=>by
  cases e with
  |normal=>exact ⟨q.1,h _ _ _ q.2⟩
  |ret=>exact q
  |exit i=>exact q) none L st hh) step⟩
theorem Ra {ps:List Tmp} {a b:Code} {L0:SL}:∀ p args (X X':Ex->St->Prop) st,(∀ e st,X e st->X' e st)->oi ps (fun p=>wl P T p a) (fun p=>wl P T p b) L0 p args X st->oi ps (fun p=>wl P T p a) (fun p=>wl P T p b) L0 p args X' st:=
 fun p args X X' st hX hr=>⟨hr.1,hr.2.1,C3 _ _ _ (fun e L st q=>by
  cases e with
  |normal=>exact C3 _ _ _ (fun e _ st q=>hX e st q) _ _ q
  |_=>exact q.elim) _ _ hr.2.2⟩
end ranges
section yields
variable {lp : Nat} {L : SL} {d : Option Tmp} {ty : TypeId} {pos : String} {af : Array Edge} {gd : Option (Nat × Bool)}
theorem Om (x):yieldOf lp ⟨d,.move x,ty,pos,af,gd⟩ L=none:=id rfl
theorem Jk (x):yieldOf lp ⟨d,.assign x,ty,pos,af,gd⟩ L=none:=id rfl
theorem Pf (t a):yieldOf lp ⟨d,.load t a,ty,pos,af,gd⟩ L=none:=id rfl
theorem Fe (s x f):yieldOf lp ⟨d,.fieldAddr s x f,ty,pos,af,gd⟩ L=none:=id rfl
theorem Mc (op t x y u):yieldOf lp ⟨d,.binOp op t x y u,ty,pos,af,gd⟩ L=none:=id rfl
theorem Ng (c a b):yieldOf lp ⟨d,.pick c a b,ty,pos,af,gd⟩ L=none:=id rfl
theorem Mo (t a x):yieldOf lp ⟨d,.store t a x,ty,pos,af,gd⟩ L=none:=id rfl
theorem Ff (t x i):yieldOf lp ⟨d,.indexAddr t x i,ty,pos,af,gd⟩ L=none:=id rfl
theorem Mj (t):yieldOf lp ⟨d,.alloc t,ty,pos,af,gd⟩ L=none:=id rfl
theorem Mz (op t x):yieldOf lp ⟨d,.unOp op t x,ty,pos,af,gd⟩ L=none:=id rfl
theorem Sx (x ts):yieldOf lp ⟨d,.call { callee:=.builtin .len,args:=#[x],argTypes:=ts },ty,pos,af,gd⟩ L=none:=id rfl
theorem Nm (f:Operand) (args:Array Operand) (ts:Array TypeId):yieldOf lp ⟨d,.call { callee:=.value f,args:=args,argTypes:=ts },ty,pos,af,gd⟩ L=bif Dk lp (dw L f) then some args else none:=id rfl
end yields
end
variable [TK]
noncomputable section
abbrev Name:=List ByteArray
structure cj where
 names:List Name
 nums:List UInt32
 texts:List ByteArray
 raw:List UInt8
def mkD (a:List Name) (b:List UInt32) (c:List ByteArray) (e:List UInt8):cj:=⟨a,b,c,e⟩
theorem alz (d:cj):mkD d.names d.nums d.texts d.raw=d:=id rfl
noncomputable def ak:di Name:=br ah
noncomputable def bc:di cj:=yj (kn (br ak) (kn (br cw) (kn ak (br bq)))) (fun d=>(d.names,d.nums,d.texts,d.raw)) (fun p=>⟨p.1,p.2.1,p.2.2.1,p.2.2.2⟩) (fun _=>rfl) (fun _=>rfl)
theorem bw (l:Bool) (n:Name):ak.val l n = .vl l 1 (n.map (ah.val l)):=id rfl
theorem sy:ak.sz=1:=id rfl
theorem Xs:bc.sz=4:=id rfl
theorem gq (l:Bool) (d:cj):bc.val l d = .agg [.vl l 1 (d.names.map (ak.val l)),.vl l 1 (d.nums.map (cw.val l)),.vl l 1 (d.texts.map (ah.val l)),.vl l 1 (d.raw.map (bq.val l))]:=id rfl
theorem Sz (fr:Bool) (h:Tr bo) (x1 x2 x3 x4:AV) :
 bc.fq fr h (.agg [x1,x2,x3,x4])=match gy ak fr h x1,gy cw fr h x2,gy ah fr h x3,gy bq fr h x4 with
  |some a,some b,some c,some e=>some (mkD a b c e)
  |_,_,_,_=>none:=by
 rw [xa _ _ _ _ rfl rfl];have h1:bc.dec fr h (AV.agg [x1,x2,x3,x4]).cells=Option.map (fun p=>(⟨p.1,p.2.1,p.2.2.1,p.2.2.2⟩:cj)) ((kn (br ak) (kn (br cw) (kn ak (br bq)))).dec fr h [x1,x2,x3,x4]):=rfl;have d2:∀ {α β:Type} (A:di α) (B:di β) (l:List AV),(kn A B).dec fr h l=match A.dec fr h (l.take A.sz),B.dec fr h (l.drop A.sz) with|some x,some y=>some (x,y)|_,_=>none:=fun _ _ _=>rfl
 have l1:∀ {α:Type} (C:di α) (x:AV),(br C).dec fr h [x]=gy C fr h x:=fun _ _=>rfl
 have n1:∀ x,ak.dec fr h [x]=gy ah fr h x:=fun _=>rfl
 rw [h1];simp only [d2,Aj,sy,List.take_succ_cons,List.take_zero,List.drop_succ_cons,List.drop_zero,l1,n1];cases gy ak fr h x1<;>cases gy cw fr h x2<;>cases gy ah fr h x3<;>cases gy bq fr h x4<;>rfl
theorem N2 {α:Type} (C:di α) (fr:Bool) (h:Tr bo) (l:Bool) (n:Nat) (es:List AV):(br C).fq fr h (.vl l n es)=gy C fr h (.vl l n es):=Cp C fr h _ rfl rfl rfl
theorem Np {α:Type} (C:di α) (fr:Bool) (h:Tr bo) (o off len n:Nat):(br C).fq fr h (.sl o off len n)=gy C fr h (.sl o off len n):=Cp C fr h _ rfl rfl rfl
theorem E7 {α:Type} (C:di α) (fr:Bool) (h:Tr bo):(br C).fq fr h (.sc (.slice none 0 0))=some []:=by rw [Cp C fr h _ rfl rfl rfl];rfl
theorem Ia (fr:Bool) (h:Tr bo) (l:Bool) (n:Nat) (es:List AV):ak.fq fr h (.vl l n es)=gy ah fr h (.vl l n es):=Cp ah fr h _ rfl rfl rfl
theorem Ic (fr:Bool) (h:Tr bo) (o off len n:Nat):ak.fq fr h (.sl o off len n)=gy ah fr h (.sl o off len n):=Cp ah fr h _ rfl rfl rfl
theorem Gz (fr:Bool) (h:Tr bo):ak.fq fr h (.sc (.slice none 0 0))=some []:=E7 ah fr h
theorem Gx (l:List UInt8):l.map C5=l.map (bq.val false):=id rfl
theorem Nh {α:Type} (C:di α) (b:Bool) (l:List α):AV.names.go (l.map (C.val b))=[]:=Ih (fun c hc=>by obtain ⟨x,_,rfl⟩:=zyj.1 hc;exact O0 C b x)
theorem yh:∀ (l:List UInt8) (b:Bool),bytesOf (l.map (bq.val b))=some l
 | [],_=>rfl
 |c::l,b=>by rw [List.map_cons,E5,bytesOf,yh l b];simp
end
end Go.Vm
section
namespace Go.Vm.Cx
open Go.Vm
variable [TK]
noncomputable section
theorem Zt {P:Program} (w:World):∀ (ns:List Int) (a:Addr) (i:Nat) (acc:ByteArray),(∀ (j:Nat) x,ns[j]? = some x->(load (a.add (i+j))).run P w = .ok (.int .u8 x) w) ->
 (Extern.Bytes.loadBytes (a.add i) ns.length acc).run P w = .ok ⟨acc.data++(ns.map fun n=>UInt8.ofNat n.toNat).toArray⟩ w
 | [],a,i,acc,_=>by simp [Extern.Bytes.loadBytes]
 |x::l,a,i,acc,h=>by
  have h0:=h 0 x rfl;rw [Nat.add_zero] at h0;have e:(a.add i).add 1=a.add (i+1):=by
   unfold Addr.add;by_cases hj:i=0
   ·subst hj;simp
   ·simp [hj];omega
  have ih:=Zt (P:=P) w l a (i+1) (acc.push x.toNat.toUInt8) (fun j y hy=>by have:=h (j+1) y (by simpa using hy);rw [show i+1+j=i+(j+1) from by omega];exact this)
  simp only [List.length_cons,Extern.Bytes.loadBytes,Sem.run_bind,h0,Result.andThen];rw [e,ih]
  congr 1
  apply ByteArray.ext;simp [ByteArray.push,Nat.toUInt8]
theorem aB8 {l:List Int} {l':List Value} (h:l'=l.map (Value.int .u8)) (j:Nat) (x:Int) (hx:l[j]? = some x):l'[j]? = some (.int .u8 x):=by rw [h,zzj,hx];rfl
theorem abx {P:Program} {g st gi w} {a:AV} {v:Value} {l:List AV} {bs:List UInt8} (aB:Ok g st.h w) (hr:Rel g w a v) (h:cellsIn 1 a st=some (l,gi)) (hb:bytesOf l=some bs) :
 (Extern.Bytes.bytesOf v).run P w = .ok ⟨bs.toArray⟩ w:=by
 obtain ⟨_,_,n,news,bN,hrl⟩:=Bz (P:=P) aB hr h;obtain ⟨ns,e1,e2⟩:=Km _ _ _ hrl hb;obtain ⟨r1,r2⟩:=bN.run w rfl;cases v with
 |slice p len cap=>
  have hn:n=len:=by simp [Builtin.lenOf] at r1;exact r1.symm
  subst hn;cases p with
  |none=>
   have:news=[]:=by simpa [Builtin.firstCells] using r2
   subst this;have:ns=[]:=by simpa using e1.symm
   subst this;subst e2;rfl
  |some a=>
   simp only [Builtin.firstCells,Nat.mul_one] at r2;unfold loadCells at r2;obtain ⟨l',q1,q2,q3⟩:=loadCellsFrom_ok a n 0 #[] _ _ r2;have hl':l'=news:=by simpa using q2.symm
   subst hl';have hlen:ns.length=n:=by rw [<- q1,e1,zzo]
   have:=Zt (P:=P) w ns a 0 .empty (fun j x hx=>by exact q3 j _ (aB8 e1 j x hx))
   rw [hlen] at this;have e0:a.add 0=a:=by simp [Addr.add]
   rw [e0] at this;show (Extern.Bytes.loadBytes a n .empty).run P w=_;rw [this,e2]
   congr 2
   simp [ByteArray.empty,ByteArray.emptyWithCapacity];rfl
 |string s=>
  have hn:n=s.size:=by simp [Builtin.lenOf] at r1;exact r1.symm
  subst hn;simp only [Builtin.firstCells,Sem.run_pure,Result.ok.injEq,and_true] at r2;have h1:=congrArg Array.toList r2;rw [e1] at h1;show Result.ok s w=_
  congr 1
  apply ByteArray.ext;apply Array.ext';rw [e2];have h2:=congrArg (List.map fun v:Value=>match v with|.int _ n=>UInt8.ofNat n.toNat|_=>0) h1;simp only [List.map_map,Array.toList_map] at h2;have h3:(s.extract 0 s.size).data.toList=s.data.toList:=by simp
  rw [h3] at h2;have h4:(List.map ((fun v:Value=>match v with|.int _ n=>UInt8.ofNat n.toNat|_=>0) ∘ fun b:UInt8=>Value.int .u8 (b.toNat:Int)) s.data.toList)=s.data.toList:=by rw [show ((fun v:Value=>match v with|.int _ n=>UInt8.ofNat n.toNat|_=>0) ∘ fun b:UInt8=>Value.int .u8 (b.toNat:Int))=id from by funext b;simp];simp
  rw [h4] at h2;rw [h2];simp
 |_=>simp [Builtin.lenOf,stuck] at r1
def aG9 (args:List AV):M AV:=
 match args with
 | [a]=>.pure a
 |_=>.fail
def qa (args:List AV):M AV:=
 match args with
 | [a,b]=>(cellsIn 1 a).bind fun x=>(cellsIn 1 b).bind fun y=>
  match bytesOf x with
  |some x=>
   match bytesOf y with
   |some y=>.pure (.sc (goInt (Lib.compareBytes x y)))
   |none=>.fail
  |none=>.fail
 |_=>.fail
def kj {α:Type} (m:M α):Prop:=∀ st v gi,m st=some (v,gi)->gi.h=st.h/\gi.nx=st.nx
theorem kj.pure {α:Type} (a : α):kj (M.pure a):=fun st v gi h=>by cases h;exact ⟨rfl,rfl⟩
theorem kj.fail {α:Type}:kj (M.fail:M α):=fun st v gi h=>by cases h
theorem kj.bind {α β:Type} {m:M α} {f : α->M β} (hm:kj m) (h:∀ x,kj (f x)):kj (m.bind f):=fun st v gi hb=>by obtain ⟨x,s1,h1,h2⟩:=bind_some hb;have h3:=hm _ _ _ h1;have h4:=h x _ _ _ h2;exact ⟨h4.1.trans h3.1,h4.2.trans h3.2⟩
theorem kj.ef (id:Nat):kj (Vm.ef id):=fun BH _v yZ h=>(iu h).2
theorem kj.cond {α:Type} {b:Bool} {x y:M α} (hx:kj x) (hy:kj y):kj (bif b then x else y):=by cases b<;>assumption
theorem kj.cellsIn (sz:Nat) (v:AV):kj (Vm.cellsIn sz v):=by
 unfold Vm.cellsIn Lq
 repeat' (first|exact kj.pure _|exact kj.fail|apply kj.cond|(refine kj.bind (kj.ef _) fun x=>?_)|split)
theorem X5 (args:List AV):kj (qa args):=by
 unfold qa;split
 ·exact kj.bind (kj.cellsIn _ _) fun x=>kj.bind (kj.cellsIn _ _) fun y=>by
   split
   ·split
    ·exact kj.pure _
    ·exact kj.fail
   ·exact kj.fail
 ·exact kj.fail
theorem Pv {P:Program} {f:Nat} {fn:Func} (hf:P.funcs[f]? = some fn) (h1:(fn.name == "runtime.NumGoroutine")=false) (h2:fn.body.isNone=true) (h3:Extern.findNext fn=none) (h4:Extern.find fn=some Extern.BytealgCompare.compare) (args:List AV) :
 Ca P f args (qa args):=by
 intro g st w vs r aA aB bF hrel hm;refine .inl ?_;have hst:=X5 _ _ _ _ hm;unfold qa at hm
 split at hm
 ·rename_i a c;obtain ⟨x,s1,e1,hm⟩:=bind_some hm;obtain ⟨y,s2,e2,hm⟩:=bind_some hm;cases hx:bytesOf x with
  |none=>rw [hx] at hm;cases hm
  |some bx=>
  cases hy:bytesOf y with
  |none=>rw [hx,hy] at hm;cases hm
  |some yb=>
  rw [hx,hy] at hm;cases hm;have hh:=kj.cellsIn _ _ _ _ _ e1
  match vs,hrel with
  | [v,u],hrel=>
   have r1:=abx (P:=P) aB hrel.head e1 hx;have r2:=abx (P:=P) (st:=s1) (by rw [hh.1];exact aB) hrel.tail.head e2 hy;refine ⟨goInt (Lib.compareBytes bx yb),w,g,?_,?_,?_,.sc _⟩
   ·rw [run_callFunc_extern hf h1 h2 h3 h4];have:(Extern.BytealgCompare.compare #[v,u]).run P w = .ok (goInt (Lib.compareBytes bx yb)) w:=by
     change Sem.run P (do pure (goInt (Extern.BytealgCompare.cmp (<- Extern.Bytes.bytesOf v) (<- Extern.Bytes.bytesOf u)))) w=_;simp only [Sem.run_bind,r1,r2,Result.andThen,Sem.run_pure];rw [Lib.cmp_eq]
    show ((Extern.BytealgCompare.compare #[v,u]).run P w).andThen _=_;rw [this];rfl
   ·rw [hst.1,hst.2];exact .refl _ _ _ _ _
   ·rw [hst.1];exact aB
  | [],hrel=>have:=hrel.1;simp at this
  | [v],hrel=>have:=hrel.1;simp at this
  |_::_::_::_,hrel=>have:=hrel.1;simp at this
 ·cases hm
end
end Go.Vm.Cx
end
section
set_option linter.unnecessarySimpa false
namespace Go.Vm
variable [TK]
noncomputable section
def roT (o:Option (Bool × (List AV->M AV))):Bool:=match o with|some (b,_)=>b|none=>false
theorem az8 (b m):roT (some (b,m))=b:=id rfl
theorem eu {o:Oper} {L:SL} {x:Operand} (h:x ∈ o.op.operands):dj o L x=dw L x:=by
 cases x with
 |tmp t=>
  show (bif o.op.operands.any (fun x=>match x with|.tmp u=>Nat.beq u t|_=>false) then lk L t else .bad)=lk L t;have:o.op.operands.any (fun x=>match x with|.tmp u=>Nat.beq u t|_=>false)=true:=by rw [Array.any_eq_true'];exact ⟨_,h,by simp⟩
  rw [this];rfl
 |const v=>rfl
 |global g=>rfl
 |func f=>rfl
theorem gu {o:Oper} {L:SL} {l:List Operand} (h:∀ x ∈ l,x ∈ o.op.operands):l.map (dj o L)=l.map (dw L):=List.map_congr_left fun x hx=>eu (h x hx)
theorem Sq {o:Oper} {L:SL} {l:List (Nat × Operand)} (h:∀ x ∈ l,x.2 ∈ o.op.operands):l.map (fun p=>(p.1,dj o L p.2))=l.map (fun p=>(p.1,dw L p.2)):=List.map_congr_left fun x hx=>by rw [eu (h x hx)]
def fo (ro:Bool) (F:List Nat) (o:Oper) (recs:List Rec) (K:List Rec->SL->St->Prop) (L:SL) (st:St) (m:M AV):Prop:=Gb ro F o recs K L st (m { h:=j7 st.h F,nx:=st.nx,rl:=[],wl:=[] })
theorem Zx (ro F o recs K L st m):fo ro F o recs K L st m=Gb ro F o recs K L st (m { h:=j7 st.h F,nx:=st.nx,rl:=[],wl:=[] }):=id rfl
section ops
variable (P : Program) (T : eh) (L : SL) (st : St) (recs : List Rec) (K : List Rec -> SL -> St -> Prop) (d : Option Tmp) (ty : TypeId) (pos : String) (af : Array Edge) (gd : Option (Nat × Bool))
theorem ae2 (x):fv P T ⟨d,.move x,ty,pos,af,gd⟩ recs K L st=fo (true) ([]) ⟨d,.move x,ty,pos,af,gd⟩ recs K L st (mono (M.pure (dw L x))):=by
 unfold fv kz lq fo;simp only [jo,cond_true];have hm:∀ y,y ∈ ([x]:List Operand)->dj ⟨d,.move x,ty,pos,af,gd⟩ L y=dw L y:=fun y hy=>eu (by simpa [Op.operands,Call.operands] using hy)
 have hmap:([x]:List Operand).map (dj ⟨d,.move x,ty,pos,af,gd⟩ L)=([x]:List Operand).map (dw L):=gu (fun y hy=>by simpa [Op.operands,Call.operands] using hy);have ho:(⟨d,.move x,ty,pos,af,gd⟩:Oper).op.operands.toList=[x]:=by simp [Op.operands,Call.operands]
 rw [Kz,hm x (by simp)];rfl
theorem U1 (x):fv P T ⟨d,.assign x,ty,pos,af,gd⟩ recs K L st=fo (true) ([]) ⟨d,.assign x,ty,pos,af,gd⟩ recs K L st (mono (M.pure (dw L x))):=by
 unfold fv kz lq fo;simp only [jo,cond_true];have hm:∀ y,y ∈ ([x]:List Operand)->dj ⟨d,.assign x,ty,pos,af,gd⟩ L y=dw L y:=fun y hy=>eu (by simpa [Op.operands,Call.operands] using hy)
 have hmap:([x]:List Operand).map (dj ⟨d,.assign x,ty,pos,af,gd⟩ L)=([x]:List Operand).map (dw L):=gu (fun y hy=>by simpa [Op.operands,Call.operands] using hy);have ho:(⟨d,.assign x,ty,pos,af,gd⟩:Oper).op.operands.toList=[x]:=by simp [Op.operands,Call.operands]
 rw [He,hm x (by simp)];rfl
theorem ag4 (t a):fv P T ⟨d,.load t a,ty,pos,af,gd⟩ recs K L st=fo (true) ((dw L a).names) ⟨d,.load t a,ty,pos,af,gd⟩ recs K L st (mono (ta P t (dw L a))):=by
 unfold fv kz lq fo;simp only [jo,cond_false];have hm:∀ y,y ∈ ([a]:List Operand)->dj ⟨d,.load t a,ty,pos,af,gd⟩ L y=dw L y:=fun y hy=>eu (by simpa [Op.operands,Call.operands] using hy)
 have hmap:([a]:List Operand).map (dj ⟨d,.load t a,ty,pos,af,gd⟩ L)=([a]:List Operand).map (dw L):=gu (fun y hy=>by simpa [Op.operands,Call.operands] using hy);have ho:(⟨d,.load t a,ty,pos,af,gd⟩:Oper).op.operands.toList=[a]:=by simp [Op.operands,Call.operands]
 rw [Ly,hm a (by simp)];rfl
theorem Md (s x f):fv P T ⟨d,.fieldAddr s x f,ty,pos,af,gd⟩ recs K L st=fo (true) ([]) ⟨d,.fieldAddr s x f,ty,pos,af,gd⟩ recs K L st (mono (tj P s (dw L x) f)):=by
 unfold fv kz lq fo;simp only [jo,cond_true];have hm:∀ y,y ∈ ([x]:List Operand)->dj ⟨d,.fieldAddr s x f,ty,pos,af,gd⟩ L y=dw L y:=fun y hy=>eu (by simpa [Op.operands,Call.operands] using hy)
 have hmap:([x]:List Operand).map (dj ⟨d,.fieldAddr s x f,ty,pos,af,gd⟩ L)=([x]:List Operand).map (dw L):=gu (fun y hy=>by simpa [Op.operands,Call.operands] using hy);have ho:(⟨d,.fieldAddr s x f,ty,pos,af,gd⟩:Oper).op.operands.toList=[x]:=by simp [Op.operands,Call.operands]
 rw [B0,hm x (by simp)];rfl
theorem abw (op t x y u):fv P T ⟨d,.binOp op t x y u,ty,pos,af,gd⟩ recs K L st=fo (true) ([]) ⟨d,.binOp op t x y u,ty,pos,af,gd⟩ recs K L st (mono (Lf P (dj ⟨d,.binOp op t x y u,ty,pos,af,gd⟩ L) ⟨d,.binOp op t x y u,ty,pos,af,gd⟩ op t x y)):=by
 unfold fv kz lq fo;simp only [jo,cond_true];have hm:∀ y,y ∈ ([x,y]:List Operand)->dj ⟨d,.binOp op t x y u,ty,pos,af,gd⟩ L y=dw L y:=fun y hy=>eu (by simpa [Op.operands,Call.operands] using hy)
 have hmap:([x,y]:List Operand).map (dj ⟨d,.binOp op t x y u,ty,pos,af,gd⟩ L)=([x,y]:List Operand).map (dw L):=gu (fun y hy=>by simpa [Op.operands,Call.operands] using hy);have ho:(⟨d,.binOp op t x y u,ty,pos,af,gd⟩:Oper).op.operands.toList=[x,y]:=by simp [Op.operands,Call.operands]
 rfl
theorem agr (c a b):fv P T ⟨d,.pick c a b,ty,pos,af,gd⟩ recs K L st=fo (true) ([]) ⟨d,.pick c a b,ty,pos,af,gd⟩ recs K L st (mono (Gr (dw L c) (dw L a) (dw L b))):=by
 unfold fv kz lq fo;simp only [jo,cond_true];have hm:∀ y,y ∈ ([c,a,b]:List Operand)->dj ⟨d,.pick c a b,ty,pos,af,gd⟩ L y=dw L y:=fun y hy=>eu (by simpa [Op.operands,Call.operands] using hy)
 have hmap:([c,a,b]:List Operand).map (dj ⟨d,.pick c a b,ty,pos,af,gd⟩ L)=([c,a,b]:List Operand).map (dw L):=gu (fun y hy=>by simpa [Op.operands,Call.operands] using hy);have ho:(⟨d,.pick c a b,ty,pos,af,gd⟩:Oper).op.operands.toList=[c,a,b]:=by simp [Op.operands,Call.operands]
 rw [Lu,hm c (by simp),hm a (by simp),hm b (by simp)];rfl
theorem Z8 (t a x):fv P T ⟨d,.store t a x,ty,pos,af,gd⟩ recs K L st=fo (false) ((dw L a).names) ⟨d,.store t a x,ty,pos,af,gd⟩ recs K L st (mono (x5 P t (dw L a) (dw L x))):=by
 unfold fv kz lq fo;simp only [jo,cond_false];have hm:∀ y,y ∈ ([a,x]:List Operand)->dj ⟨d,.store t a x,ty,pos,af,gd⟩ L y=dw L y:=fun y hy=>eu (by simpa [Op.operands,Call.operands] using hy)
 have hmap:([a,x]:List Operand).map (dj ⟨d,.store t a x,ty,pos,af,gd⟩ L)=([a,x]:List Operand).map (dw L):=gu (fun y hy=>by simpa [Op.operands,Call.operands] using hy);have ho:(⟨d,.store t a x,ty,pos,af,gd⟩:Oper).op.operands.toList=[a,x]:=by simp [Op.operands,Call.operands]
 rw [Iq,hm a (by simp),hm x (by simp)];rfl
theorem Mu (t x i):fv P T ⟨d,.indexAddr t x i,ty,pos,af,gd⟩ recs K L st=fo (true) ([]) ⟨d,.indexAddr t x i,ty,pos,af,gd⟩ recs K L st (mono (tk P t (dw L x) (dw L i))):=by
 unfold fv kz lq fo;simp only [jo,cond_true];have hm:∀ y,y ∈ ([x,i]:List Operand)->dj ⟨d,.indexAddr t x i,ty,pos,af,gd⟩ L y=dw L y:=fun y hy=>eu (by simpa [Op.operands,Call.operands] using hy)
 have hmap:([x,i]:List Operand).map (dj ⟨d,.indexAddr t x i,ty,pos,af,gd⟩ L)=([x,i]:List Operand).map (dw L):=gu (fun y hy=>by simpa [Op.operands,Call.operands] using hy);have ho:(⟨d,.indexAddr t x i,ty,pos,af,gd⟩:Oper).op.operands.toList=[x,i]:=by simp [Op.operands,Call.operands]
 rw [B4,hm x (by simp),hm i (by simp)];rfl
theorem Ov (x):fv P T ⟨d,.nilCheck x,ty,pos,af,gd⟩ recs K L st=fo (true) ([]) ⟨d,.nilCheck x,ty,pos,af,gd⟩ recs K L st (mono (ql (dw L x))):=by
 unfold fv kz lq fo;simp only [jo,cond_true];have hm:∀ y,y ∈ ([x]:List Operand)->dj ⟨d,.nilCheck x,ty,pos,af,gd⟩ L y=dw L y:=fun y hy=>eu (by simpa [Op.operands,Call.operands] using hy)
 have hmap:([x]:List Operand).map (dj ⟨d,.nilCheck x,ty,pos,af,gd⟩ L)=([x]:List Operand).map (dw L):=gu (fun y hy=>by simpa [Op.operands,Call.operands] using hy);have ho:(⟨d,.nilCheck x,ty,pos,af,gd⟩:Oper).op.operands.toList=[x]:=by simp [Op.operands,Call.operands]
 rw [De,hm x (by simp)];rfl
theorem Z5 (t):fv P T ⟨d,.alloc t,ty,pos,af,gd⟩ recs K L st=fo (true) (reach st.h fj [] []) ⟨d,.alloc t,ty,pos,af,gd⟩ recs K L st (mono (Cm P t)):=by
 unfold fv kz lq fo;simp only [jo,cond_false];have hm:∀ y,y ∈ ([]:List Operand)->dj ⟨d,.alloc t,ty,pos,af,gd⟩ L y=dw L y:=fun y hy=>eu (by simpa [Op.operands,Call.operands] using hy)
 have hmap:([]:List Operand).map (dj ⟨d,.alloc t,ty,pos,af,gd⟩ L)=([]:List Operand).map (dw L):=gu (fun y hy=>by simpa [Op.operands,Call.operands] using hy);have ho:(⟨d,.alloc t,ty,pos,af,gd⟩:Oper).op.operands.toList=[]:=by simp [Op.operands,Call.operands]
 rw [ho,hmap];rfl
theorem ab4 (t ps):fv P T ⟨d,.build t ps,ty,pos,af,gd⟩ recs K L st=fo (true) (reach st.h fj (AV.names.go ((ps.toList.map (·.2)).map (dw L))) []) ⟨d,.build t ps,ty,pos,af,gd⟩ recs K L st (mono (Aa P t (ps.toList.map fun p=>(p.1,dw L p.2)))):=by
 unfold fv kz lq fo;simp only [jo,cond_false];have hm:∀ y,y ∈ ((ps.toList.map (·.2)):List Operand)->dj ⟨d,.build t ps,ty,pos,af,gd⟩ L y=dw L y:=fun y hy=>eu (by simpa [Op.operands,Call.operands] using hy)
 have hmap:((ps.toList.map (·.2)):List Operand).map (dj ⟨d,.build t ps,ty,pos,af,gd⟩ L)=((ps.toList.map (·.2)):List Operand).map (dw L):=gu (fun y hy=>by simpa [Op.operands,Call.operands] using hy);have ho:(⟨d,.build t ps,ty,pos,af,gd⟩:Oper).op.operands.toList=(ps.toList.map (·.2)):=by simp [Op.operands,Call.operands]
 rw [ho,hmap];rw [Io,Sq (fun x hx=>by simp [Op.operands];exact ⟨_,by simpa using hx⟩)];rfl
theorem I1 (t n ps):fv P T ⟨d,.buildSlice t n ps,ty,pos,af,gd⟩ recs K L st=fo (true) (reach st.h fj (AV.names.go ((ps.toList.map (·.2)).map (dw L))) []) ⟨d,.buildSlice t n ps,ty,pos,af,gd⟩ recs K L st (mono (o9 P t n (ps.toList.map fun p=>(p.1,dw L p.2)))):=by
 unfold fv kz lq fo;simp only [jo,cond_false];have hm:∀ y,y ∈ ((ps.toList.map (·.2)):List Operand)->dj ⟨d,.buildSlice t n ps,ty,pos,af,gd⟩ L y=dw L y:=fun y hy=>eu (by simpa [Op.operands,Call.operands] using hy)
 have hmap:((ps.toList.map (·.2)):List Operand).map (dj ⟨d,.buildSlice t n ps,ty,pos,af,gd⟩ L)=((ps.toList.map (·.2)):List Operand).map (dw L):=gu (fun y hy=>by simpa [Op.operands,Call.operands] using hy);have ho:(⟨d,.buildSlice t n ps,ty,pos,af,gd⟩:Oper).op.operands.toList=(ps.toList.map (·.2)):=by simp [Op.operands,Call.operands]
 rw [ho,hmap];rw [zy,Sq (fun x hx=>by simp [Op.operands];exact ⟨_,by simpa using hx⟩)];rfl
theorem Rb (s u x):fv P T ⟨d,.convert s u x,ty,pos,af,gd⟩ recs K L st=fo (true) (reach st.h fj (AV.names.go ([x].map (dw L))) []) ⟨d,.convert s u x,ty,pos,af,gd⟩ recs K L st (mono (xi P (dj ⟨d,.convert s u x,ty,pos,af,gd⟩ L) ⟨d,.convert s u x,ty,pos,af,gd⟩ s u (dw L x))):=by
 unfold fv kz lq fo;simp only [jo,cond_false];have hm:∀ y,y ∈ ([x]:List Operand)->dj ⟨d,.convert s u x,ty,pos,af,gd⟩ L y=dw L y:=fun y hy=>eu (by simpa [Op.operands,Call.operands] using hy)
 have hmap:([x]:List Operand).map (dj ⟨d,.convert s u x,ty,pos,af,gd⟩ L)=([x]:List Operand).map (dw L):=gu (fun y hy=>by simpa [Op.operands,Call.operands] using hy);have ho:(⟨d,.convert s u x,ty,pos,af,gd⟩:Oper).op.operands.toList=[x]:=by simp [Op.operands,Call.operands]
 rw [ho,hmap];rw [Fb,hm x (by simp)];rfl
theorem Zq (t x i):fv P T ⟨d,.index t x i,ty,pos,af,gd⟩ recs K L st=fo (true) (reach st.h fj (AV.names.go ([x,i].map (dw L))) []) ⟨d,.index t x i,ty,pos,af,gd⟩ recs K L st (mono (C1 P (dj ⟨d,.index t x i,ty,pos,af,gd⟩ L) ⟨d,.index t x i,ty,pos,af,gd⟩ t x i)):=by
 unfold fv kz lq fo;simp only [jo,cond_false];have hm:∀ y,y ∈ ([x,i]:List Operand)->dj ⟨d,.index t x i,ty,pos,af,gd⟩ L y=dw L y:=fun y hy=>eu (by simpa [Op.operands,Call.operands] using hy)
 have hmap:([x,i]:List Operand).map (dj ⟨d,.index t x i,ty,pos,af,gd⟩ L)=([x,i]:List Operand).map (dw L):=gu (fun y hy=>by simpa [Op.operands,Call.operands] using hy);have ho:(⟨d,.index t x i,ty,pos,af,gd⟩:Oper).op.operands.toList=[x,i]:=by simp [Op.operands,Call.operands]
 rw [ho,hmap];rfl
theorem aba (t x l h m):fv P T ⟨d,.slice t x l h m,ty,pos,af,gd⟩ recs K L st=fo (true) (reach st.h fj (AV.names.go ((#[x]++l.toArray++h.toArray++m.toArray).toList.map (dw L))) []) ⟨d,.slice t x l h m,ty,pos,af,gd⟩ recs K L st (mono (Db P (dj ⟨d,.slice t x l h m,ty,pos,af,gd⟩ L) ⟨d,.slice t x l h m,ty,pos,af,gd⟩ t x l h m)):=by
 unfold fv kz lq fo;simp only [jo,cond_false];have hm:∀ y,y ∈ ((#[x]++l.toArray++h.toArray++m.toArray).toList:List Operand)->dj ⟨d,.slice t x l h m,ty,pos,af,gd⟩ L y=dw L y:=fun y hy=>eu (by simpa [Op.operands,Call.operands] using hy)
 have hmap:((#[x]++l.toArray++h.toArray++m.toArray).toList:List Operand).map (dj ⟨d,.slice t x l h m,ty,pos,af,gd⟩ L)=((#[x]++l.toArray++h.toArray++m.toArray).toList:List Operand).map (dw L):=gu (fun y hy=>by simpa [Op.operands,Call.operands] using hy);have ho:(⟨d,.slice t x l h m,ty,pos,af,gd⟩:Oper).op.operands.toList=(#[x]++l.toArray++h.toArray++m.toArray).toList:=by simp [Op.operands,Call.operands]
 rw [ho,hmap];rfl
theorem ayk (op t x):fv P T ⟨d,.unOp op t x,ty,pos,af,gd⟩ recs K L st=fo (true) (reach st.h fj (AV.names.go ([x].map (dw L))) []) ⟨d,.unOp op t x,ty,pos,af,gd⟩ recs K L st (mono (kh P (dj ⟨d,.unOp op t x,ty,pos,af,gd⟩ L) ⟨d,.unOp op t x,ty,pos,af,gd⟩ [x])):=by
 unfold fv kz lq fo;simp only [jo,cond_false];have hm:∀ y,y ∈ ([x]:List Operand)->dj ⟨d,.unOp op t x,ty,pos,af,gd⟩ L y=dw L y:=fun y hy=>eu (by simpa [Op.operands,Call.operands] using hy)
 have hmap:([x]:List Operand).map (dj ⟨d,.unOp op t x,ty,pos,af,gd⟩ L)=([x]:List Operand).map (dw L):=gu (fun y hy=>by simpa [Op.operands,Call.operands] using hy);have ho:(⟨d,.unOp op t x,ty,pos,af,gd⟩:Oper).op.operands.toList=[x]:=by simp [Op.operands,Call.operands]
 rw [ho,hmap];rfl
theorem anv (x ts):fv P T ⟨d,.call { callee:=.builtin .len,args:=#[x],argTypes:=ts },ty,pos,af,gd⟩ recs K L st=fo (true) ([]) ⟨d,.call { callee:=.builtin .len,args:=#[x],argTypes:=ts },ty,pos,af,gd⟩ recs K L st (mono (we ((ts[0]?).bind P.underlying) (dw L x))):=by
 unfold fv kz lq fo;simp only [jo,cond_true];have hm:∀ y,y ∈ ([x]:List Operand)->dj ⟨d,.call { callee:=.builtin .len,args:=#[x],argTypes:=ts },ty,pos,af,gd⟩ L y=dw L y:=fun y hy=>eu (by simpa [Op.operands,Call.operands] using hy)
 have hmap:([x]:List Operand).map (dj ⟨d,.call { callee:=.builtin .len,args:=#[x],argTypes:=ts },ty,pos,af,gd⟩ L)=([x]:List Operand).map (dw L):=gu (fun y hy=>by simpa [Op.operands,Call.operands] using hy);have ho:(⟨d,.call { callee:=.builtin .len,args:=#[x],argTypes:=ts },ty,pos,af,gd⟩:Oper).op.operands.toList=[x]:=by simp [Op.operands,Call.operands]
 rw [Nt,hm x (by simp)];rfl
theorem Wi (s x ts):fv P T ⟨d,.call { callee:=.builtin .append,args:=#[s,x],argTypes:=ts },ty,pos,af,gd⟩ recs K L st=fo (false) (reach st.h fj (AV.names.go ([s,x].map (dw L))) []) ⟨d,.call { callee:=.builtin .append,args:=#[s,x],argTypes:=ts },ty,pos,af,gd⟩ recs K L st (mono (rn P ts[0]? ((ts[1]?).bind P.underlying) (dw L s) (dw L x))):=by
 unfold fv kz lq fo;simp only [jo,cond_false];have hm:∀ y,y ∈ ([s,x]:List Operand)->dj ⟨d,.call { callee:=.builtin .append,args:=#[s,x],argTypes:=ts },ty,pos,af,gd⟩ L y=dw L y:=fun y hy=>eu (by simpa [Op.operands,Call.operands] using hy)
 have hmap:([s,x]:List Operand).map (dj ⟨d,.call { callee:=.builtin .append,args:=#[s,x],argTypes:=ts },ty,pos,af,gd⟩ L)=([s,x]:List Operand).map (dw L):=gu (fun y hy=>by simpa [Op.operands,Call.operands] using hy);have ho:(⟨d,.call { callee:=.builtin .append,args:=#[s,x],argTypes:=ts },ty,pos,af,gd⟩:Oper).op.operands.toList=[s,x]:=by simp [Op.operands,Call.operands]
 rw [ho,hmap];rw [G7,hm s (by simp),hm x (by simp)];rfl
theorem ai2 (f args ts):fv P T ⟨d,.call { callee:=.value f,args,argTypes:=ts },ty,pos,af,gd⟩ recs K L st=fo (sw T (dw L) ⟨d,.call { callee:=.value f,args,argTypes:=ts },ty,pos,af,gd⟩) (reach st.h fj (AV.names.go ((f::args.toList).map (dw L))) []) ⟨d,.call { callee:=.value f,args,argTypes:=ts },ty,pos,af,gd⟩ recs K L st (x6 T (dw L f) (args.toList.map (dw L))):=by
 unfold fv kz lq fo;simp only [jo,cond_false];have h1:⟨d,.call { callee:=.value f,args,argTypes:=ts },ty,pos,af,gd⟩=(⟨d,.call { callee:=.value f,args,argTypes:=ts },ty,pos,af,gd⟩:Oper):=rfl;have hf:dj ⟨d,.call { callee:=.value f,args,argTypes:=ts },ty,pos,af,gd⟩ L f=dw L f:=eu (by simp [Op.operands,Call.operands]);have ha:args.toList.map (dj ⟨d,.call { callee:=.value f,args,argTypes:=ts },ty,pos,af,gd⟩ L)=args.toList.map (dw L):=gu (fun x hx=>by simp [Op.operands,Call.operands];exact .inr (by simpa using hx));have hr:sw T (dj ⟨d,.call { callee:=.value f,args,argTypes:=ts },ty,pos,af,gd⟩ L) ⟨d,.call { callee:=.value f,args,argTypes:=ts },ty,pos,af,gd⟩=sw T (dw L) ⟨d,.call { callee:=.value f,args,argTypes:=ts },ty,pos,af,gd⟩:=by simp only [sw,hf]
 have ho:(⟨d,.call { callee:=.value f,args,argTypes:=ts },ty,pos,af,gd⟩:Oper).op.operands.toList.map (dj ⟨d,.call { callee:=.value f,args,argTypes:=ts },ty,pos,af,gd⟩ L)=(f::args.toList).map (dw L):=by show ((#[f]++args).toList).map _=_;simp only [Array.toList_append,zzw,ha,List.map_cons,hf];rfl
 rw [hr,ho];show Gb _ _ _ _ _ _ _ (x6 T (dj _ L f) (args.toList.map (dj _ L)) _)=_;rw [hf,ha]
theorem Rt (n args ts):sw T (dw L) ⟨d,.call { callee:=.value (.func n),args,argTypes:=ts },ty,pos,af,gd⟩=roT (T.find n):=by simp only [sw,dw];rfl
end ops
theorem aa8 (P T ops K L st):F2 P T ops true K L st=(Nv ops=true/\(G0 P T ops ops.toList K [] L st\/Oz P T ops ops.toList K [] L st)):=id rfl
theorem aay (n):Hy n []=true:=id rfl
theorem Xp (n o r):Hy n (o::r)=(Nat.blt o n && Hy n r):=id rfl
theorem aey (h h'):same h h' []=True:=id rfl
theorem aa1 (h h' o r):same h h' (o::r)=(h.get o=h'.get o/\same h h' r):=id rfl
theorem abp (h):j7 h [] = .nil:=id rfl
theorem U0 (h o r):j7 h (o::r)=Tr.set depth (j7 h r) o (h.get o):=id rfl
theorem Uo (h1 h):vm h1 [] h=h:=id rfl
theorem Sr (h1 o r h):vm h1 (o::r) h=Tr.set depth (vm h1 r h) o (h1.get o):=id rfl
theorem Zn (t ts v vs):iz (t::ts) (v::vs)=(t,v)::iz ts vs:=id rfl
theorem aa0 (P T f ps A B p Q L0 st0):av7 P T f ps A B p Q L0 st0=(Nat.ble p 1000=true/\Ni P T ps A B p Q L0 st0 (Kd (dw L0 f))):=id rfl
theorem ag6 (P T ps A B p Q L0 st0 g bA):Ni P T ps A B p Q L0 st0 (some (g,bA))=Oa P T ps A B p Q L0 st0 bA (D4 P g):=id rfl
theorem ahy (P T ps A B p Q L0 st0 bA nt code):Oa P T ps A B p Q L0 st0 bA (some (nt,code))=(Nat.ble (bA.length+1) nt=true/\∀ l:Nat,qd P T l (oi ps A B L0) p code (aec Q L0) none (cg 0 (.sc (.func (.yield l) #[] #[])::bA)) st0):=id rfl
theorem aa6 (g c):Kd (.fn (.func g) [] c)=some (g,c):=id rfl
theorem If {P:Program} {T:eh} {l:Nat} {bb:Nat} {L:SL} {st:St} {Q:QI} {ps:List Tmp} {ra rb:Code} {L0:SL} {α:Type} {b:Code} (keep:List Nat) (V : α->List AV) (O : α->List (Option bo)) (I : α->Prop) (μ : α->Nat) (x : α) (hx:I x)
 (hv:ij bb keep L st=V x) (ho:fl bb keep L st=O x)
 (step:∀ x,I x->qd P T l (oi ps (fun p=>wl P T p ra) (fun p=>wl P T p rb) L0) bb b (Cg (xl bb keep (fun vs os=>∃ y,I y /\ μ y < μ x/\vs=V y/\os=O y) (fun _ _ _=>False)) Q) none (iz keep (V x)) (bh (O x))):qd P T l (oi ps (fun p=>wl P T p ra) (fun p=>wl P T p rb) L0) bb (.loop b) Q none L st:=
 axz (keep:=keep) (V:=V) (O:=O) (I:=I) (μ:=μ) (x:=x) (hx:=hx) (hR:=Ra P T) (hv:=hv) (ho:=ho) (step:=step)
theorem Bj {P:Program} {T:eh} {R:Ju} {bb:Nat} {L:SL} {st:St} {o:Oper} {K:Option Ex->SL->St->Prop} {args:Array Operand} (keep:List Nat) (h:B5 R (fl bb keep L st).length args o.dst K (iz keep (ij bb keep L st)) (bh (fl bb keep L st))):Yd P T R bb o K none L st (some args):=⟨rfl,keep,h⟩
theorem Js (P:Program):∀ s:Sem Value,ev P (do pure (Next.value (<- s)))=(ev P s).map Next.value:=by
 intro s
 induction s with
 |pure b=>rfl
 |program k ih=>exact ih P
 |choose q k ih=>
  simp only [bind,Sem.bind,ev]
  split
  ·exact ih 0
  ·rfl
 |mark m k ih=>exact ih
 |_=>rfl
def ajg (m:M AV):M AV:=m
def aem (a:AV) (m:M AV):M AV:=
 match a.bool with
 |some b=>M.pure (.sc (.bool (!b)))
 |none=>m
theorem auv (b:Bool) (m:M AV):aem (.sc (.bool b)) m=M.pure (.sc (.bool (!b))):=id rfl
theorem aCq {a:AV} {b:Bool} (h:a.bool=some b):a = .sc (.bool b):=by
 unfold AV.bool AV.exact pf at h;cases a with
 |sc v=>cases v<;>simp at h;rw [h]
 |_=>cases h
theorem Ul (P:Program) (ρ:Operand->AV) (d ty pos af gd) (t:TypeId) (x:Operand):kh P ρ ⟨d,.unOp .not t x,ty,pos,af,gd⟩ [x]=aem (ρ x) (ajg (kh P ρ ⟨d,.unOp .not t x,ty,pos,af,gd⟩ [x])):=by
 unfold aem
 split
 ·rename_i b hb;have hx:=aCq hb;have h2:execOp (fun z=>((ρ z).gw).getD undef) ⟨d,.unOp .not t x,ty,pos,af,gd⟩=(do pure (Next.value (<- Op.unary .not (.bool b)))):=by
   simp only [execOp,hx,AV.gw,Option.getD_some]
  unfold kh k9 tc;simp only [List.all_cons,List.all_nil,hx,AV.gw,Option.isSome_some,Bool.and_true,cond_true];rw [h2,Js];rfl
 ·rfl
theorem abo (P:Program) (T:eh) (ρ:Operand->AV) (d ty pos af gd) (t:TypeId) (x:Operand):gz P T ⟨d,.unOp .not t x,ty,pos,af,gd⟩ ρ=mono (aem (ρ x) (ajg (kh P ρ ⟨d,.unOp .not t x,ty,pos,af,gd⟩ [x]))):=by exact congrArg mono (Ul ..)
theorem ams (P:Program) (T:eh) (L:SL) (st:St) (recs:List Rec) (K:List Rec->SL->St->Prop) (d ty pos af gd) (t x):fv P T ⟨d,.unOp .not t x,ty,pos,af,gd⟩ recs K L st=fo true (reach st.h fj (AV.names.go ([x].map (dw L))) []) ⟨d,.unOp .not t x,ty,pos,af,gd⟩ recs K L st (mono (aem (dw L x) (ajg (kh P (dj ⟨d,.unOp .not t x,ty,pos,af,gd⟩ L) ⟨d,.unOp .not t x,ty,pos,af,gd⟩ [x])))):=by rw [ayk];have h:=Ul P (dj ⟨d,.unOp .not t x,ty,pos,af,gd⟩ L) d ty pos af gd t x;rw [eu (by simp [Op.operands])] at h;rw [<- h]
theorem Tg (l:List UInt8):bytesOf (l.map C5)=some l:=by rw [Gx,yh]
theorem Rq (a b:ByteArray):Cx.qa [.sc (.string a),.sc (.string b)]=M.pure (.sc (goInt (Lib.compareBytes a.data.toList b.data.toList))):=by unfold Cx.qa cellsIn;simp only [Nat.beq_refl,cond_true];unfold M.bind M.pure;simp only [Tg];rfl
theorem P4 {α:Type} (C:di α) (f:Bool) (h:C.sz=1) (ha:C.agg=false) (l:List α):(l.map (C.val f)).flatMap AV.cells=l.map (C.val f):=by
 induction l with
 |nil=>rfl
 |cons x l ih=>
  simp only [List.map_cons,List.flatMap_cons,ih];obtain ⟨c,h1,h2,_⟩:=C.one ha f x;have:C.val f x=c:=by simp [di.val,ha,h1]
  rw [this,h2];rfl
theorem Se (f g:Bool) (a b:List UInt8):Cx.qa [.vl f 1 (a.map (bq.val f)),.vl g 1 (b.map (bq.val g))]=M.pure (.sc (goInt (Lib.compareBytes a b))):=by unfold Cx.qa cellsIn;simp only [Nat.beq_refl,cond_true,P4 bq _ rfl rfl];unfold M.bind M.pure;simp only [yh];rfl
theorem Sk {L:SL} {d ty pos af gd} {op t u x y}:dj ⟨d,.binOp op t x y u,ty,pos,af,gd⟩ L x=dw L x:=eu (by simp [Op.operands])
theorem S2 {L:SL} {d ty pos af gd} {op t u x y}:dj ⟨d,.binOp op t x y u,ty,pos,af,gd⟩ L y=dw L y:=eu (by simp [Op.operands])
theorem Si {L:SL} {d ty pos af gd} {i t x}:dj ⟨d,.index t x i,ty,pos,af,gd⟩ L x=dw L x:=eu (by simp [Op.operands])
theorem Sw {L:SL} {d ty pos af gd} {i t x}:dj ⟨d,.index t x i,ty,pos,af,gd⟩ L i=dw L i:=eu (by simp [Op.operands])
theorem Xm {L:SL} {d ty pos af gd} {h l m t x}:dj ⟨d,.slice t x l h m,ty,pos,af,gd⟩ L x=dw L x:=eu (by simp [Op.operands])
theorem V1 {L:SL} {d ty pos af gd} {h l m t x}:dj ⟨d,.slice t x (some l) h m,ty,pos,af,gd⟩ L l=dw L l:=eu (by simp [Op.operands])
theorem Vu {L:SL} {d ty pos af gd} {h l m t x}:dj ⟨d,.slice t x l (some h) m,ty,pos,af,gd⟩ L h=dw L h:=eu (by simp [Op.operands])
def As (P:Program) (ρ:Operand->AV) (o:Oper) (l:List Operand):M AV:=kh P ρ o l
def afv (u:Option TypeDesc) (a ix:AV) (m:M AV):M AV:=
 match u with
 |some .string=>
  match a with
  |.sc (.string s)=>
   match ix with
   |.sc (.int _ n)=>
    match (bif decide (0<=n) then s.data.toList[n.toNat]? else none) with
    |some b=>M.pure (.sc (.int .u8 b.toNat))
    |none=>m
   |_=>m
  |_=>m
 |_=>m
theorem ai8 (s:ByteArray) (k:IntKind) (n:Int) (m:M AV):afv (some .string) (.sc (.string s)) (.sc (.int k n)) m=match (bif decide (0<=n) then s.data.toList[n.toNat]? else none) with|some b=>M.pure (.sc (.int .u8 b.toNat))|none=>m:=id rfl
theorem N5 (P:Program) (ρ:Operand->AV) (d ty pos af gd) (t:TypeId) (x i:Operand):kh P ρ ⟨d,.index t x i,ty,pos,af,gd⟩ [x,i]=afv (P.underlying t) (ρ x) (ρ i) (As P ρ ⟨d,.index t x i,ty,pos,af,gd⟩ [x,i]):=by
 unfold afv
 split
 ·rename_i hu
  split
  ·rename_i s hx
   split
   ·rename_i k n hi
    split
    ·rename_i b hb;cases h0:decide (0<=n) with
     |false=>rw [h0] at hb;cases hb
     |true=>
     rw [h0,cond_true] at hb;have h0 : 0<=n:=by simpa using h0
     have hb':s[n.toNat]? = some b:=by obtain ⟨h1,h2⟩:=zg.1 hb;simp at h1;rw [getElem?_pos s n.toNat (by simpa using h1)];rw [<- h2];rfl
     have h2:execOp (fun z=>((ρ z).gw).getD undef) ⟨d,.index t x i,ty,pos,af,gd⟩=(do pure (Next.value (<- Instr.index t (.string s) (.int k n)))):=by simp only [execOp,hx,hi,AV.gw,Option.getD_some]
     unfold kh k9 tc;simp only [List.all_cons,List.all_nil,hx,hi,AV.gw,Option.isSome_some,Bool.and_true,cond_true];rw [h2,Js];have h3:ev P (Instr.index t (.string s) (.int k n))=some (.int .u8 b.toNat):=by simp [Instr.index,asIntOf,underlying,program,ev,hu,h0,hb',bind,Sem.bind,pure]
     rw [h3];rfl
    ·rfl
   ·rfl
  ·rfl
 ·rfl
theorem Tz (a n:Nat):(a:Int).fdiv (n:Int)=((a / n:Nat):Int):=by rw [Int.fdiv_eq_ediv_of_nonneg _ zO];rfl
theorem ai0 (a:Nat):(a:Int).fdiv 256=((a / 256:Nat):Int):=Tz a 256
theorem Xf (a:Nat):(a:Int).fdiv 65536=((a / 65536:Nat):Int):=Tz a 65536
theorem Mm (a:Nat):(a:Int).fdiv 16777216=((a / 16777216:Nat):Int):=Tz a 16777216
theorem ahh (f:Nat) (m) (T:eh):eh.find ((f,m)::T) f=some m:=by simp [eh.find]
theorem Z1 (f g:Nat) (m) (T:eh) (h:(f == g)=false):eh.find ((f,m)::T) g=eh.find T g:=by
 have e:f≠g:=by simpa using h
 simp [eh.find,qg e]
end
end Go.Vm
end
namespace Go.Vm
variable [TK]
noncomputable section
def Cn (P:Program) (t:TypeId):Option (Nat × Nat × Nat):=
 match pw P t with
 |some e=>
  match dt P e,ky P e,fp P e with
  |some sz,some bytes,some z=>bif Nat.blt 0 sz && Nat.blt 0 bytes && Nat.beq z.cells.size sz then some (e,sz,bytes) else none
  |_,_,_=>none
 |none=>none
def aiu (q:Option (Nat × Nat × Nat)) (s x:AV):M AV:=
 match q with
 |some (e,sz,bytes)=>(cellsIn sz x).bind (ue e sz bytes s)
 |none=>M.fail
theorem ary (e sz bytes s x):aiu (some (e,sz,bytes)) s x=(cellsIn sz x).bind (ue e sz bytes s):=id rfl
theorem Wu (P:Program) (t e:TypeId) (s x:AV):rn P (some t) (some (.slice e)) s x=aiu (Cn P t) s x:=by
 unfold rn aiu Cn;simp only [Option.bind_some];cases pw P t with
 |none=>rfl
 |some e=>
  simp only;cases dt P e with
  |none=>rfl
  |some sz=>
   cases ky P e with
   |none=>rfl
   |some bytes=>
    cases fp P e with
    |none=>rfl
    |some z=>
     simp only;cases (Nat.blt 0 sz && Nat.blt 0 bytes && Nat.beq z.cells.size sz)<;>rfl
theorem Vb (P:Program) (t:TypeId) (s x:AV):rn P (some t) (some .string) s x=aiu (Cn P t) s x:=by
 unfold rn aiu Cn;simp only [Option.bind_some];cases pw P t with
 |none=>rfl
 |some e=>
  simp only;cases dt P e with
  |none=>rfl
  |some sz=>
   cases ky P e with
   |none=>rfl
   |some bytes=>
    cases fp P e with
    |none=>rfl
    |some z=>
     simp only;cases (Nat.blt 0 sz && Nat.blt 0 bytes && Nat.beq z.cells.size sz)<;>rfl
theorem S7 (e sz bytes new):ue e sz bytes (.sc (.slice none 0 0)) new=bif new.isEmpty then M.pure (.sc (.slice none 0 0)) else bif Nat.ble (new.length * bytes) 140737488355328 then ur e sz (new.length / sz) new else M.fail:=id rfl
theorem U3 (e sz bytes o off len bC new):ue e sz bytes (.sl o off len bC) new=bif Nat.beq sz bC then (ef o).bind (Hi e sz bytes o off len new) else M.fail:=id rfl
theorem S8 (e sz bytes o off len new cells k st et):Hi e sz bytes o off len new (.row cells k st et)=(bif Nat.beq et e && new.all AV.one && Nat.ble (off+len * sz) cells.length && Nat.ble ((len * sz+new.length) * bytes) 140737488355328 then
 bif Nat.ble k (off+len * sz) then
  (Kv o).bind fun _=>(ln (.row ((cells.take (off+len * sz)).drop off++new) (k - off) (n9 (me off (len * sz) cells.length) st) et)).bind fun id=>M.pure (.sl id 0 (len+new.length / sz) sz)
 else bif new.isEmpty then M.pure (.sl o off len sz)
 else M.fail
 else M.fail):=id rfl
theorem aAh:n9 true 0=0:=id rfl
theorem anw (n):me 0 n n=true:=by simp [me]
theorem al7 (n m):me 0 n m=Nat.beq n m:=id rfl
def cellsOf {α:Type} (C:di α) (f:Bool) (xs:List α):List AV:=xs.flatMap (C.cells f)
theorem Sl {α:Type} (C:di α) (f):cellsOf C f []=[]:=id rfl
theorem yi {α:Type} (C:di α) (f) (xs:List α):(cellsOf C f xs).length=xs.length * C.sz:=by
 induction xs with
 |nil=>simp [cellsOf]
 |cons x xs ih=>
  simp only [cellsOf] at ih;simp [cellsOf,C.len,ih,Nat.succ_mul];omega
theorem Iz {α:Type} (C:di α) (f) (xs ys:List α):cellsOf C f (xs++ys)=cellsOf C f xs++cellsOf C f ys:=by simp [cellsOf]
theorem Tb {α:Type} (C:di α) (f) (x : α):cellsOf C f [x]=C.cells f x:=by simp [cellsOf]
theorem yu {α:Type} (C:di α) (f) (xs:List α):(cellsOf C f xs).all AV.one=true:=by rw [zz8];intro c hc;obtain ⟨x,_,hx⟩:=List.mem_flatMap.1 hc;exact (C.pl f x c hx).one
theorem Mf {α:Type} (C:di α) (f) (xs:List α):AV.names.go (cellsOf C f xs)=[]:=Ih (fun c hc=>by obtain ⟨x,_,hx⟩:=List.mem_flatMap.1 hc;exact (C.pl f x c hx).names)
theorem Rw {α:Type} (C:di α) (τ) (f) (xs:List α):(cellsOf C f xs).map (AV.da τ)=cellsOf C f xs:=by
 rw [<- gv];exact T0 (fun c hc=>by obtain ⟨x,_,hx⟩:=List.mem_flatMap.1 hc;exact (C.pl f x c hx).da τ)
theorem ah0 {α:Type} (C:di α) (f) (xs:List α) (i:Nat):(cellsOf C f xs).drop (i * C.sz)=cellsOf C f (xs.drop i):=by
 induction xs generalizing i with
 |nil=>simp [cellsOf]
 |cons x xs ih=>
  cases i with
  |zero=>simp
  |succ i=>
   have:(i+1) * C.sz=C.sz+i * C.sz:=by rw [Nat.succ_mul];omega
   rw [this,<- List.drop_drop];have h1:(cellsOf C f (x::xs)).drop C.sz=cellsOf C f xs:=by
    have h2:cellsOf C f (x::xs)=C.cells f x++cellsOf C f xs:=by simp [cellsOf]
    rw [h2,<- C.len f x,List.drop_left]
   rw [h1,ih,List.drop_succ_cons]
theorem agi {α:Type} (C:di α) (f) (xs:List α) (i:Nat):(cellsOf C f xs).take (i * C.sz)=cellsOf C f (xs.take i):=by
 induction xs generalizing i with
 |nil=>simp [cellsOf]
 |cons x xs ih=>
  cases i with
  |zero=>simp [cellsOf]
  |succ i=>
   have h2:cellsOf C f (x::xs)=C.cells f x++cellsOf C f xs:=by simp [cellsOf]
   have:(i+1) * C.sz=(C.cells f x).length+i * C.sz:=by rw [Nat.succ_mul,C.len];omega
   rw [h2,this,List.take_length_add_append,ih,List.take_succ_cons];simp [cellsOf]
theorem uc {α:Type} (C:di α) (f) (x : α) (xs:List α):cellsOf C f (x::xs)=C.cells f x++cellsOf C f xs:=by simp [cellsOf]
theorem Dm {α:Type} {xs:List α} {i:Nat} {x : α} (h:xs[i]? = some x):xs.drop i=x::xs.drop (i+1):=by obtain ⟨h1,h2⟩:=zg.1 h;rw [<- h2];exact zzs h1
theorem Ud {α:Type} (C:di α) (f) (xs:List α):(xs.map (C.val f)).flatMap AV.cells=cellsOf C f xs:=by rw [List.flatMap_map];congr 1;funext x;exact C.Ar f x
def Af (fr:Bool) (st sz:Nat) (kd:LK) (et:TypeId):Bool:=!fr || (Nat.beq st 0 && O9 sz kd et)
theorem aAl (st sz kd et):Af false st sz kd et=true:=id rfl
theorem azl (sz kd et):Af true 0 sz kd et=O9 sz kd et:=id rfl
theorem Y2 {fr:Bool} {st n sz:Nat} {kd:LK} {et:TypeId} (h:Af fr st sz kd et=true):ze fr sz kd st 0 (n * sz) n et=true:=by
 cases fr with
 |false=>rfl
 |true=>
  simp only [Af,Bool.not_true,Bool.false_or,zzh] at h;simp [ze,h.1,h.2]
theorem oz {α:Type} (C:di α) (fr:Bool) (h:Tr bo) (f:Bool) (xs:List α) (k st et) (n:Nat) (hn:n=xs.length) (hf:(f || !fr)=true) (hro:Af fr st C.sz C.kd et=true):kf C fr h 0 n (.row (cellsOf C f xs) k st et)=some xs:=by subst hn;simp only [kf,Nat.zero_add,yi,Nat.ble_self_eq_true,Bool.true_and,Y2 hro,cond_true,List.drop_zero];have:(cellsOf C f xs).take (xs.length * C.sz)=cellsOf C f xs:=zzp (by rw [yi];exact zza _);rw [this];exact aam C fr h f (fun e=>by subst e;simpa using hf) xs
theorem Vw {α:Type} (C:di α) (fr h k st et) (hro:Af fr st C.sz C.kd et=true):kf C fr h 0 0 (.row [] k st et)=some []:=by
 have h0:ze fr C.sz C.kd st 0 0 0 et=true:=by have:=Y2 (n:=0) hro;rwa [Nat.zero_mul] at this
 have h1:Nat.ble 0 0=true:=rfl;simp [kf,yd,h0,h1]
def rk {α:Type} (C:di α) (fr:Bool) (h:Tr bo):List AV->Option (List α)
 | []=>some []
 |a::l=>match C.dec fr h [a],rk C fr h l with
  |some x,some xs=>some (x::xs)
  |_,_=>none
def aEf {α:Type} (a b:Option (List α)):Option (List α):=match a,b with|some x,some y=>some (x++y)|_,_=>none
def azy {α:Type} (a:Option α) (b:Option (List α)):Option (List α):=match a,b with|some x,some y=>some (x::y)|_,_=>none
theorem aue {α:Type} (a b:List α):aEf (some a) (some b)=some (a++b):=id rfl
theorem anl {α:Type} (a : α) (b:List α):azy (some a) (some b)=some (a::b):=id rfl
theorem Ti {α:Type} (C:di α) (fr h):rk C fr h []=some []:=id rfl
theorem Hf {α:Type} (C:di α) (fr h a l):rk C fr h (a::l)=azy (C.dec fr h [a]) (rk C fr h l):=id rfl
theorem Tf {α:Type} (C:di α) (fr h):∀ a b,rk C fr h (a++b)=aEf (rk C fr h a) (rk C fr h b)
 | [],b=>by simp only [List.nil_append,Ti];cases rk C fr h b<;>rfl
 |x::a,b=>by simp only [List.cons_append,Hf,Tf C fr h a b];cases C.dec fr h [x]<;>cases rk C fr h a<;>cases rk C fr h b<;>rfl
theorem afn {α:Type} (C:di α) (hz:C.sz=1) (fr h):∀ cells:List AV,yd C fr h cells.length cells=rk C fr h cells
 | []=>rfl
 |a::l=>by
  have h1:(a::l).take C.sz=[a]:=by rw [hz];rfl
  have h2:(a::l).drop C.sz=l:=by rw [hz];rfl
  simp only [List.length_cons,yd,h1,h2,afn C hz fr h l];rfl
theorem ya {α:Type} (C:di α) (hz:C.sz=1) (fr h n cells k st et) (hn:n=cells.length) (hro:Af fr st 1 C.kd et=true):kf C fr h 0 n (.row cells k st et)=rk C fr h cells:=by
 subst hn;have h0:ze fr 1 C.kd st 0 cells.length cells.length et=true:=by have:=Y2 (n:=cells.length) hro;rwa [Nat.mul_one] at this
 simp only [kf,hz,Nat.mul_one,Nat.zero_add,Nat.ble_self_eq_true,Bool.true_and,h0,cond_true,List.drop_zero,zz7];exact afn C hz fr h cells
theorem Gc {α:Type} (C:di α) (hz:C.sz=1) (ha:C.agg=false) (fr h f) (hf:fr=true->f=true):∀ l:List α,rk C fr h (l.map (C.val f))=some l
 | []=>rfl
 |x::l=>by
  obtain ⟨c,h1,_⟩:=C.one ha f x;have hv:C.val f x=c:=by simp [di.val,ha,h1]
  have hd:=C.rt fr h f x hf;rw [h1] at hd;rw [List.map_cons,Hf,Gc C hz ha fr h f hf l,hv,hd];rfl
theorem ai3 {α β:Type} (f : α -> β) (l:List α) (n:Nat):(l.map f).take n=(l.take n).map f:=List.map_take.symm
theorem age {α β:Type} (f : α -> β) (l:List α) (n:Nat):(l.map f).drop n=(l.drop n).map f:=List.map_drop.symm
theorem Gu {α β:Type} (f : α -> β) (l:List α):(l.map f).isEmpty=l.isEmpty:=by cases l<;>rfl
theorem Ie {α:Type} (l:List α) (x : α):(l++[x]).isEmpty=false:=by cases l<;>rfl
theorem Kf (a b:List AV):AV.names.go (a++b)=AV.names.go a++AV.names.go b:=by
 induction a with
 |nil=>rfl
 |cons x a ih=>simp only [List.cons_append,AV.names.go,ih,zzc]
theorem rtT {α:Type} (C:di α) (h:Tr bo) (x : α):C.fq true h (C.val true x)=some x:=C.Me true h true x (fun _=>rfl)
theorem rtF {α:Type} (C:di α) (h:Tr bo) (l:Bool) (x : α):C.fq false h (C.val l x)=some x:=C.Me false h l x (fun e=>by cases e)
theorem agx (s:ByteArray):s.data.toList.length=s.size:=by simp
theorem am5 {α:Type} {l:List α} {n:Nat} (h:l.length<=n):l.take n=l:=zzp h
theorem aC1 {α:Type} (C:di α) (fr:Bool) (h:Tr bo) (x : α):C.fq fr h (C.val fr x)=some x:=C.Me fr h fr x (fun e=>e)
theorem ca {a b:Nat} (h:a<=b):decide (a<=b)=true:=by simpa using h
theorem b9 {a b:Nat} (h:a<b):decide (a<b)=true:=by simpa using h
theorem cb {a b:Int} (h:a<=b):decide (a<=b)=true:=by simpa using h
theorem cd {a b:Int} (h:a<b):decide (a<b)=true:=by simpa using h
theorem ag (x:Int) (h0 : -9223372036854775808<=x) (h1:x<9223372036854775808):IntKind.i64.wrap x=x:=by simp [IntKind.wrap,IntKind.bits,IntKind.signed];omega
theorem zW:type_of% @ag/\type_of% @ca/\type_of% @b9/\type_of% @cb/\type_of% @cd:=⟨@ag,@ca,@b9,@cb,@cd⟩
theorem as5 (n:Nat):IntKind.u8.wrap (n:Int)=((UInt8.ofNat n).toNat:Int):=by simp [IntKind.wrap,IntKind.bits,IntKind.signed]
theorem bg {p:Prop} [Decidable p] {X Y:SL->St->Prop} {L st}:wa (.sc (.bool (decide p))) X Y L st=((p->X L st)/\(¬ p->Y L st)):=by by_cases h:p<;>simp [h,I3,Jr]
theorem bz {a b:Int} {X Y:SL->St->Prop} {L st}:wa (.sc (.bool (a == b))) X Y L st=(((a == b)=true/\a=b->X L st)/\((a == b)=false/\a≠b->Y L st)):=by
 by_cases h:a=b
 ·subst h;simp [I3]
 ·have:(a == b)=false:=by simpa using h
  simp [h,this,Jr]
theorem dg {a b:Int} {X Y:SL->St->Prop} {L st}:wa (.sc (.bool (a != b))) X Y L st=(((a != b)=true/\a≠b->X L st)/\((a != b)=false/\a=b->Y L st)):=by
 by_cases h:a=b
 ·subst h;simp [Jr]
 ·have:(a != b)=true:=by simpa using h
  simp [h,this,I3]
theorem ab9 (P:Program) (T:eh) (ρ:Operand->AV) (d ty pos af gd) (x ts):gz P T ⟨d,.call { callee:=.builtin .cap,args:=#[x],argTypes:=ts },ty,pos,af,gd⟩ ρ=mono (Ky ((ts[0]?).bind P.underlying) (ρ x)):=id rfl
theorem Zv (e a n c):Ky (some (.slice e)) (.sc (.slice a n c))=M.pure (.sc (goInt c)):=id rfl
def axj (P:Program) (q:Option (Nat × Nat × Nat)) (s x:AV):M AV:=
 match q with
 |some (e,sz,bytes)=>
  match F5 P e sz x with
  |some new=>ue e sz bytes s new
  |none=>M.fail
 |none=>M.fail
theorem au4 (P:Program) (e sz bytes s x):axj P (some (e,sz,bytes)) s x=match F5 P e sz x with|some new=>ue e sz bytes s new|none=>M.fail:=id rfl
theorem Vr (P:Program) (t:TypeId) (k:IntKind) (s x:AV):rn P (some t) (some (.int k)) s x=axj P (Cn P t) s x:=by
 unfold rn axj Cn;simp only [Option.bind_some];cases pw P t with
 |none=>rfl
 |some e=>
  simp only;cases dt P e with
  |none=>rfl
  |some sz=>
   cases ky P e with
   |none=>rfl
   |some bytes=>
    cases fp P e with
    |none=>rfl
    |some z=>
     simp only;cases (Nat.blt 0 sz && Nat.blt 0 bytes && Nat.beq z.cells.size sz)<;>rfl
def aee (z:Option Value) (sz:Nat) (n:Int):Option (List AV):=
 match z with
 |some z=>bif decide (0<=n) && decide (n<=1073741824) && Nat.beq z.cells.size sz then some ((List.replicate n.toNat (z.cells.toList.map AV.sc)).flatten) else none
 |none=>none
theorem afr (z sz n):aee (some z) sz n=bif decide (0<=n) && decide (n<=1073741824) && Nat.beq z.cells.size sz then some ((List.replicate n.toNat (z.cells.toList.map AV.sc)).flatten) else none:=id rfl
theorem abv (P:Program) (e sz:Nat) (k:IntKind) (n:Int):F5 P e sz (.sc (.int k n))=aee (fp P e) sz n:=by simp only [F5,aee,yc,AV.int,AV.exact,Option.bind_some,intOf,Option.map_some];cases fp P e<;>rfl
theorem anp {α:Type} (n:Nat) (x : α):(List.replicate n [x]).flatten=List.replicate n x:=by
 induction n with
 |zero=>rfl
 |succ n ih=>simp [List.replicate_succ,ih]
theorem S3 {α:Type} {n:Nat} {x : α} (h : 0<n):(List.replicate n x).isEmpty=false:=by
 cases n with
 |zero=>omega
 |succ n=>rfl
theorem nc0:((0:Nat):Int)=0:=id rfl
theorem nc1:((1:Nat):Int)=1:=id rfl
theorem asf (n:Nat):List.replicate n (AV.sc (.int .u8 0))=(List.replicate n (0:UInt8)).map (bq.val false):=by rw [List.map_replicate];rfl
def ao7 (P:Program) (u:Option TypeDesc) (x hi:AV) (m:M AV):M AV:=
 match u with
 |some (.slice e)=>
  match dt P e with
  |some _=>
   match x with
   |.sc (.slice none 0 0)=>
    match hi with
    |.sc (.int .i64 0)=>M.pure (.sc (.slice none 0 0))
    |_=>m
   |_=>m
  |none=>m
 |_=>m
theorem auh (P:Program) (e m) (h:(dt P e).isSome=true):ao7 P (some (.slice e)) (.sc (.slice none 0 0)) (.sc (.int .i64 0)) m=M.pure (.sc (.slice none 0 0)):=by obtain ⟨n,hn⟩:=zzv.1 h;simp only [ao7,hn]
theorem H3 (P:Program) (ρ:Operand->AV) (d ty pos af gd) (t:TypeId) (x h:Operand):kh P ρ ⟨d,.slice t x none (some h) none,ty,pos,af,gd⟩ (.slice t x none (some h) none:Op).operands.toList=ao7 P (P.underlying t) (ρ x) (ρ h) (As P ρ ⟨d,.slice t x none (some h) none,ty,pos,af,gd⟩ (.slice t x none (some h) none:Op).operands.toList):=by
 unfold ao7
 split
 ·rename_i e hu
  split
  ·rename_i n hn
   split
   ·rename_i hx
    split
    ·rename_i hh;have h2:execOp (fun z=>((ρ z).gw).getD undef) ⟨d,.slice t x none (some h) none,ty,pos,af,gd⟩=(do pure (Next.value (<- Instr.sliceAt t (.slice none 0 0) none (some (.int .i64 0)) none))):=by
      simp only [execOp,hx,hh,AV.gw,Option.getD_some,Option.map_some,Option.map_none]
     have hi:∃ i,P.info? e=some i:=by
      unfold dt at hn;cases hq:P.info? e with
      |none=>rw [hq] at hn;cases hn
      |some i=>exact ⟨i,rfl⟩
     obtain ⟨i,hi⟩:=hi;have h3:ev P (Instr.sliceAt t (.slice none 0 0) none (some (.int .i64 0)) none)=some (.slice none 0 0):=by simp [Instr.sliceAt,Instr.slice,Instr.sliceBounds,Instr.sliceBound,asIntOf,underlying,program,ev,hu,sizeOf,typeInfo,hi,bind,Sem.bind,pure]
     unfold kh k9 tc;simp only [Op.operands];simp [hx,hh,AV.gw];rw [h2,Js,h3];rfl
    ·rfl
   ·rfl
  ·rfl
 ·rfl
def ax6 {α:Type} (o sz:Nat) (l:List α):AV:=bif l.isEmpty then .sc (.slice none 0 0) else .sl o 0 l.length sz
def apa (cells:List AV) (k st:Nat) (et:TypeId):List (Option bo):=bif cells.isEmpty then [] else [some (.row cells k st et)]
theorem avl {α:Type} {o sz} {l:List α} (h:l.isEmpty=false):ax6 o sz l = .sl o 0 l.length sz:=by simp [ax6,h]
theorem abb {α:Type} (o sz) (l:List α) (c : α):ax6 o sz (l++[c]) = .sl o 0 (l.length+1) sz:=by rw [avl (Ie l c)];simp
theorem atk {cells:List AV} {k st et} (h:cells.isEmpty=false):apa cells k st et=[some (.row cells k st et)]:=by simp [apa,h]
theorem axv {α:Type} {f : α->AV} {l:List α} {k st et} (h:l.isEmpty=false):apa (l.map f) k st et=[some (.row (l.map f) k st et)]:=atk (by rw [Gu,h])
theorem aan {α:Type} (f : α->AV) (l:List α) (c : α) (k st et):apa ((l++[c]).map f) k st et=[some (.row (l.map f++[f c]) k st et)]:=by rw [axv (Ie l c)];simp
theorem du {α:Type} {l:List α} {i:Nat} (h:decide ((i:Int)<(l.length:Int))=true):∃ c,l[i]? = some c/\l.drop i=c::l.drop (i+1)/\i<l.length:=by
 have h1:i<l.length:=by simp at h;omega
 exact ⟨l[i],zh h1,zzs h1,h1⟩
theorem eg {α:Type} {l:List α} {i:Nat} (h:decide ((i:Int)<(l.length:Int))=false):l.drop i=[]:=by
 have h1:¬ i<l.length:=by simp at h;omega
 exact zzx zO
def xt (D:List Nat):Nat->List (Option bo)->List (Option bo)
 |_,[]=>[]
 |i,x::r=>(bif z8 i D then x else none)::xt D (i+1) r
def zb (D:List Nat):Nat->List (Option bo)->List (Option bo)
 |_,[]=>[]
 |i,x::r=>(bif z8 i D then none else x)::zb D (i+1) r
theorem Z2 (D):∀ (i:Nat) (os:List (Option bo)),(xt D i os).length=os.length
 |_,[]=>rfl
 |i,x::r=>by simp [xt,Z2 D (i+1) r]
theorem Pg (D):∀ (i:Nat) (os:List (Option bo)),(zb D i os).length=os.length
 |_,[]=>rfl
 |i,x::r=>by simp [zb,Pg D (i+1) r]
theorem aca (D):∀ (os:List (Option bo)) (i j:Nat),((xt D i os)[j]?).join=if (i+j) ∈ D then (os[j]?).join else none
 | [],i,j=>by simp [xt]
 |x::r,i,0=>by
  simp only [xt,List.getElem?_cons_zero,Option.join_some,Nat.add_zero];cases hb:z8 i D with
  |true=>rw [if_pos ((zk i D).1 hb)];rfl
  |false=>rw [if_neg (fun h=>by rw [(zk i D).2 h] at hb;cases hb)];rfl
 |x::r,i,j+1=>by simp only [xt,List.getElem?_cons_succ];rw [aca D r (i+1) j,show i+1+j=i+(j+1) from by omega]
theorem abn (D):∀ (os:List (Option bo)) (i j:Nat),((zb D i os)[j]?).join=if (i+j) ∈ D then none else (os[j]?).join
 | [],i,j=>by simp [zb]
 |x::r,i,0=>by
  simp only [zb,List.getElem?_cons_zero,Option.join_some,Nat.add_zero];cases hb:z8 i D with
  |true=>rw [if_pos ((zk i D).1 hb)];rfl
  |false=>rw [if_neg (fun h=>by rw [(zk i D).2 h] at hb;cases hb)];rfl
 |x::r,i,j+1=>by simp only [zb,List.getElem?_cons_succ];rw [abn D r (i+1) j,show i+1+j=i+(j+1) from by omega]
theorem Dd (os:List (Option bo)) (h:os.length<=c9) (o:Nat):(bh os).h.get o=(os[o]?).join:=by simp only [bh];rw [uk _ _ _ zO,if_pos (zzb _),Nat.sub_zero]
inductive fc (h:Tr bo):AV->AV->Prop
 |same (a:AV):fc h a a
 |data {α:Type} (C:di α) (fr:Bool) (x : α) (a:AV) (hd:C.fq fr h a=some x):fc h a (C.val fr x)
 |bad (a:AV):fc h a .bad
 |nil (o off sz:Nat):fc h (.sc (.slice none 0 0)) (.sl o off 0 sz)
 |mq (loc:Bool) (sz:Nat):fc h (.sc (.slice none 0 0)) (.vl loc sz [])
inductive en (h:Tr bo):List AV->List AV->Prop
 |nil:en h [] []
 |cons {a b:AV} {l m:List AV} (h1:fc h a b) (h2:en h l m):en h (a::l) (b::m)
theorem en.len {h l m} (hl:en h l m):m.length=l.length:=by
 induction hl with
 |nil=>rfl
 |cons _ _ ih=>simp [ih]
theorem en.refl (h):∀ l,en h l l
 | []=>.nil
 |a::l=>.cons (.same a) (en.refl h l)
theorem en.get {h l m} (hl:en h l m):∀ (i:Nat) b,m[i]? = some b->∃ a,l[i]? = some a/\fc h a b:=by
 induction hl with
 |nil=>intro i b hb;simp at hb
 |cons h1 h2 ih=>
  intro i b hb;cases i with
  |zero=>simp at hb;subst hb;exact ⟨_,rfl,h1⟩
  |succ i=>exact ih i b (by simpa using hb)
inductive cp (h:Tr bo):List (Option bo)->List (Option bo)->Prop
 |nil:cp h [] []
 |ghost {st et m} (h2:cp h [] m):cp h [] (some (.row [] 0 st et)::m)
 |same {x l m} (h2:cp h l m):cp h (x::l) (x::m)
 |gone {x l m} (h2:cp h l m):cp h (x::l) (none::m)
 |row {cells cells' k st et l m} (h1:en h cells cells') (h2:cp h l m):cp h (some (.row cells k st et)::l) (some (.row cells' k st et)::m)
theorem cp.refl (h):∀ l,cp h l l
 | []=>.nil
 |x::l=>.same (cp.refl h l)
theorem cp.len {h l m} (hl:cp h l m):l.length<=m.length:=by induction hl<;>simp_all
theorem cp.get {h l m} (hl:cp h l m):∀ (i:Nat) y,(m[i]?).join=some y->(l[i]?).join=some y\/(∃ cells cells' k st et,y = .row cells' k st et/\(l[i]?).join=some (.row cells k st et)/\en h cells cells')\/(l.length<=i/\I9 y):=by
 induction hl with
 |nil=>intro i y hy;simp at hy
 | @ghost st et m h2 ih=>
  intro i y hy;cases i with
  |zero=>simp at hy;subst hy;exact .inr (.inr ⟨zza _,st,et,rfl⟩)
  |succ i=>exact .inr (.inr ⟨zzb _,(by
   rcases ih i y (by simpa using hy) with h|⟨_,_,_,_,_,_,h,_⟩|h
   ·simp at h
   ·simp at h
   ·exact h.2)⟩)
 |same h2 ih=>
  intro i y hy;cases i with
  |zero=>exact .inl hy
  |succ i=>exact (ih i y (by simpa using hy)).imp id (Or.imp id (fun h=>⟨Nat.succ_le_succ h.1,h.2⟩))
 |gone h2 ih=>
  intro i y hy;cases i with
  |zero=>simp at hy
  |succ i=>exact (ih i y (by simpa using hy)).imp id (Or.imp id (fun h=>⟨Nat.succ_le_succ h.1,h.2⟩))
 |row h1 h2 ih=>
  intro i y hy;cases i with
  |zero=>simp at hy;subst hy;exact .inr (.inl ⟨_,_,_,_,_,rfl,rfl,h1⟩)
  |succ i=>exact (ih i y (by simpa using hy)).imp id (Or.imp id (fun h=>⟨Nat.succ_le_succ h.1,h.2⟩))
theorem jh.lax {vs vs':List AV} {os os':List (Option bo)} {bb:Nat} (D:List Nat) (hlen':os'.length<=c9) (hv:en (bh (xt D 0 os)).h vs vs') (ho:cp (bh (xt D 0 os)).h (zb D 0 os) os'):jh bb vs os vs' os':=by
 have fC:os.length<=os'.length:=by have:=ho.len;rw [Pg] at this;exact this
 have hlen:os.length<=c9:=zzu fC hlen';refine ⟨hv.len,fun q=>zzu q fC,fun g w us aB bF hr=>?_⟩;obtain ⟨hD,uD⟩:∃ hD,(bh (xt D 0 os)).h=hD:=⟨_,rfl⟩;rw [uD] at hv ho;have ef:∀ o,(bh os).h.get o=(os[o]?).join:=Dd os hlen;have mU:∀ o,hD.get o=if o ∈ D then (os[o]?).join else none:=fun o=>by rw [<- uD,Dd _ (by rw [Z2];exact hlen),aca,Nat.zero_add]
 have fK:∀ o y,(bh os').h.get o=some y->(o ∉ D/\((bh os).h.get o=some y\/∃ cells cells' k st et,y = .row cells' k st et/\(bh os).h.get o=some (.row cells k st et)/\en hD cells cells'))\/(os.length<=o/\I9 y):=fun o y hy=>by
  rw [Dd _ hlen'] at hy;have eC:∀ z,((zb D 0 os)[o]?).join=some z->o ∉ D/\(os[o]?).join=some z:=fun z hz=>by
   rw [abn,Nat.zero_add] at hz;by_cases hd:o ∈ D
   ·rw [if_pos hd] at hz;cases hz
   ·rw [if_neg hd] at hz;exact ⟨hd,hz⟩
  rw [ef];rcases ho.get o y hy with h1|⟨cells,cells',k,st,et,h1,h2,h3⟩|h1
  ·exact .inl ⟨(eC _ h1).1,.inl (eC _ h1).2⟩
  ·exact .inl ⟨(eC _ h2).1,.inr ⟨cells,cells',k,st,et,h1,(eC _ h2).2,h3⟩⟩
  ·rw [Pg] at h1;exact .inr h1
 have aU:∀ o x,hD.get o=some x->o ∈ D/\(bh os).h.get o=some x:=fun o x hx=>by
  rw [mU] at hx;by_cases hd:o ∈ D
  ·rw [if_pos hd] at hx;rw [ef];exact ⟨hd,hx⟩
  ·rw [if_neg hd] at hx;cases hx
 have lY:Ok g hD w:=aB.part (fun o x hx=>(aU o x hx).2);obtain ⟨K',eK⟩:∃ K':Nat->Nat->Prop,(fun b j=>g.K b j\/∃ o base cells k s e,hD.get o=some (.row cells k s e)/\g.inj o=some (b,base)/\∃ i,(s=0\/i<cells.length)/\j=base+i)=K':=⟨_,rfl⟩;have hK':∀ b j,K' b j↔(g.K b j\/∃ o base cells k s e,hD.get o=some (.row cells k s e)/\g.inj o=some (b,base)/\∃ i,(s=0\/i<cells.length)/\j=base+i):=fun b j=>by rw [<- eK]
 have mJ:u9 g hD K':=⟨fun b j h=>(hK' b j).2 (.inl h),fun o cells k s e h b base hi j hj=>(hK' _ _).2 (.inr ⟨o,base,cells,k,s,e,h,hi,j,hj,rfl⟩)⟩;have mL:∀ {a b:AV} {v:Value},fc hD a b->Rel g w a v->Rel { g with K:=K' } w b v:=fun {a b v} hl hrel=>by
  have pS:Rel { g with K:=K' } w a v:=Rel.ext (g:=g) (w:=w) (g':={ g with K:=K' }) (w':=w) ⟨rfl,fun _ _ h=>h,fun b j h=>(hK' b j).2 (.inl h),fun _ _ _=>rfl,fun b cs e fr h=>⟨cs,fr,h,rfl⟩,fun b l h=>⟨l,h⟩,fun _ _ _ _ _ _=>rfl⟩ hrel;cases hl with
  |same=>exact pS
  |data C fr x a hd=>exact (C.J3 lY mJ (fun _=>zza g.b0) hrel hd).lift (zza _) (fun _ _ h=>h)
  |bad=>exact .bad _
  |nil o off sz=>obtain rfl:=pS.exact rfl;exact .tg _ _ _
  |mq loc sz=>obtain rfl:=pS.exact rfl;exact .jy _ _
 refine ⟨{ g with K:=K' },⟨aB.size,fun o y hy=>?_,fun o o' x x' b base base' hne hx hx' hb hb'=>?_,fun b j hk=>?_⟩,⟨by rw [hv.len];exact hr.1,fun i b v hb hv'=>?_⟩,rfl,fun o q=>bF o (zzu fC q),fun _ _=>rfl,fun b j h=>(hK' b j).2 (.inl h),fun o b base bQ hi'=>?_,fun b j hk=>?_⟩
 ·rcases fK o y hy with ⟨bR,hy⟩|⟨hge,oO⟩
  case inr=>exact .inl ⟨bF o hge,oO⟩
  have tZ:∀ b base,g.inj o=some (b,base)->((bh os).h.get o).isSome=true->∀ j,K' b j->g.K b j:=fun b base hi hs j hk=>by
   rcases (hK' b j).1 hk with h|⟨o2,aI,cells,k,s,e,h1,h2,_⟩
   ·exact h
   ·exfalso;obtain ⟨gR,h1'⟩:=aU o2 _ h1;obtain ⟨x,hx⟩:=zzv.1 hs;exact aB.sep o o2 x _ b base aI (fun e=>bR (by rw [e];exact gR)) hx h1' hi h2
  have aG:Ext g w { g with K:=K' } w:=⟨rfl,fun _ _ h=>h,fun b j h=>(hK' b j).2 (.inl h),fun _ _ _=>rfl,fun b cs e fr h=>⟨cs,fr,h,rfl⟩,fun b l h=>⟨l,h⟩,fun _ _ _ _ _ _=>rfl⟩;rcases hy with hy|⟨cells,cells',k,st,et,rfl,hy,hcl⟩
  ·refine (aB.mn o y hy).imp id ?_;rintro ⟨b,base,h1,h2,h3⟩;exact ⟨b,base,h1,h2,h3.ext aG rfl (fun j hj=>tZ b base h1 (by rw [hy];rfl) j hj)⟩
  ·refine (aB.mn o _ hy).imp (fun q=>⟨q.1,by
    obtain ⟨s0,e0,he⟩:=q.2;simp only [bo.row.injEq] at he;obtain ⟨rfl,rfl,rfl,rfl⟩:=he;cases hcl;exact ⟨_,_,rfl⟩⟩) ?_
   rintro ⟨b,base,h1,h2,cs,fr,r1,r2,r3,r4,r5,r6,r7⟩;refine ⟨b,base,h1,h2,cs,fr,r1,by rw [hcl.len];exact r2,fun j c hc=>?_,r4,fun j hj=>r5 j (tZ b base h1 (by rw [hy];rfl) j hj),r6,fun e=>by rw [hcl.len];exact r7.1 e,fun e=>by rw [hcl.len];exact r7.2 e⟩;obtain ⟨a,ha,kC⟩:=hcl.get j c hc;obtain ⟨u,hu,qA⟩:=r3 j a ha;exact ⟨u,hu,mL kC qA⟩
 ·have q:∀ o y p,(bh os').h.get o=some y->g.inj o=some p->∃ z,(bh os).h.get o=some z:=fun o y p hy hp=>by
   rcases fK o y hy with ⟨_,h|⟨_,_,_,_,_,_,h,_⟩⟩|⟨h,_⟩
   ·exact ⟨_,h⟩
   ·exact ⟨_,h⟩
   ·rw [bF o h] at hp;cases hp
  obtain ⟨z,hz⟩:=q o x _ hx hb;obtain ⟨z',hz'⟩:=q o' x' _ hx' hb';exact aB.sep o o' z z' b base base' hne hz hz' hb hb'
 ·rcases (hK' b j).1 hk with h|⟨o,base,cells,k,s,e,h1,h2,_⟩
  ·exact aB.K b j h
  ·obtain ⟨b',base',h3,_,h4⟩:=lY.obj o _ h1;rw [h2] at h3;cases h3;exact h4.lt
 ·obtain ⟨a,ha,kC⟩:=hv.get i b hb;exact mL kC (hr.2 i a v ha hv')
 ·obtain ⟨y,hy⟩:=zzv.1 bQ;rcases fK o y hy with ⟨_,h|⟨_,_,_,_,_,_,h,_⟩⟩|⟨h,_⟩
  ·exact ⟨o,base,by rw [h];rfl,hi'⟩
  ·exact ⟨o,base,by rw [h];rfl,hi'⟩
  ·have:g.inj o=some (b,base):=hi';rw [bF o h] at this;cases this
 ·rcases (hK' b j).1 hk with h|⟨o,base,cells,k,s,e,h1,h2,_⟩
  ·exact .inl h
  ·exact .inr ⟨o,base,by rw [(aU o _ h1).2];rfl,h2⟩
theorem abq {α:Type} {P:Program} {T:eh} {bb:Nat} {b:Code} {Q:QL} {L:SL} {st:St} (keep:List Nat) (V : α->List AV) (O : α->List (Option bo)) (I : α->Prop) (μ : α->Nat) (x : α) (hx:I x)
 (hv:jh bb (ij bb keep L st) (fl bb keep L st) (V x) (O x))
 (step:∀ x,I x->wl P T bb b (xl bb keep (fun vs os=>∃ y,I y /\ μ y < μ x/\jh bb vs os (V y) (O y)) Q) (iz keep (V x)) (bh (O x))):tx bb (wl P T bb b) Q L st:=
 tx.ays keep V O I μ x hx hv (fun _ _ h=>C3 b _ _ h) step
theorem fm {α:Type} {P:Program} {T:eh} {bb:Nat} {b:Code} {Q:QL} {L:SL} {st:St} (keep:List Nat) (V : α->List AV) (O : α->List (Option bo)) (I : α->Prop) (μ : α->Nat) (x : α) (hx:I x)
 (hv:jh bb (ij bb keep L st) (fl bb keep L st) (V x) (O x))
 (step:∀ x,I x->wl P T bb b (xl bb keep (fun vs os=>∃ y,I y /\ μ y < μ x/\vs=V y/\os=O y) Q) (iz keep (V x)) (bh (O x))):tx bb (wl P T bb b) Q L st:=
 abq keep V O I μ x hx hv (fun x hi=>C3 b _ _ (fun e L' aA hq=>by
  cases e with
  |normal=>
   obtain ⟨y,h1,h2,h3,h4⟩:=hq;refine ⟨y,h1,h2,?_⟩;rw [h3,h4];exact .refl _ _ _
  |exit id=>exact hq
  |ret=>exact hq) _ _ (step x hi))
theorem Ir (f) (l):(List.map (ah.val f) l).flatMap AV.cells=l.map (ah.val f):=P4 ah f rfl rfl l
theorem V2 (f) (l):(List.map (ah.val f) l).all AV.one=true:=by rw [<- Ir f l,Ud];exact yu _ _ _
theorem Mg (fr h n cells k st et) (hn:n=cells.length) (hro:Af fr st 1 .str et=true):kf ah fr h 0 n (.row cells k st et)=rk ah fr h cells:=ya ah rfl fr h n cells k st et hn hro
theorem Zz:ah.kd = .str:=id rfl
theorem S1 (fr h f) (l):rk ah fr h (List.map (ah.val f) l)=some l:=by
 have e:List.map (ah.val f) l=List.map (ah.val true) l:=by cases f<;>rfl
 rw [e];exact Gc ah rfl rfl fr h true (fun _=>rfl) l
theorem Lx (f) (l):(List.map (bq.val f) l).flatMap AV.cells=l.map (bq.val f):=P4 bq f rfl rfl l
theorem Z3 (f) (l):(List.map (bq.val f) l).all AV.one=true:=by rw [<- Lx f l,Ud];exact yu _ _ _
theorem Ny (fr h n cells k st et) (hn:n=cells.length) (hro:Af fr st 1 (.int .u8) et=true):kf bq fr h 0 n (.row cells k st et)=rk bq fr h cells:=ya bq rfl fr h n cells k st et hn hro
theorem aen:bq.kd=(.int .u8):=id rfl
theorem Vv (fr h f) (l):rk bq fr h (List.map (bq.val f) l)=some l:=by
 have e:List.map (bq.val f) l=List.map (bq.val true) l:=by cases f<;>rfl
 rw [e];exact Gc bq rfl rfl fr h true (fun _=>rfl) l
theorem Iv (f) (l):(List.map (cw.val f) l).flatMap AV.cells=l.map (cw.val f):=P4 cw f rfl rfl l
theorem U5 (f) (l):(List.map (cw.val f) l).all AV.one=true:=by rw [<- Iv f l,Ud];exact yu _ _ _
theorem Mp (fr h n cells k st et) (hn:n=cells.length) (hro:Af fr st 1 (.int .u32) et=true):kf cw fr h 0 n (.row cells k st et)=rk cw fr h cells:=ya cw rfl fr h n cells k st et hn hro
theorem Zl:cw.kd=(.int .u32):=id rfl
theorem Sm (fr h f) (l):rk cw fr h (List.map (cw.val f) l)=some l:=by
 have e:List.map (cw.val f) l=List.map (cw.val true) l:=by cases f<;>rfl
 rw [e];exact Gc cw rfl rfl fr h true (fun _=>rfl) l
theorem Kc (fr h n cells k st et) (hn:n=cells.length) (hro:Af fr st 1 .no et=true):kf ak fr h 0 n (.row cells k st et)=rk ak fr h cells:=ya ak rfl fr h n cells k st et hn hro
theorem Pt (fr h f) (l) (hf:(f || !fr)=true):rk ak fr h (List.map (ak.val f) l)=some l:=Gc ak rfl rfl fr h f (fun e=>by subst e;simpa using hf) l
theorem M1 (fr h l n xs) (hn:n=1) (hl:(l || !fr)=true):gy ah fr h (.vl l n (xs.map (ah.val false)))=some xs:=by
 cases l with
 |true=>exact vw ah fr h true xs n hn hl
 |false=>exact vw ah fr h false xs n hn hl
theorem We:ah.val true=ah.val false:=id rfl
theorem Rz (fr h l n xs) (hn:n=1) (hl:(l || !fr)=true):gy bq fr h (.vl l n (xs.map (bq.val false)))=some xs:=by
 cases l with
 |true=>exact vw bq fr h true xs n hn hl
 |false=>exact vw bq fr h false xs n hn hl
theorem Zm:bq.val true=bq.val false:=id rfl
theorem Ox (fr h l n xs) (hn:n=1) (hl:(l || !fr)=true):gy cw fr h (.vl l n (xs.map (cw.val false)))=some xs:=by
 cases l with
 |true=>exact vw cw fr h true xs n hn hl
 |false=>exact vw cw fr h false xs n hn hl
theorem Vl:cw.val true=cw.val false:=id rfl
theorem Vy (fr h s):ah.dec fr h [.sc (.string s)]=some s:=id rfl
theorem aas (fr h) (c:UInt8):bq.dec fr h [.sc (.int .u8 c.toNat)]=some c:=bq.rt fr h true c (fun _=>rfl)
theorem Wl (fr h) (c:UInt16):cf.dec fr h [.sc (.int .u16 c.toNat)]=some c:=cf.rt fr h true c (fun _=>rfl)
theorem Wm (fr h) (c:UInt32):cw.dec fr h [.sc (.int .u32 c.toNat)]=some c:=cw.rt fr h true c (fun _=>rfl)
theorem abz (a b:List AV):AV.fresh.go (a++b)=(AV.fresh.go a && AV.fresh.go b):=by
 induction a with
 |nil=>rfl
 |cons x a ih=>simp only [List.cons_append,AV.fresh.go,ih,Bool.and_assoc]
theorem ahr (f) (l:List UInt8):AV.fresh.go (l.map (bq.val f))=true:=by
 induction l with
 |nil=>rfl
 |cons x l ih=>simp only [List.map_cons,AV.fresh.go,ih];rfl
theorem Rl (f) (c:Name):(ak.val f c).one=true:=id rfl
theorem Mk (f) (c:Name):(ak.val f c).cells=[ak.val f c]:=id rfl
theorem acb (fr h a):(br bq).dec fr h [a]=gy bq fr h a:=id rfl
theorem On (fr h n cells k st et) (hn:n=cells.length) (hro:Af fr st 1 .no et=true):kf (br bq) fr h 0 n (.row cells k st et)=rk (br bq) fr h cells:=ya (br bq) rfl fr h n cells k st et hn hro
structure jn (B:fh) (nt:NT) (L:SL) (st:St) (g:Gh) (a:Act) (w:World):Prop where
 cur:j8 B g st w
 sl:i6 g w nt L a.tmps
 Fg:Marks B.D B.n0 st.h g w a.defers
theorem tp.n0 {B:fh} {n d g h w} (q:tp B g h w):tp { B with n0:=n,D:=d } g h w:=⟨q.b0,q.pins,q.K,q.cell,q.size,q.os,q.tape,q.output,q.frame,q.own,q.n8,q.sv,q.lp,q.whole⟩
theorem tp.aE8 {B:fh} {n d g h w} (q:tp { B with n0:=n,D:=d } g h w):tp B g h w:=⟨q.b0,q.pins,q.K,q.cell,q.size,q.os,q.tape,q.output,q.frame,q.own,q.n8,q.sv,q.lp,q.whole⟩
theorem j8.n0 {B:fh} {n d g st w} (q:j8 B g st w):j8 { B with n0:=n,D:=d } g st w:=⟨q.ok,q.fresh,q.base.n0,q.bb⟩
theorem piece {P:Program} [KP P] {T:eh} (hT:ar P T) (hm:P.follows .mixedOrders=true) {N:Nat} {B:fh} {nt:NT} (aH:B.ll) (hp:B.bb<=1000) (aS:B.n0<=B.w.heap.size) {c:Code} (hs:ec nt c=true) {Q:QL} {L:SL} {st:St} {g:Gh} {a:Act} {w:World}
 (h:wl P T B.bb c Q L st) (hh:jn B nt L st g a w) :
 c.wpIn (ft none) N P (fun ex a' w'=>∃ e L' aA g',ex=sm e/\Q e L' aA/\jn B nt L' aA g' a' w'/\tp (kx g st.h w B.bb (fun _=>False)) g' aA.h w') a w:=by
 have hc1:j8 { kx g st.h w B.bb (fun _=>False) with n0:=B.n0,D:=B.D } g st w:=(hh.cur.Rk B.bb (fun _=>False) hh.cur.bb (fun o h=>(aH o h).elim)).n0;refine wpIn_mono (api hT hm (N:=N) (B:={ kx g st.h w B.bb (fun _=>False) with n0:=B.n0,D:=B.D }) (nt:=nt) (fun _ h=>h) hp (zzu aS hh.cur.base.size) c hs Q L st g w a h hc1 hh.sl hh.Fg) ?_;rintro ex a' w' ⟨e,L',aA,g',rfl,hq,hc',hr',aW⟩;have hb:=hc'.base.aE8 (B:=kx g st.h w B.bb (fun _=>False));exact ⟨e,L',aA,g',rfl,hq,⟨⟨hc'.ok,fun o h1 _=>hc'.fresh o h1 (fun h=>h),hh.cur.base.comp hb (zza _) (fun o h=>(aH o h).elim) (fun _ h=>h.elim),hc'.bb⟩,hr',aW⟩,hb⟩
structure P2 (g:Gh) (w:World) (g':Gh) (w':World):Prop where
 b0:g'.b0=g.b0
 K:∀ b j,g.K b j->g'.K b j
 cell:∀ b j,g.K b j->w'.cell? ⟨b,j,none⟩=w.cell? ⟨b,j,none⟩
 sv:∀ (b:Nat) (cs:Array Value) (e:TypeId) (fr:Nat × Nat),w.heap[b]? = some (Obj.cells cs e fr)->∃ (cs':Array Value) (cI:Nat × Nat),w'.heap[b]? = some (Obj.cells cs' e cI)/\cs'.size=cs.size
 lp:∀ (b:Nat) (l:Loop),w.heap[b]? = some (Obj.loop l)->∃ l',w'.heap[b]? = some (Obj.loop l')
 whole:∀ (b:Nat) (cs:Array Value) (e:TypeId) (fr:Nat × Nat),w.heap[b]? = some (Obj.cells cs e fr)->(∀ j,g.K b j)->w'.heap[b]? = w.heap[b]?
theorem P2.more {g g':Gh} {w:World} (h1:g'.b0=g.b0) (h2:∀ b j,g.K b j->g'.K b j):P2 g w g' w:=⟨h1,h2,fun _ _ _=>rfl,fun b cs e fr h=>⟨cs,fr,h,rfl⟩,fun b l h=>⟨l,h⟩,fun _ _ _ _ _ _=>rfl⟩
theorem Rel.plain {g g' w w' a v} (ha:a.da (fun _=>none)=a) (h:Rel g w a v) (hl:P2 g w g' w'):Rel g' w' a v:=by have h1:=h.da (τ:=fun _=>none) (N:=[]) (fun o p e=>by cases e);rw [ha] at h1;have hx:Ext (g.da []) w g' w':=⟨hl.b0,fun o p e=>(by cases e),hl.K,hl.cell,hl.sv,hl.lp,hl.whole⟩;exact h1.ext hx
def Qa (cells:List AV):Prop:=AV.da.go (fun _=>none) cells=cells
theorem asl {cells:List AV} (h:Qa cells) {j:Nat} {a:AV} (ha:cells[j]? = some a):a.da (fun _=>none)=a:=by unfold Qa at h;rw [gv] at h;have:=congrArg (·[j]?) h;simp only [zzj,ha,Option.map_some,Option.some.injEq] at this;exact this
theorem at7 {g w g' w' b base cells k s et} (hcl:Qa cells) (hl:P2 g w g' w') (hh:w'.heap[b]? = w.heap[b]?) (hK:∀ j,g'.K b j->g.K b j) (h:l9 g w b base (.row cells k s et)):l9 g' w' b base (.row cells k s et):=by obtain ⟨cs,fr,h1,h2,h3,h4,h5,h6⟩:=h;refine ⟨cs,fr,hh.trans h1,h2,fun j a ha=>?_,h4,fun j hj=>h5 j (hK j hj),h6⟩;obtain ⟨c,hc,hr⟩:=h3 j a ha;exact ⟨c,hc,hr.plain (asl hcl ha) hl⟩
theorem jn.canon {B:fh} {nt L st g a w} (aH:B.ll) (hp:B.bb<=1000) (keep:List Nat) (h:jn B nt L st g a w):jn B nt (iz keep (ij B.bb keep L st)) (bh (fl B.bb keep L st)) (g.da (ik B.bb keep L st)) a w:=
 ⟨(Ha aH hp keep h.cur h.sl).1,(Ha aH hp keep h.cur h.sl).2,Du hp keep h.Fg⟩
theorem aq5 {P:Program} [KP P] {N:Nat} {F:Fence} {c:Code} {Q:Exit->Act->World->Prop} {α:Type} (I : α->Act->World->Prop) (μ : α->Nat)
 (h:∀ x a w,I x a w->c.wpIn F N P (Exit.then (fun a' w'=>∃ y,μ y < μ x/\I y a' w') Q) a w) (x : α) (a:Act) (w:World) (hi:I x a w):(Code.loop c).wpIn F N P Q a w:=by
 refine Cd fun X hX=>?_
 have key:∀ n x a w,μ x=n->I x a w->X a w:=by
  intro n
  induction n using Nat.strongRecOn with
  |_ n ih=>
   intro x a w hn hi;refine hX a w (wpIn_mono (h x a w hi) ?_);intro ex a' w' hq;cases ex with
   |normal=>
    obtain ⟨y,h1,h2⟩:=hq;exact ih (μ y) zO y a' w' rfl h2
   |exit id=>exact hq
   |goto l=>exact hq
   |ret=>exact hq
   |panic ch=>exact hq
   |outgrown=>exact hq
 exact key _ x a w rfl hi
theorem Ga {P:Program} [KP P] {f:Nat} {fn:Func} {body:Code} (hf:P.funcs[f]? = some fn) (hb:fn.body=some body) (he:nq P f=true)
 {args:List AV} (hl:args.length<=fn.ntmps) {ρ:Type} (R:RC ρ) (fr:Bool) (x : ρ)
 (h:∀ (B:fh) (g:Gh) (a:Act) (w:World),B.ll->B.bb=0->(∀ b,¬ B.O b)->B.n0<=B.w.heap.size->jn B fn.ntmps (cg 0 args) (bh []) g a w->body.wpIn (ft none) 0 P (Fin B fn.ntmps (c8 P fn.results.toList (fun r st=>R.get fr st.h r=some x))) a w):bf P f args (R.E fr x):=by
 intro K w vs hK hrel;refine .inr ⟨sq he _ _,u2 (ro:=none) (n:=0) (callsIn_of_wp_marks hf hb trivial ?_)⟩
 let B:fh:={ b0:=w.heap.size,w,K,O:=fun _=>False,bb:=0,pb:=fun _=>none,n0:=w.heap.size }
 have dK:j8 B (gK w.heap.size K) (bh []) w:=by
  refine ⟨⟨zza _,fun o x hx=>?_,fun o o' x x' b base base' _ hx=>?_,hK⟩,fun o _ _=>rfl,⟨rfl,(fun o ho=>(by rcases ho with ho|ho;cases ho;exact ho.elim)),fun _ _ h=>h,fun _ _ _=>rfl,zza _,rfl,rfl,rfl,fun _ _ _=>rfl,fun o b base ho=>?_,fun _ _ h=>.inl h,fun b cs e fr h=>⟨cs,fr,h,rfl⟩,fun b l h=>⟨l,h⟩,fun _ _ _ _ _ _=>rfl⟩,zzb _⟩
  ·simp [bh,l6,Tr.get_nil] at hx
  ·simp [bh,l6,Tr.get_nil] at hx
  ·simp [bh,l6,Tr.get_nil] at ho
 refine wpIn_mono (h B (gK w.heap.size K) _ w (fun _ h=>h) rfl (fun _ h=>h) (zza _) ⟨dK,B2 hrel hl,Marks.nil _ _ _ _⟩) ?_;rintro ex a w' ⟨e,L,st,g,rfl,hq,hc,hr,hd⟩;have fin:E8 (sg P L st fn.results.toList) (fun r st=>R.get fr st.h r=some x) st->bodyPostM (ft none) 0 P fn (fun e w'=>∃ v,e = .returned v/\k5 w w'/\Rel (gK w.heap.size (v9 K w w')) w' (R.E fr x) v) .ret a w':=by
  intro hq;show LeavesInM (ft none) 0 P fn a.tmps _ a.defers .returning w';unfold E8 at hq;cases hres:sg P L st fn.results.toList with
  |none=>rw [hres] at hq;exact hq.elim
  |some l=>
   rw [hres] at hq;have aT:=hc.base;obtain ⟨bs,e1,e2,e3⟩:=hd;have e1:=e1.trans (zzn _);rw [e1];refine D1 (Good:=fun u=>Ok g st.h u/\k5 w u/\(∀ a v,Rel g w' a v->Rel g u a v)/\u.heap.size=w'.heap.size) (S:=fun b=>w.heap.size<=b/\i5 g st.h b) ?_ ?_ bs w'
    ⟨hc.ok,⟨aT.size,fun b hlt=>aT.frame b hlt (fun h=>h),aT.os,aT.tape,aT.output⟩,fun _ _ h=>h,rfl⟩ e2 (fun b hb=>⟨⟨(e3 b hb).1,(e3 b hb).2.2⟩,(e3 b hb).2.1⟩)
   ·rintro u b ⟨g1,g2,g3,g4⟩ ⟨hb1,hb2⟩ hb3;have hput:=Ok.D2 (ds':=none) g1 hb3 hb2;exact ⟨hput.1,⟨by rw [lf];exact g2.size,fun c hc=>(ey u _ zO).trans (g2.heap c hc),g2.os,g2.tape,g2.output⟩,fun a v h=>hput.2 a v (g3 a v h),by rw [lf];exact g4⟩
   ·rintro u ⟨g1,g2,g3,g4⟩;obtain ⟨us,h1,h2⟩:=Pz (P:=P) g1 ⟨hr.1,fun t=>g3 _ _ (hr.2 t)⟩ fn.results.toList l hres;obtain ⟨v,h3,h4⟩:=Qe h1 h2;refine ⟨v,h3,v,rfl,g2,?_⟩;refine R.ok g1 ⟨fun b j hk=>?_,fun o cells k s e ho b base hi j hj=>?_⟩ (fun _=>?_) h4 hq
    ·rcases aT.n8 b j hk with h5|h5|h5
     ·exact .inl h5
     ·exact .inr ⟨h5,g1.K b j hk⟩
     ·exact h5.elim
    ·obtain ⟨b',base',h5,_,h6⟩:=g1.obj o _ ho;rw [hi] at h5;cases h5;rcases aT.own o b base (by rw [ho];rfl) hi with h7|h7
     ·exact .inr ⟨h7,h6.lt⟩
     ·exact h7.elim
    ·rw [aT.b0];exact zza _
 cases e with
 |normal=>exact fin hq
 |ret=>exact fin hq
 |exit id=>exact hq.elim
def mo (S:Nat->Prop) (M:Nat) (w:World) (k:LK) (v:Value):Prop:=
 (∃ a,v = .slice a 0 0)\/∃ (b off n cap:Nat) (cs:Array Value) (e:TypeId),v = .slice (some ⟨b,off,none⟩) n cap/\S b/\(n<=cap/\cap<=maxLen)/\w.heap[b]? = some (.cells cs e (0,0))/\TK.sz e=some 1/\off+cap<=cs.size /\
  ∀ (j:Nat) x,j<cap->cs[off+j]? = some x->nw x=k/\∀ s,x = .string s->s.size<=M
def mi (S:Nat->Prop) (N:Nat) (w:World) (sz:Nat) (E:World->List Value->Prop) (v:Value):Prop:=
 (∃ a,v = .slice a 0 0)\/∃ (b off n cap:Nat) (cs:Array Value) (e:TypeId),v = .slice (some ⟨b,off,none⟩) n cap/\n<=N/\S b/\(n<=cap/\cap<=maxLen)/\w.heap[b]? = some (.cells cs e (0,0))/\TK.sz e=some sz/\off % sz=0/\off+cap * sz<=cs.size /\
  ∀ j,j<n->E w ((List.range sz).map fun i=>cs.getD (off+j * sz+i) undef)
theorem mo.slice {S M w k v} (h:mo S M w k v):nw v = .no:=by rcases h with ⟨a,rfl⟩|⟨b,off,n,cap,cs,e,rfl,_⟩<;>rfl
theorem mi.slice {S N w sz E v} (h:mi S N w sz E v):nw v = .no:=by rcases h with ⟨a,rfl⟩|⟨b,off,n,cap,cs,e,rfl,_⟩<;>rfl
def Kept (S:Nat->Prop) (m:Nat) (xx:Bool) (w':World) (e:TypeId) (j:Nat) (x x':Value):Prop:=
 x'=x\/(nw x ≠ .no/\nw x'=nw x/\∀ s',x' = .string s'->∃ s,x = .string s/\s'.size<=s.size+m)\/((xx=true/\TK.sz e=some 4)/\((j % 4≠2/\x' = .slice none 0 0)\/(j % 4=2/\mo S (4+m) w' .str x')))
structure gp (S:Nat->Prop) (m:Nat) (xx:Bool) (w w':World):Prop where
 size:w.heap.size<=w'.heap.size
 os:w'.os=w.os
 tape:w'.tape=w.tape
 output:w'.output=w.output
 low:∀ b,b<w.heap.size->¬ S b->w'.heap[b]? = w.heap[b]?
 obj:∀ (b:Nat) o,w.heap[b]? = some o->(∀ cs e fr,o ≠ .cells cs e fr)->w'.heap[b]? = some o
 cells:∀ (b:Nat) (cs:Array Value) (e:TypeId) (fr:Nat × Nat),w.heap[b]? = some (.cells cs e fr)->∃ cs',w'.heap[b]? = some (.cells cs' e fr)/\cs'.size=cs.size /\
  ∀ (j:Nat) x x',cs[j]? = some x->cs'[j]? = some x'->Kept S m xx w' e j x x'
theorem gp.refl (S:Nat->Prop) (m:Nat) (xx:Bool) (w:World):gp S m xx w w where
 size:=zza _
 os:=rfl
 tape:=rfl
 output:=rfl
 low _ _ _:=rfl
 obj _ _ h _:=h
 cells _ cs _ _ h:=⟨cs,h,rfl,fun j x x' h1 h2=>.inl (by rw [h1] at h2;cases h2;rfl)⟩
theorem gp.quiet (S:Nat->Prop) (m:Nat) (xx:Bool) {w w':World} (hs:w.heap.size<=w'.heap.size) (ho:w'.os=w.os) (ht:w'.tape=w.tape) (hu:w'.output=w.output) (hh:∀ b,b<w.heap.size->w'.heap[b]? = w.heap[b]?):gp S m xx w w' where
 size:=hs
 os:=ho
 tape:=ht
 output:=hu
 low b hb _:=hh b hb
 obj b o h _:=(hh b (bu h)).trans h
 cells b cs e fr h:=⟨cs,(hh b (bu h)).trans h,rfl,fun j x x' h1 h2=>.inl (by rw [h1] at h2;cases h2;rfl)⟩
theorem mo.wide {S S':Nat->Prop} {M w k v} (hS:∀ b,S b->S' b) (h:mo S M w k v):mo S' M w k v:=by
 rcases h with h|⟨b,off,n,cap,cs,e,h0,h1,h2⟩
 ·exact .inl h
 ·exact .inr ⟨b,off,n,cap,cs,e,h0,hS b h1,h2⟩
theorem mo.mono {S M M' w k v} (h:mo S M w k v) (hM:M<=M'):mo S M' w k v:=by
 rcases h with h|⟨b,off,n,cap,cs,e,h0,h1,h2,h3,h4,h5,h6⟩
 ·exact .inl h
 ·exact .inr ⟨b,off,n,cap,cs,e,h0,h1,h2,h3,h4,h5,fun j x hj hx=>⟨(h6 j x hj hx).1,fun s hs=>zzu ((h6 j x hj hx).2 s hs) hM⟩⟩
theorem mo.ph {S m M xx w w' k v} (hk:k ≠ .no) (h:gp S m xx w w') (hl:mo S M w k v):mo S (M+m) w' k v:=by
 rcases hl with hl|⟨b,off,n,cap,cs,e,rfl,h1,h2,h3,h4,h5,h6⟩
 ·exact .inl hl
 ·obtain ⟨cs',q1,q2,q3⟩:=h.cells b cs e _ h3;refine .inr ⟨b,off,n,cap,cs',e,rfl,h1,h2,q1,h4,zO,fun j x' hj hx'=>?_⟩;have hlt:off+j<cs.size:=zO;have hx:=zz3 hlt;obtain ⟨kS,dS⟩:=h6 j _ hj hx;rcases q3 _ _ _ hx hx' with q|⟨_,q,qs⟩|⟨q,_⟩
  ·rw [q];exact ⟨kS,fun s hs=>by have:=dS s hs;omega⟩
  ·refine ⟨by rw [q];exact kS,fun s hs=>?_⟩;obtain ⟨s0,e1,e2⟩:=qs s hs;have:=dS s0 e1;omega
  ·have:=q.2;rw [h4] at this;cases this
theorem Kept.mono {S:Nat->Prop} {m m':Nat} {xx:Bool} {w:World} {e:TypeId} {j:Nat} {x y:Value} (hm:m<=m') (h:Kept S m xx w e j x y):Kept S m' xx w e j x y:=by
 rcases h with h|⟨h1,h2,h3⟩|⟨h1,h2⟩
 ·exact .inl h
 ·exact .inr (.inl ⟨h1,h2,fun s' hs=>by obtain ⟨s,e1,e2⟩:=h3 s' hs;exact ⟨s,e1,zO⟩⟩)
 ·exact .inr (.inr ⟨h1,h2.imp id (fun q=>⟨q.1,q.2.mono zO⟩)⟩)
theorem Kept.any {S:Nat->Prop} {m:Nat} {xx:Bool} {w:World} {e:TypeId} {j:Nat} {x y:Value} (h:Kept S m false w e j x y):Kept S m xx w e j x y:=by
 rcases h with h|h|⟨⟨h,_⟩,_⟩
 ·exact .inl h
 ·exact .inr (.inl h)
 ·cases h
theorem gp.mono {S m m' xx w w'} (hm:m<=m') (h:gp S m xx w w'):gp S m' xx w w':=
 ⟨h.size,h.os,h.tape,h.output,h.low,h.obj,fun b cs e fr hb=>by obtain ⟨cs',q1,q2,q3⟩:=h.cells b cs e fr hb;exact ⟨cs',q1,q2,fun j x x' hx hx'=>(q3 j x x' hx hx').mono hm⟩⟩
theorem gp.any {S m xx w w'} (h:gp S m false w w'):gp S m xx w w':=
 ⟨h.size,h.os,h.tape,h.output,h.low,h.obj,fun b cs e fr hb=>by obtain ⟨cs',q1,q2,q3⟩:=h.cells b cs e fr hb;exact ⟨cs',q1,q2,fun j x x' hx hx'=>(q3 j x x' hx hx').any⟩⟩
theorem Kept.trans {S:Nat->Prop} {m1 m2:Nat} {xx:Bool} {w1 w2:World} {e:TypeId} {j:Nat} {x y z:Value} (h1:Kept S m1 xx w1 e j x y) (ho:gp S m2 xx w1 w2) (h2:Kept S m2 xx w2 e j y z):Kept S (m1+m2) xx w2 e j x z:=by
 rcases h1 with rfl|⟨a1,a2,a3⟩|⟨a1,a2⟩
 ·exact h2.mono zO
 ·rcases h2 with rfl|⟨b1,b2,b3⟩|b
  ·exact .inr (.inl ⟨a1,a2,fun s' hs=>by obtain ⟨s,e1,e2⟩:=a3 s' hs;exact ⟨s,e1,zO⟩⟩)
  ·refine .inr (.inl ⟨a1,b2.trans a2,fun s' hs=>?_⟩);obtain ⟨s1,e1,e2⟩:=b3 s' hs;obtain ⟨s,e3,e4⟩:=a3 s1 e1;exact ⟨s,e3,zO⟩
  ·exact .inr (.inr ⟨b.1,b.2.imp id (fun q=>⟨q.1,q.2.mono zO⟩)⟩)
 ·rcases h2 with rfl|⟨b1,b2,b3⟩|b
  ·refine .inr (.inr ⟨a1,a2.imp id (fun q=>⟨q.1,(q.2.ph (by decide) ho).mono zO⟩)⟩)
  ·rcases a2 with ⟨_,rfl⟩|⟨_,q⟩
   ·exact absurd rfl b1
   ·exact absurd q.slice b1
  ·exact .inr (.inr ⟨b.1,b.2.imp id (fun q=>⟨q.1,q.2.mono zO⟩)⟩)
theorem gp.trans {S m1 m2 xx w1 w2 w3} (h1:gp S m1 xx w1 w2) (h2:gp S m2 xx w2 w3):gp S (m1+m2) xx w1 w3 where
 size:=zzu h1.size h2.size
 os:=h2.os.trans h1.os
 tape:=h2.tape.trans h1.tape
 output:=h2.output.trans h1.output
 low b hb hS:=(h2.low b (zyc hb h1.size) hS).trans (h1.low b hb hS)
 obj b o h hn:=h2.obj b o (h1.obj b o h hn) hn
 cells b cs e fr h:=by
  obtain ⟨cs1,a1,a2,a3⟩:=h1.cells b cs e fr h;obtain ⟨jE,b1,b2,b3⟩:=h2.cells b cs1 e fr a1;refine ⟨jE,b1,b2.trans a2,fun j x z hx hz=>?_⟩;have hlt:j<cs1.size:=by rw [a2];exact (zz1.1 hx).1
  have hy:=zz3 hlt;exact (a3 j x _ hx hy).trans h2 (b3 j _ z hy hz)
def U9 (S:Nat->Prop) (sz:Nat) (E:Nat->World->List Value->Prop):Prop:=
 ∀ {m M:Nat} {xx:Bool} {w w':World} {e:TypeId} {j0:Nat} {l l':List Value},4<=M->gp S m xx w w'->TK.sz e=some sz->j0 % sz=0->l.length=sz->l'.length=sz->(∀ (i:Nat) x x',l[i]? = some x->l'[i]? = some x'->Kept S m xx w' e (j0+i) x x')->E M w l->E (M+m) w' l'
theorem mi.ph {S N m M xx w w' sz E v} (hE:U9 S sz E) (hM : 4<=M) (h:gp S m xx w w') (hl:mi S N w sz (E M) v):mi S N w' sz (E (M+m)) v:=by
 rcases hl with hl|⟨b,off,n,cap,cs,e,rfl,h0,h1,h2,h3,h4,h5,h6,h7⟩
 ·exact .inl hl
 ·obtain ⟨cs',q1,q2,q3⟩:=h.cells b cs e _ h3;refine .inr ⟨b,off,n,cap,cs',e,rfl,h0,h1,h2,q1,h4,h5,zO,fun j hj=>?_⟩;have hle:(j+1) * sz<=cap * sz:=zz4 _ zO;rw [Nat.succ_mul] at hle;refine hE (j0:=off+j * sz) hM h h4 (by rw [Nat.add_mul_mod_self_right];exact h5) (by simp) (by simp) (fun i x x' hx hx'=>?_) (h7 j hj);rw [zzj,zzk] at hx hx';obtain ⟨i1,e1,rfl⟩:=hx;obtain ⟨i2,e2,rfl⟩:=hx';obtain ⟨hi,rfl⟩:=zg.1 e1;obtain ⟨_,rfl⟩:=zg.1 e2;simp only [List.length_range] at hi;simp only [List.getElem_range];have hlt:off+j * sz+i<cs.size:=zO;refine q3 _ _ _ ?_ ?_
  ·rw [zze,zz3 hlt];rfl
  ·rw [zze,zz3 zO];rfl
def adm (S:Nat->Prop) (M:Nat) (w:World) (l:List Value):Prop:=∃ v,l=[v]/\mo S M w .str v
def Qn (S:Nat->Prop) (Nn M:Nat) (w:World) (l:List Value):Prop:=∃ a b c d,l=[a,b,c,d]/\mi S Nn w 1 (adm S M) a/\mo S M w (.int .u32) b/\mo S M w .str c/\mo S M w (.int .u8) d
def Ct (S:Nat->Prop) (Nn Nd M:Nat) (w:World) (l:List Value):Prop:=∃ o t c u d,l=[o,t,c,u,d]/\mo S M w .str o/\nw t = .int .u16/\nw c = .int .u16/\nw u = .int .u32/\mi S Nd w 4 (Qn S Nn M) d
theorem Kept.same {S m xx w' e j x x' sz} (h:Kept S m xx w' e j x x') (hs:TK.sz e=some sz) (hz:sz≠4) (hx:nw x = .no):x'=x:=by
 rcases h with h|⟨h,_⟩|⟨h,_⟩
 ·exact h
 ·exact absurd hx h
 ·have h:=h.2;rw [hs] at h;cases h;exact absurd rfl hz
theorem Kept.kind {S m xx w' e j x x' sz k} (h:Kept S m xx w' e j x x') (hs:TK.sz e=some sz) (hz:sz≠4) (hx:nw x=k):nw x'=k:=by
 rcases h with rfl|⟨_,h,_⟩|⟨h,_⟩
 ·exact hx
 ·rw [h];exact hx
 ·have h:=h.2;rw [hs] at h;cases h;exact absurd rfl hz
theorem aky (S:Nat->Prop):U9 S 1 (adm S):=by
 rintro m M xx w w' e j0 l l' hM ho hs hj h1 h2 hk ⟨v,rfl,hv⟩
 match l',h2 with
 | [v'],_=>
  have:=(hk 0 v v' rfl rfl).same hs (by decide) hv.slice;subst this;exact ⟨_,rfl,hv.ph (by decide) ho⟩
theorem aaj {S N m M xx w w' v} (hM : 4<=M) (h:gp S m xx w w') (hl:mi S N w 1 (adm S M) v):mi S N w' 1 (adm S (M+m)) v:=hl.ph (aky S) hM h
theorem ak7 (S:Nat->Prop) (Nn:Nat):U9 S 4 (Qn S Nn):=by
 rintro m M xx w w' e j0 l l' hM ho hs hj h1 h2 hk ⟨a,b,c,d,rfl,ha,hb,hc,hd⟩
 match l',h2 with
 | [a',b',c',d'],_=>
  refine ⟨a',b',c',d',rfl,?_,?_,?_,?_⟩
  ·rcases hk 0 a a' rfl rfl with rfl|⟨q,_⟩|⟨_,⟨_,rfl⟩|⟨q,_⟩⟩
   ·exact aaj hM ho ha
   ·exact absurd ha.slice q
   ·exact .inl ⟨none,rfl⟩
   ·omega
  ·rcases hk 1 b b' rfl rfl with rfl|⟨q,_⟩|⟨_,⟨_,rfl⟩|⟨q,_⟩⟩
   ·exact hb.ph (by decide) ho
   ·exact absurd hb.slice q
   ·exact .inl ⟨none,rfl⟩
   ·omega
  ·rcases hk 2 c c' rfl rfl with rfl|⟨q,_⟩|⟨_,⟨q,rfl⟩|⟨_,q⟩⟩
   ·exact hc.ph (by decide) ho
   ·exact absurd hc.slice q
   ·exact .inl ⟨none,rfl⟩
   ·exact q.mono zO
  ·rcases hk 3 d d' rfl rfl with rfl|⟨q,_⟩|⟨_,⟨_,rfl⟩|⟨q,_⟩⟩
   ·exact hd.ph (by decide) ho
   ·exact absurd hd.slice q
   ·exact .inl ⟨none,rfl⟩
   ·omega
theorem Hj {S N Nn m M xx w w' v} (hM : 4<=M) (h:gp S m xx w w') (hl:mi S N w 4 (Qn S Nn M) v):mi S N w' 4 (Qn S Nn (M+m)) v:=hl.ph (ak7 S Nn) hM h
theorem Ct.ph {S Nn Nd m M xx w w' l} (hM : 4<=M) (h:gp S m xx w w') (hl:Ct S Nn Nd M w l):Ct S Nn Nd (M+m) w' l:=by obtain ⟨o,t,c,u,d,rfl,ho,ht,hc,hu,hd⟩:=hl;exact ⟨o,t,c,u,d,rfl,ho.ph (by decide) h,ht,hc,hu,Hj hM h hd⟩
theorem Va (S:Nat->Prop) (Nn Nd:Nat):U9 S 5 (Ct S Nn Nd):=by
 rintro m M xx w w' e j0 l l' hM ho hs hj h1 h2 hk ⟨o,t,c,u,d,rfl,hO,ht,hc,hu,hd⟩
 match l',h2 with
 | [o',t',c',u',d'],_=>
  have e1:=(hk 0 o o' rfl rfl).same hs (by decide) hO.slice;have e2:=(hk 4 d d' rfl rfl).same hs (by decide) hd.slice;subst e1 e2;exact ⟨_,t',c',u',_,rfl,hO.ph (by decide) ho,(hk 1 t t' rfl rfl).kind hs (by decide) ht,(hk 2 c c' rfl rfl).kind hs (by decide) hc,(hk 3 u u' rfl rfl).kind hs (by decide) hu,Hj hM ho hd⟩
theorem La {S N Nn Nd m M xx w w' v} (hM : 4<=M) (h:gp S m xx w w') (hl:mi S N w 5 (Ct S Nn Nd M) v):mi S N w' 5 (Ct S Nn Nd (M+m)) v:=hl.ph (Va S Nn Nd) hM h
theorem Zf {α:Type} (C:di α) (hz:C.sz=1) (ha:C.agg=false) {k:LK} (hk:C.kd=k) (hn:k ≠ .no) {M:Nat} {g:Gh} {w:World} {l:Bool} {xs:List α} {v:Value} (hM:∀ x ∈ xs,∀ c ∈ C.cells l x,∀ s,c = .sc (.string s)->s.size<=M) (hx:∀ x ∈ xs,∀ c ∈ C.cells l x,∃ u,c = .sc u) {S:Nat->Prop} (hS:∀ b,g.b0<=b->(∀ j,g.K b j)->S b) (hr:Rel g w (.vl true 1 (xs.map (C.val l))) v):mo S M w k v:=by
 generalize hes:xs.map (C.val l)=es at hr;cases hr with
 |jy=>exact .inl ⟨none,rfl⟩
 |tv _ _ a=>exact .inl ⟨some a,rfl⟩
 |vl _ _ _ b off cap c hsz hl aK h hrel hw=>
  obtain ⟨w1,⟨cs,e,w2,w3,w4,w5,w6⟩,w7,w8⟩:=hw rfl;rcases Nat.eq_zero_or_pos es.length with h0|h0
  ·have:=w7 rfl h0;subst this;rw [h0];exact .inl ⟨_,rfl⟩
  ·refine .inr ⟨b,off,es.length,cap,cs,e,rfl,hS b (hl rfl) w1,⟨aK,w8⟩,w2,w4,zO,fun j x hj kO=>?_⟩;have gQ:es.flatMap AV.cells=xs.flatMap (C.cells l):=by rw [<- hes,List.flatMap_map];congr 1;funext x;exact C.Ar l x
   have hlen:(es.flatMap AV.cells).length=es.length * 1:=Iu es hsz;have yI:(es.flatMap AV.cells)[0]? = some ((es.flatMap AV.cells)[0]'zO):=zh _;have hm:(es.flatMap AV.cells)[0]'zO ∈ xs.flatMap (C.cells l):=by rw [<- gQ];exact zyl _
   obtain ⟨y,_,hy⟩:=List.mem_flatMap.1 hm;have hc0:=C.Lm hz hy (hrel 0 _ yI);rcases w6 rfl j x hj kO with q|⟨q,qt⟩
   ·rw [hc0,hk] at q;exact absurd q hn
   ·refine ⟨by rw [q,hc0,hk],fun s hs=>?_⟩;by_cases hjn:j<es.length
    ·have tR:(es.flatMap AV.cells)[j]? = some ((es.flatMap AV.cells)[j]'zO):=zh _;have wW:(es.flatMap AV.cells)[j]'zO ∈ xs.flatMap (C.cells l):=by rw [<- gQ];exact zyl _
     obtain ⟨y2,hy2,jJ⟩:=List.mem_flatMap.1 wW;obtain ⟨u,hu⟩:=hx y2 hy2 _ jJ;have tF:=hrel j _ tR;rw [hu] at tF;have:=tF.exact rfl;have iV:c j=x:=by have h9:=(h j _ tR).2;rw [jr w2,kO] at h9;exact (Option.some.inj h9).symm
     rw [iV,hs] at this;exact hM y2 hy2 _ jJ s (by rw [hu,<- this])
    ·have:=qt zO;rw [hs] at this;have:s.size=0:=zzg this;omega
theorem X4 {α:Type} (C:di α) {N sz:Nat} (hz:C.sz=sz) {E:World->List Value->Prop} {g:Gh} {w:World} {l:Bool} {xs:List α} {v:Value} (hN:xs.length<=N) (hE:∀ x ∈ xs,∀ vs,bt g w (C.cells l x) vs->E w vs) {S:Nat->Prop} (hS:∀ b,g.b0<=b->(∀ j,g.K b j)->S b) (hr:Rel g w (.vl true sz (xs.map (C.val l))) v):mi S N w sz E v:=by
 generalize hes:xs.map (C.val l)=es at hr;cases hr with
 |jy=>exact .inl ⟨none,rfl⟩
 |tv _ _ a=>exact .inl ⟨some a,rfl⟩
 |vl _ _ _ b off cap c hsz hl aK h hrel hw=>
  obtain ⟨w1,⟨cs,e,w2,w3,w4,w5,w6⟩,w7,w8⟩:=hw rfl;refine .inr ⟨b,off,es.length,cap,cs,e,rfl,by rw [<- hes,zzo];exact hN,hS b (hl rfl) w1,⟨aK,w8⟩,w2,w4,w5,w3,fun j hj=>?_⟩;have hj':j<xs.length:=by rw [<- hes,zzo] at hj;exact hj
  refine hE (xs[j]) (zyl hj') _ ⟨by rw [C.len];simp [hz],fun i a u ha hu=>?_⟩;rw [zzj,zzk] at hu;obtain ⟨i1,e1,rfl⟩:=hu;obtain ⟨hi,rfl⟩:=zg.1 e1;simp only [List.length_range] at hi;simp only [List.getElem_range];have hcell:(es.flatMap AV.cells)[j * sz+i]? = some a:=by
   have gQ:es.flatMap AV.cells=xs.flatMap (C.cells l):=by rw [<- hes,List.flatMap_map];congr 1;funext x;exact C.Ar l x
   have hd:∀ (ys:List α) (m:Nat),(ys.flatMap (C.cells l)).drop (m * C.sz)=(ys.drop m).flatMap (C.cells l):=by
    intro ys
    induction ys with
    |nil=>intro m;simp
    |cons y ys ih=>
     intro m;cases m with
     |zero=>simp
     |succ m=>
      rw [show (m+1) * C.sz=(C.cells l y).length+m * C.sz from by rw [C.len,Nat.succ_mul];omega,<- List.drop_drop,List.flatMap_cons,List.drop_left,ih,List.drop_succ_cons]
   have h1:=hd xs j;rw [hz] at h1;rw [gQ,<- zz6,h1,zzs hj',List.flatMap_cons,zzi (by rw [C.len];omega)];exact ha
  have h1:=h (j * sz+i) a hcell;have h2:=hrel (j * sz+i) a hcell;have h3:cs.getD (off+j * sz+i) undef=c (j * sz+i):=by have:=h1.2;rw [jr w2] at this;rw [zyk,zze,this];rfl
  rw [h3];exact h2
end
variable [TK]
structure Lp (w:World) (b:Nat) (cs:Array Value) (e:TypeId) (off m k:Nat) (wr:World):Prop where
 size:wr.heap.size=w.heap.size
 os:wr.os=w.os
 tape:wr.tape=w.tape
 output:wr.output=w.output
 other:∀ c,c≠b->wr.heap[c]? = w.heap[c]?
 row:∃ cs',wr.heap[b]? = some (.cells cs' e (0,0))/\cs'.size=cs.size/\∀ (j:Nat) x x',cs[j]? = some x->cs'[j]? = some x' ->
  x'=x\/(off<=j/\j<off+k/\nw x ≠ .no/\nw x'=nw x/\∀ s',x' = .string s'->∃ s,x = .string s/\s'.size<=s.size+m)
theorem Lp.start {w b cs e off m} (h:w.heap[b]? = some (.cells cs e (0,0))):Lp w b cs e off m 0 w where
 size:=rfl
 os:=rfl
 tape:=rfl
 output:=rfl
 other _ _:=rfl
 row:=⟨cs,h,rfl,fun j x x' h1 h2=>.inl (by rw [h1] at h2;cases h2;rfl)⟩
theorem Lp.frozen {w b cs e off m k wr} (h:Lp w b cs e off m k wr) (j:Nat):wr.frozen? ⟨b,j,none⟩=false:=by obtain ⟨cs',h1,_⟩:=h.row;unfold World.frozen?;simp only [h1];simp
theorem Lp.cell {w b cs e off m k wr x} (h:Lp w b cs e off m k wr) (hx:cs[off+k]? = some x):wr.cell? ⟨b,off+k,none⟩=some x:=by
 obtain ⟨cs',h1,h2,h3⟩:=h.row;rw [jr h1];have hlt:off+k<cs'.size:=by rw [h2];exact (zz1.1 hx).1
 have hx':=zz3 hlt;rcases h3 _ _ _ hx hx' with q|⟨_,q,_⟩
 ·rw [hx',q]
 ·omega
theorem Lp.step {w b cs e off m k wr x v} (h:Lp w b cs e off m k wr) (hx:cs[off+k]? = some x) (h1:nw x ≠ .no) (h2:nw v=nw x) (h3:∀ s',v = .string s'->∃ s,x = .string s/\s'.size<=s.size+m) :
 Lp w b cs e off m (k+1) (wr.setCell ⟨b,off+k,none⟩ v):=by
 obtain ⟨cs',r1,r2,r3⟩:=h.row;have hb:=bu r1;refine ⟨by simp [World.setCell,h.size],h.os,h.tape,h.output,fun c hc=>?_,cs'.setIfInBounds (off+k) v,?_,by simp [r2],fun j y y' hy hy'=>?_⟩
 ·rw [<- h.other c hc];simp only [World.setCell];rw [Array.getElem?_modify,if_neg (fun e=>hc e.symm)]
 ·simp only [World.setCell];rw [Array.getElem?_modify,if_pos rfl,r1];rfl
 ·rw [zzz] at hy';by_cases hj:off+k=j
  ·subst hj;rw [hx] at hy;cases hy;have hlt:off+k<cs'.size:=by rw [r2];exact (zz1.1 hx).1
   rw [if_pos rfl,if_pos hlt] at hy';cases hy';exact .inr ⟨zO,zO,h1,h2,h3⟩
  ·rw [if_neg hj] at hy';exact (r3 j y y' hy hy').imp id (fun q=>⟨q.1,zO,q.2.2⟩)
theorem Lp.ph {S w b cs e off m k wr} (h:Lp w b cs e off m k wr) (hw:w.heap[b]? = some (.cells cs e (0,0))) (hn:S b):gp S m false w wr where
 size:=by rw [h.size];exact zza _
 os:=h.os
 tape:=h.tape
 output:=h.output
 low c _ hc:=h.other c (fun e=>hc (e ▸ hn))
 obj c o hc hn:=by
  by_cases e:c=b
  ·subst e;rw [hw] at hc;cases hc;exact absurd rfl (hn _ _ _)
  ·rw [h.other c e];exact hc
 cells c cs0 e0 kW hc:=by
  by_cases e:c=b
  ·subst e;rw [hw] at hc;cases hc;obtain ⟨cs',r1,r2,r3⟩:=h.row;exact ⟨cs',r1,r2,fun j x x' hx hx'=>(r3 j x x' hx hx').imp id (fun q=>.inl ⟨q.2.2.1,q.2.2.2.1,q.2.2.2.2⟩)⟩
  ·exact ⟨cs0,(h.other c e).trans hc,rfl,fun j x x' hx hx'=>.inl (by rw [hx] at hx';cases hx';rfl)⟩
theorem mo.form {S M w k v} (h:mo S M w k v):∃ base n cap,v = .slice base n cap/\n<=cap/\cap<=maxLen/\(base=none->cap=0):=by
 rcases h with ⟨a,rfl⟩|⟨b,off,n,cap,cs,e,rfl,h1,⟨h2,h3⟩,_⟩
 ·exact ⟨a,0,0,rfl,zza _,zzb _,fun _=>rfl⟩
 ·exact ⟨_,n,cap,rfl,h2,h3,fun e=>by cases e⟩
def Nk (S:Nat->Prop) (m k:Nat) (w:World) (v:Value) (wr:World):Prop:=
 (∃ a,v = .slice a 0 0/\wr=w)\/∃ (b off n cap:Nat) (cs:Array Value) (e:TypeId),v = .slice (some ⟨b,off,none⟩) n cap/\S b/\w.heap[b]? = some (.cells cs e (0,0))/\Lp w b cs e off m k wr
theorem Nk.start {S m M w k v} (h:mo S M w k v):Nk S m 0 w v w:=by
 rcases h with ⟨a,rfl⟩|⟨b,off,n,cap,cs,e,rfl,h1,_,h3,_⟩
 ·exact .inl ⟨a,rfl,rfl⟩
 ·exact .inr ⟨b,off,n,cap,cs,e,rfl,h1,h3,.start h3⟩
theorem Nk.ph {S m k w v wr} (h:Nk S m k w v wr):gp S m false w wr:=by
 rcases h with ⟨a,_,rfl⟩|⟨b,off,n,cap,cs,e,_,h1,h3,h⟩
 ·exact .refl _ _ _ _
 ·exact h.ph h3 h1
theorem Nk.at {S m M k w kd base n cap wr} (hk:kd ≠ .no) (hv:mo S M w kd (.slice base n cap)) (h:Nk S m k w (.slice base n cap) wr) (hlt:k<cap) :
 ∃ b off x,base=some ⟨b,off,none⟩/\wr.cell? ⟨b,off+k,none⟩=some x/\wr.frozen? ⟨b,off+k,none⟩=false/\nw x=kd/\(∀ s,x = .string s->s.size<=M) /\
  ∀ v',nw v'=kd->(∀ s',v' = .string s'->∃ s,x = .string s/\s'.size<=s.size+m)->Nk S m (k+1) w (.slice base n cap) (wr.setCell ⟨b,off+k,none⟩ v'):=by
 rcases hv with ⟨a,e⟩|⟨b,off,n',cap',cs,e,he,h1,_,h3,h4,h5,h6⟩
 ·cases e;omega
 cases he;rcases h with ⟨a,e,_⟩|⟨b',bU,n',cap',cs',e',he',q1,q3,q⟩
 ·cases e;omega
 cases he';rw [h3] at q3;cases q3;have hl:off+k<cs.size:=zO;have hx:=zz3 hl;obtain ⟨r1,r2⟩:=h6 k _ hlt hx;exact ⟨b,off,_,rfl,q.cell hx,q.frozen _,r1,r2,fun v' e1 e2=>.inr ⟨b,off,n,cap,cs,e,rfl,h1,h3,q.step hx (by rw [r1];exact hk) (by rw [r1];exact e1) e2⟩⟩
theorem mi.form {S N w sz E v} (h:mi S N w sz E v):∃ base n cap,v = .slice base n cap/\n<=N/\n<=cap/\cap<=maxLen/\(base=none->cap=0):=by
 rcases h with ⟨a,rfl⟩|⟨b,off,n,cap,cs,e,rfl,h0,h1,⟨h2,h3⟩,_⟩
 ·exact ⟨a,0,0,rfl,zzb _,zza _,zzb _,fun _=>rfl⟩
 ·exact ⟨_,n,cap,rfl,h0,h2,h3,fun e=>by cases e⟩
theorem mi.at {S N w sz E base n cap} (h:mi S N w sz E (.slice base n cap)) {j:Nat} (hj:j<n) :
 ∃ b off cs e,base=some ⟨b,off,none⟩/\S b/\w.heap[b]? = some (.cells cs e (0,0))/\TK.sz e=some sz/\off % sz=0/\off+cap * sz<=cs.size/\(j+1) * sz<=cap * sz/\E w ((List.range sz).map fun i=>cs.getD (off+j * sz+i) undef):=by
 rcases h with ⟨a,e⟩|⟨b,off,n',cap',cs,e,he,h0,h1,⟨h2,h3⟩,h4,h5,h6,h7,h8⟩
 ·cases e;omega
 ·cases he;exact ⟨b,off,cs,e,rfl,h1,h4,h5,h6,h7,zz4 _ zO,h8 j hj⟩
theorem cell_of {w:World} {b j:Nat} {cs:Array Value} {e:TypeId} {fr:Nat × Nat} (h:w.heap[b]? = some (.cells cs e fr)) (hj:j<cs.size):w.cell? ⟨b,j,none⟩=some (cs.getD j undef):=by rw [jr h,zze,zz3 hj];rfl
theorem H4 {w:World} {b:Nat} {cs:Array Value} {e:TypeId} (h:w.heap[b]? = some (.cells cs e (0,0))) (j:Nat):w.frozen? ⟨b,j,none⟩=false:=by unfold World.frozen?;simp only [h];simp
theorem gp.set {S:Nat->Prop} {w:World} {b:Nat} {cs:Array Value} {e:TypeId} {j:Nat} {x v:Value} (h:w.heap[b]? = some (.cells cs e (0,0))) (hn:S b) (hx:cs[j]? = some x) (h1:nw x ≠ .no) (h2:nw v=nw x) (h3:∀ s,v ≠ .string s) :
 gp S 0 false w (w.setCell ⟨b,j,none⟩ v)/\(w.setCell ⟨b,j,none⟩ v).heap[b]? = some (.cells (cs.setIfInBounds j v) e (0,0)):=by
 refine ⟨((Lp.start (off:=j) (m:=0) h).step (k:=0) hx h1 h2 (fun s' q=>absurd q (h3 s'))).ph h hn,?_⟩;simp only [World.setCell];rw [Array.getElem?_modify,if_pos rfl,h];rfl
theorem mi.room {S N w sz E base n cap} (h:mi S N w sz E (.slice base n cap)) {j:Nat} (hj:j<cap) :
 ∃ b off cs e,base=some ⟨b,off,none⟩/\S b/\w.heap[b]? = some (.cells cs e (0,0))/\TK.sz e=some sz/\off % sz=0/\off+cap * sz<=cs.size/\(j+1) * sz<=cap * sz:=by
 rcases h with ⟨a,e⟩|⟨b,off,n',cap',cs,e,he,h0,h1,⟨h2,h3⟩,h4,h5,h6,h7,h8⟩
 ·cases e;omega
 ·cases he;exact ⟨b,off,cs,e,rfl,h1,h4,h5,h6,h7,zz4 _ zO⟩
theorem Oc {w:World} {b:Nat} {cs:Array Value} {e:TypeId} (h:w.heap[b]? = some (.cells cs e (0,0))) (o:Obj) (j:Nat):(w.alloc o).frozen? ⟨b,j,none⟩=false:=
 H4 ((Go.RowKit.Below.heap_alloc w o b (bu h)).trans h) j
theorem qn {w:World} {b:Nat} {cs:Array Value} {e:TypeId} {fr:Nat × Nat} (h:w.heap[b]? = some (.cells cs e fr)) (o:Obj) {j:Nat} (hj:j<cs.size):(w.alloc o).cell? ⟨b,j,none⟩=some (cs.getD j undef):=
 cell_of ((Go.RowKit.Below.heap_alloc w o b (bu h)).trans h) hj
theorem gp.alloc {S m xx w} (o:Obj):gp S m xx w (w.alloc o):=by
 have hold:∀ b,b<w.heap.size->(w.alloc o).heap[b]? = w.heap[b]? := fun b hb=>Go.RowKit.Below.heap_alloc w o b hb
 refine ⟨(by show w.heap.size<=(w.heap.push o).size;simp),rfl,rfl,rfl,fun b hb _=>hold b hb,fun b x hb _=>(hold b (bu hb)).trans hb,fun b cs e fr hb=>⟨cs,(hold b (bu hb)).trans hb,rfl,fun j x x' h1 h2=>.inl (by rw [h1] at h2;cases h2;rfl)⟩⟩
theorem lg (w:World) {b c:Nat} (j:Nat) (v:Value) (h:c≠b):(w.setCell ⟨b,j,none⟩ v).heap[c]? = w.heap[c]? := by simp only [World.setCell];rw [Array.getElem?_modify,if_neg (fun e=>h e.symm)]
theorem gp.aqg {S:Nat->Prop} {w:World} {b:Nat} {cs:Array Value} {e:TypeId} {j:Nat} {v:Value} (h:w.heap[b]? = some (.cells cs e (0,0))) (hn:S b) (hsz:TK.sz e=some 4)
 (hv:(j % 4≠2/\v = .slice none 0 0)\/(j % 4=2/\mo S 4 (w.setCell ⟨b,j,none⟩ v) .str v)) :
 gp S 0 true w (w.setCell ⟨b,j,none⟩ v)/\(w.setCell ⟨b,j,none⟩ v).heap[b]? = some (.cells (cs.setIfInBounds j v) e (0,0)):=by
 have hb:(w.setCell ⟨b,j,none⟩ v).heap[b]? = some (.cells (cs.setIfInBounds j v) e (0,0)):=by simp only [World.setCell];rw [Array.getElem?_modify,if_pos rfl,h];rfl
 refine ⟨⟨by simp [World.setCell],rfl,rfl,rfl,fun c _ hc=>lg w j v (fun e=>hc (e ▸ hn)),fun c o hc hno=>?_,fun c cs0 e0 kW hc=>?_⟩,hb⟩
 ·by_cases e1:c=b
  ·subst e1;rw [h] at hc;cases hc;exact absurd rfl (hno _ _ _)
  ·rw [lg w j v e1];exact hc
 ·by_cases e1:c=b
  ·subst e1;rw [h] at hc;cases hc;refine ⟨_,hb,by simp,fun i x x' hx hx'=>?_⟩;rw [zzz] at hx';by_cases hi:j=i
   ·subst hi;have hlt:=(zz1.1 hx).1;rw [if_pos rfl,if_pos hlt] at hx';cases hx';exact .inr (.inr ⟨⟨rfl,hsz⟩,hv⟩)
   ·rw [if_neg hi,hx] at hx';cases hx';exact .inl rfl
  ·exact ⟨cs0,(lg w j v e1).trans hc,rfl,fun i x x' hx hx'=>.inl (by rw [hx] at hx';cases hx';rfl)⟩
theorem gp.spare {S:Nat->Prop} {w:World} {b j:Nat} {cs:Array Value} {e t:TypeId} {s:ByteArray} (h:w.heap[b]? = some (.cells cs e (0,0))) (hn:S b) (hsz:TK.sz e=some 4) (hS:S w.heap.size) (hj:j % 4=0) (ht:TK.sz t=some 1) (hs:s.size<=4) :
 gp S 0 true w (((((w.alloc (.cells #[.string s] t)).setCell ⟨b,j,none⟩ (.slice none 0 0)).setCell ⟨b,j+1,none⟩ (.slice none 0 0)).setCell ⟨b,j+2,none⟩ (.slice (some ⟨w.heap.size,0,none⟩) 1 1)).setCell ⟨b,j+3,none⟩ (.slice none 0 0)):=by
 have hne:w.heap.size≠b:=by have:=bu h;omega
 have h0:(w.alloc (.cells #[.string s] t)).heap[b]? = _:=(Go.RowKit.Below.heap_alloc w _ b (bu h)).trans h;have ln:(w.alloc (.cells #[.string s] t)).heap[w.heap.size]? = some (.cells #[.string s] t (0,0)):=z9 w _;have q1:=gp.aqg (j:=j) (v:=.slice none 0 0) h0 hn hsz (.inl ⟨zO,rfl⟩);have q2:=gp.aqg (j:=j+1) (v:=.slice none 0 0) q1.2 hn hsz (.inl ⟨zO,rfl⟩);have q3:=gp.aqg (j:=j+2) (v:=.slice (some ⟨w.heap.size,0,none⟩) 1 1) q2.2 hn hsz (.inr ⟨zO,.inr ⟨w.heap.size,0,1,1,#[.string s],t,rfl,hS,⟨zza _,by decide⟩,?_,ht,zza _,fun i x hi hx=>?_⟩⟩);have q4:=gp.aqg (j:=j+3) (v:=.slice none 0 0) q3.2 hn hsz (.inl ⟨zO,rfl⟩)
 ·exact ((((gp.alloc (S:=S) (m:=0) (xx:=true) _).trans q1.1).trans q2.1).trans q3.1).trans q4.1
 ·rw [lg _ _ _ hne,lg _ _ _ hne,lg _ _ _ hne];exact ln
 ·have eL:i=0:=zO;subst eL;cases hx;exact ⟨rfl,fun s' e=>by cases e;exact hs⟩
theorem gp.stay {S m w w'} (h:gp S m false w w') {b j:Nat} {x:Value} (hx:w.cell? ⟨b,j,none⟩=some x) (hn:nw x = .no):w'.cell? ⟨b,j,none⟩=some x:=by
 unfold World.cell? at hx
 split at hx
 ·rename_i cs e fr hb;simp at hx;obtain ⟨cs',q1,q2,q3⟩:=h.cells b cs e fr hb;have hlt:j<cs'.size:=by rw [q2];exact (zz1.1 hx).1
  have hx':=zz3 hlt;rw [jr q1];rcases q3 j x _ hx hx' with q|⟨q,_⟩|⟨⟨q,_⟩,_⟩
  ·rw [hx',q]
  ·exact absurd hn q
  ·cases q
 ·cases hx
variable [TK]
noncomputable section
def ni:Nat->Code->Code
 |0,_=>.skip
 |1,.seq a _=>a
 |n+2,.seq a b=>.seq a (ni (n+1) b)
 |_,c=>c
def gm:Nat->Code->Code
 |0,c=>c
 |n+1,.seq _ b=>gm n b
 |_+1,_=>.skip
def Ou:Nat->Code->Bool
 |0,_=>true
 |n+1,.seq _ b=>Ou n b
 |_+1,_=>false
theorem i9 {P:Program} {T:eh} {bb:Nat} {a b:Code} {Q:QL} {L:SL} {st:St}:wl P T bb (ni 1 (.seq a b)) Q L st=wl P T bb a Q L st:=rfl
theorem lx {P:Program} {T:eh} {bb n:Nat} {a b:Code} {Q:QL} {L:SL} {st:St}:wl P T bb (ni (n+2) (.seq a b)) Q L st=wl P T bb a (Ik (wl P T bb (ni (n+1) b)) Q) L st:=rfl
theorem jg {P:Program} {T:eh} {bb n:Nat} {c:Code} {Q:QL} {L:SL} {st:St}:wl P T bb (ni n (gm 0 c)) Q L st=wl P T bb (ni n c) Q L st:=rfl
theorem jf {P:Program} {T:eh} {bb n m:Nat} {a b:Code} {Q:QL} {L:SL} {st:St}:wl P T bb (ni n (gm (m+1) (.seq a b))) Q L st=wl P T bb (ni n (gm m b)) Q L st:=rfl
theorem kr {P:Program} {T:eh} {bb:Nat} {c:Code} {Q:QL} {L:SL} {st:St}:wl P T bb (gm 0 c) Q L st=wl P T bb c Q L st:=rfl
theorem ko {P:Program} {T:eh} {bb m:Nat} {a b:Code} {Q:QL} {L:SL} {st:St}:wl P T bb (gm (m+1) (.seq a b)) Q L st=wl P T bb (gm m b) Q L st:=rfl
theorem ar5 {F:Fence} {N:Nat} {P:Program} {X:Exit->Act->World->Prop} {a:Act} {w:World} {c x y:Code} {m:Nat} (he:gm m c = .seq x y) (h:(Code.seq x y).wpIn F N P X a w):(gm m c).wpIn F N P X a w:=by rw [he];exact h
def D7 (X:SL->St->Prop) (Y:QL):QL:=fun e L st=>
 match e with
 |.normal=>X L st
 |e=>Y e L st
theorem om {X:SL->St->Prop} {Y:QL} {L st}:D7 X Y .normal L st=X L st:=rfl
theorem px {X:SL->St->Prop} {Y:QL} {L st}:D7 X Y .ret L st=Y .ret L st:=rfl
theorem pq {X:SL->St->Prop} {Y:QL} {L st} (i:Nat):D7 X Y (.exit i) L st=Y (.exit i) L st:=rfl
def noQ:QL:=fun _ _ _=>False
theorem Hu {P:Program} [KP P] {T:eh} (hT:ar P T) (hm:P.follows .mixedOrders=true) {N:Nat} {B:fh} {nt:NT} (aH:B.ll) (hp:B.bb<=1000) (aS:B.n0<=B.w.heap.size) {X:Exit->Act->World->Prop} {Q:QL} :
 ∀ (n:Nat) (c:Code),Ou (n+1) c=true->ec nt c=true ->
  (∀ e L' aA g' a' w',Q e L' aA->jn B nt L' aA g' a' w'->match e with|.normal=>(gm (n+1) c).wpIn (ft none) N P X a' w'|e=>X (sm e) a' w') ->
  ∀ L st g a w,wl P T B.bb (ni (n+1) c) Q L st->jn B nt L st g a w->c.wpIn (ft none) N P X a w:=by
 intro n
 induction n with
 |zero=>
  intro c hsp hs hX L st g a w h hh;cases c with
  |seq x y=>
   simp only [ec,zzh] at hs;refine wpIn_seq (wpIn_mono (piece hT hm (N:=N) aH hp aS hs.1 h hh) ?_);rintro ex a' w' ⟨e,L',aA,g',rfl,hq,bH,_⟩;have:=hX e L' aA g' a' w' hq bH;cases e with
   |normal=>exact this
   |ret=>exact this
   |exit id=>exact this
  |_=>cases hsp
 |succ n ih=>
  intro c hsp hs hX L st g a w h hh;cases c with
  |seq x y=>
   simp only [ec,zzh] at hs;refine wpIn_seq (wpIn_mono (piece hT hm (N:=N) aH hp aS hs.1 (Q:=Ik (wl P T B.bb (ni (n+1) y)) Q) h hh) ?_);rintro ex a' w' ⟨e,L',aA,g',rfl,hq,bH,_⟩;cases e with
   |normal=>exact ih y hsp hs.2 hX L' aA g' a' w' hq bH
   |ret=>exact hX .ret L' aA g' a' w' hq bH
   |exit id=>exact hX (.exit id) L' aA g' a' w' hq bH
  |_=>cases hsp
theorem abr {P:Program} [KP P] {T:eh} (hT:ar P T) (hm:P.follows .mixedOrders=true) {N:Nat} {B:fh} {nt:NT} (aH:B.ll) (hp:B.bb<=1000) (aS:B.n0<=B.w.heap.size) {X:Exit->Act->World->Prop} {Q:QL} {c:Code} (hs:ec nt c=true)
 (hX:∀ e L' aA g' a' w',Q e L' aA->jn B nt L' aA g' a' w'->X (sm e) a' w') {L st g a w} (h:wl P T B.bb c Q L st) (hh:jn B nt L st g a w):c.wpIn (ft none) N P X a w:=by
 refine wpIn_mono (piece hT hm (N:=N) aH hp aS hs h hh) ?_;rintro ex a' w' ⟨e,L',aA,g',rfl,hq,bH,_⟩;exact hX e L' aA g' a' w' hq bH
def qz (w:World):Nat->Nat->Prop:=fun b _=>b<w.heap.size
def adl (w:World) (D:List Deferred):fh:={ b0:=w.heap.size,w,K:=qz w,O:=fun _=>False,bb:=0,pb:=fun _=>none,n0:=w.heap.size,D }
theorem u3 (w D):(adl w D).ll:=fun _ h=>h
structure uj (S:Nat->Prop) (w1:World) (D:List Deferred) (ds:List Deferred) (w:World):Prop where
 size:w1.heap.size<=w.heap.size
 low:∀ b,b<w1.heap.size->¬ S b->w.heap[b]? = w1.heap[b]?
 obj:∀ (b:Nat) o,w1.heap[b]? = some o->(∀ cs e fr,o ≠ .cells cs e fr)->w.heap[b]? = some o
 os:w.os=w1.os
 tape:w.tape=w1.tape
 output:w.output=w1.output
 Fg:∃ bs:List Nat,ds=bs.map mark++D/\bs.Nodup/\∀ b ∈ bs,w1.heap.size<=b/\w.heap[b]? = some (.deferred (some []))
theorem uj.start (S:Nat->Prop) (w:World) (D:List Deferred):uj S w D D w:=⟨zza _,fun _ _ _=>rfl,fun _ _ h _=>h,rfl,rfl,rfl,[],rfl,List.nodup_nil,fun b h=>by cases h⟩
theorem uj.wide {S S':Nat->Prop} {w1 D ds w} (hS:∀ b,b<w1.heap.size->S b->S' b) (h:uj S w1 D ds w):uj S' w1 D ds w:=⟨h.size,fun b hb hn=>h.low b hb (fun hs=>hn (hS b hb hs)),h.obj,h.os,h.tape,h.output,h.Fg⟩
theorem uj.later {S:Nat->Prop} {w1 D ds w nt L st g a w'} (h:uj S w1 D ds w) (hh:jn (adl w ds) nt L st g a w'):uj S w1 D a.defers w':=by
 have hb:=hh.cur.base;have hf:∀ b,b<w.heap.size->w'.heap[b]? = w.heap[b]? := fun b h=>hb.frame b h (fun h=>h)
 refine ⟨zzu h.size hb.size,fun b hlt hn=>(hf b (zyc hlt h.size)).trans (h.low b hlt hn),fun b o ho hn=>?_,hb.os.trans h.os,hb.tape.trans h.tape,hb.output.trans h.output,?_⟩
 ·have:=h.obj b o ho hn;exact (hf b (bu this)).trans this
 ·obtain ⟨bs,e1,e2,e3⟩:=h.Fg;obtain ⟨cs,c1,c2,c3⟩:=hh.Fg;refine ⟨cs++bs,by rw [c1,zzw,zzc];exact congrArg _ e1,?_,fun b hb=>?_⟩
  ·rw [List.nodup_append];refine ⟨c2,e2,fun x hx y hy e=>?_⟩;subst e;have h1:w.heap.size<=x:=(c3 x hx).1;have h2:=bu (e3 x hy).2;omega
  ·rcases zzq.1 hb with hb|hb
   ·exact ⟨zzu h.size (c3 b hb).1,(c3 b hb).2.1⟩
   ·have:=(e3 b hb).2;exact ⟨(e3 b hb).1,(hf b (bu this)).trans this⟩
theorem uj.ph {S:Nat->Prop} {w1 D ds w m xx w'} (h:uj S w1 D ds w) (ho:gp S m xx w w'):uj S w1 D ds w':=by refine ⟨zzu h.size ho.size,fun b hlt hn=>(ho.low b (zyc hlt h.size) hn).trans (h.low b hlt hn),fun b o hb hn=>ho.obj b o (h.obj b o hb hn) hn,ho.os.trans h.os,ho.tape.trans h.tape,ho.output.trans h.output,?_⟩;obtain ⟨bs,e1,e2,e3⟩:=h.Fg;exact ⟨bs,e1,e2,fun b hb=>⟨(e3 b hb).1,ho.obj b _ (e3 b hb).2 (fun cs e fr q=>by cases q)⟩⟩
theorem xw {nt:NT} {Ls:SL} {a:Act} {w:World} (qM:tl nt a.tmps) (hr:∀ t,Rel (gK w.heap.size (qz w)) w (lk Ls t) (a.tmps.getD t undef)):jn (adl w a.defers) nt Ls (bh []) (gK w.heap.size (qz w)) a w:=by
 refine ⟨⟨⟨zza _,fun o x hx=>?_,fun o o' x x' b base base' _ hx=>?_,fun _ _ h=>h⟩,fun o _ _=>rfl,⟨rfl,(fun o ho=>(by rcases ho with ho|ho;cases ho;exact ho.elim)),fun _ _ h=>h,fun _ _ _=>rfl,zza _,rfl,rfl,rfl,fun _ _ _=>rfl,fun o b base ho=>?_,fun _ _ h=>.inl h,fun b cs e fr h=>⟨cs,fr,h,rfl⟩,fun b l h=>⟨l,h⟩,fun _ _ _ _ _ _=>rfl⟩,zzb _⟩,⟨qM,hr⟩,Marks.start _ _ _ _ _⟩
 ·simp [bh,l6,Tr.get_nil] at hx
 ·simp [bh,l6,Tr.get_nil] at hx
 ·simp [bh,l6,Tr.get_nil] at ho
theorem aC7 {g:Gh} {w:World} {f:Nat->Value}:∀ {ts:List Nat} {vs:List AV},bt g w vs (ts.map f)->∀ t,Rel g w (lk (iz ts vs) t) (f t)
 | [],vs,h,t=>by cases vs<;>exact .bad _
 |t0::ts,[],h,t=>.bad _
 |t0::ts,v::vs,h,t=>by
  rw [iz,vu];by_cases e:t0=t
  ·subst e;rw [if_pos rfl];exact h.head
  ·rw [if_neg e];exact aC7 h.tail t
theorem jn.read {B:fh} {nt L st g a w} (hh:jn B nt L st g a w) {α:Type} (A:AC α) (ts:List Nat) {x : α} (hd:A.get st.h (ts.map (lk L))=some x):bt (gK w.heap.size (qz w)) w (A.E x) (ts.map fun t=>a.tmps.getD t undef):=by
 refine A.ok (b0:=w.heap.size) (K:=qz w) hh.cur.ok ⟨fun b j hk=>hh.cur.ok.K b j hk,fun o cells k s e ho b base hi j hj=>?_⟩ ⟨by simp,fun i x v hx hv=>?_⟩ hd
 ·obtain ⟨b',base',h5,_,h6⟩:=hh.cur.ok.obj o _ ho;rw [hi] at h5;cases h5;exact h6.lt
 ·rw [zzj,zzk] at hx hv;obtain ⟨t,e1,rfl⟩:=hx;obtain ⟨t',e2,rfl⟩:=hv;rw [e1] at e2;cases e2;exact hh.sl.2 t
theorem jn.aFu {B:fh} {nt L st g a w} (hh:jn B nt L st g a w) {α:Type} (C:di α) (fr:Bool) (t:Nat) {x : α} (hd:C.fq fr st.h (lk L t)=some x):Rel (gK B.b0 (qz w)) w (C.val fr x) (a.tmps.getD t undef):=by refine C.J3 (b0:=B.b0) (K:=qz w) hh.cur.ok ⟨fun b j hk=>hh.cur.ok.K b j hk,fun o cells k s e ho b base hi j hj=>?_⟩ (fun _=>Nat.le_of_eq hh.cur.base.b0.symm) (hh.sl.2 t) hd;obtain ⟨b',base',h5,_,h6⟩:=hh.cur.ok.obj o _ ho;rw [hi] at h5;cases h5;exact h6.lt
def uu (n:Nat) (ts:List Nat) (tmps:Array Value):NT:=⟨n,ts.map fun t=>(t,tmps.getD t undef)⟩
theorem P9 {nt:NT} {tmps:Array Value} (ts:List Nat) (h:tl nt tmps):tl (uu nt.n ts tmps) tmps:=⟨h.size,fun p hp=>by obtain ⟨t,_,rfl⟩:=zyj.1 hp;rfl⟩
theorem m9 {n:Nat} {ts:List Nat} {tmps iB:Array Value} (h:tl (uu n ts tmps) iB) {t:Nat} (ht:t ∈ ts):iB.getD t undef=tmps.getD t undef:=h.fix _ (zyj.2 ⟨t,ht,rfl⟩)
theorem Rel.stay {b0 b1:Nat} {K K':Nat->Nat->Prop} {w w':World} {a:AV} {v:Value} (hb0:∀ b,b0<=b->(∀ j,K b j)->b1<=b) (hK:∀ b j,K b j->K' b j) (hh:∀ b j,K b j->w'.heap[b]? = w.heap[b]?) (h:Rel (gK b0 K) w a v):Rel (gK b1 K') w' a v:=by
 have hno:∀ o p,(gK b0 K).inj o≠some p:=fun o p e=>by cases e
 generalize hg:gK b0 K=g0 at h hno;have kU:∀ b j,g0.K b j->K b j:=by subst hg;exact fun _ _ h=>h
 have hb:g0.b0=b0:=by subst hg;rfl
 clear hg;have hc:∀ (b j:Nat),g0.K b j->w'.cell? ⟨b,j,none⟩=w.cell? ⟨b,j,none⟩:=fun b j hk=>o8 (hh b j (kU b j hk))
 induction h with
 |sc x=>exact .sc x
 |agg l vs hs _ ih=>exact .agg l vs hs ih
 |gn l vs hs _ ih=>exact .gn l vs hs ih
 |vl loc sz es b off cap c hsz hl aK h _ hw ih=>
  refine .vl loc sz es b off cap c hsz (fun e=>hb0 b (by rw [<- hb];exact hl e) (fun j=>kU _ _ ((hw e).K j))) aK (fun j a hj=>⟨hK _ _ (kU _ _ (h j a hj).1),(hc _ _ (h j a hj).1).trans (h j a hj).2⟩) ih (fun e=>?_);obtain ⟨w1,⟨cs,e,w2,w3⟩,w4,w5⟩:=hw e;exact ⟨fun j=>hK _ _ (kU _ _ (w1 j)),⟨cs,e,(hh b 0 (kU _ _ (w1 0))).trans w2,w3⟩,w4,w5⟩
 |jy loc sz=>exact .jy loc sz
 |tv loc sz a=>exact .tv loc sz a
 |sl o off len sz b base cap hi hc hm hr=>exact (hno _ _ hi).elim
 |r9 o off sz a=>exact .r9 o off sz a
 |tg o off sz=>exact .tg o off sz
 |ez a=>exact .ez a
 |ptr o off b base hi=>exact (hno _ _ hi).elim
 |fe l b off c h _ ih=>exact .fe l b off c (fun j a hj=>⟨hK _ _ (kU _ _ (h j a hj).1),(hc _ _ (h j a hj).1).trans (h j a hj).2⟩) ih
 |fn f first captured va vb hs _ hs' _ ih ih'=>exact .fn f first captured va vb hs ih hs' ih'
 |mp o b base hi=>exact (hno _ _ hi).elim
 |tf t a v _ ih=>exact .tf t a v ih
 |yl o b base hi=>exact (hno _ _ hi).elim
 |bad v=>exact .bad v
theorem Rel.low {S:Nat->Prop} {w1 D ds w} (h:uj S w1 D ds w) (hS:∀ b,b<w1.heap.size->¬ S b) {a:AV} {v:Value} (hr:Rel (gK w1.heap.size (qz w1)) w1 a v):Rel (gK w.heap.size (qz w)) w a v:=
 hr.stay (K:=qz w1) (K':=qz w) (fun b h1 h2=>absurd (h2 0) (Nat.not_lt.2 h1)) (fun b _ (hk:b<w1.heap.size)=>zyc hk h.size) (fun b _ (hk:b<w1.heap.size)=>h.low b hk (hS b hk))
theorem bt.low {S:Nat->Prop} {w1 D ds w} (h:uj S w1 D ds w) (hS:∀ b,b<w1.heap.size->¬ S b) {l:List AV} {vs:List Value} (hr:bt (gK w1.heap.size (qz w1)) w1 l vs):bt (gK w.heap.size (qz w)) w l vs:=⟨hr.1,fun i a v ha hv=>(hr.2 i a v ha hv).low h hS⟩
theorem uj.fin {B:fh} {sY nt:NT} {L st g a1 w1} (hp:B.bb=0) (aH:B.ll) (aS:B.n0<=B.w.heap.size) (h1:jn B nt L st g a1 w1) {S:Nat->Prop} {a:Act} {w:World} (hm:uj S w1 a1.defers a.defers w) (hS:∀ b,b<w1.heap.size->¬ S b) (hO:∀ b,¬ B.O b) {r:Nat} {v:Value} (qM:tl sY a.tmps) (hv:a.tmps.getD r undef=v) {Q:QL} {e:Ex} (hq:Q e [(r,.sc v)] (bh [])):Fin B sY Q (sm e) a w:=by
 have hb:=h1.cur.base;have aB:=h1.cur.ok;have bG:∀ b,b<w1.heap.size->w.heap[b]? = w1.heap[b]? := fun b hlt=>hm.low b hlt (hS b hlt)
 have uA:∀ b j,B.K b j->b<w1.heap.size:=fun b j hk=>aB.K b j (hb.K b j hk)
 refine Fin.mk' (g:={ b0:=B.b0,inj:=fun _=>none,K:=B.K }) hq ⟨⟨?_,fun o x hx=>?_,fun o o' x x' b base base' _ hx=>?_,fun b j hk=>zyc (uA b j hk) hm.size⟩,fun o _ _=>rfl,⟨rfl,fun o ho=>?_,fun _ _ h=>h,fun b j hk=>?_,zzu hb.size hm.size,hm.os.trans hb.os,hm.tape.trans hb.tape,hm.output.trans hb.output,fun b hlt hn=>?_,fun o b base ho=>?_,fun _ _ h=>.inl h,fun b cs e fr h=>?_,fun b l h=>?_,fun b cs e fr h hk=>?_⟩,by rw [hp];exact zzb _⟩ ⟨qM,fun t=>?_⟩ ?_
 ·have:=aB.size;rw [hb.b0] at this;exact zzu this hm.size
 ·simp [bh,l6,Tr.get_nil] at hx
 ·simp [bh,l6,Tr.get_nil] at hx
 ·rcases ho with ho|ho
  ·rw [hp] at ho;cases ho
  ·exact (aH o ho).elim
 ·exact (o8 (bG b (uA b j hk))).trans (hb.cell b j hk)
 ·have qO:=zyc hlt hb.size;exact (bG b qO).trans (hb.frame b hlt hn)
 ·simp [bh,l6,Tr.get_nil] at ho
 ·obtain ⟨cs',cI,q1,q2⟩:=hb.sv b cs e fr h;exact ⟨cs',cI,(bG b (bu q1)).trans q1,q2⟩
 ·obtain ⟨l',q1⟩:=hb.lp b l h;exact ⟨l',(bG b (bu q1)).trans q1⟩
 ·have q1:=hb.whole b cs e fr h hk;exact (bG b (bu (q1.trans h))).trans q1
 ·rw [vu];by_cases e:r=t
  ·subst e;rw [if_pos rfl,hv];exact .sc _
  ·rw [if_neg e];exact .bad _
 ·obtain ⟨bs,e1,e2,e3⟩:=hm.Fg;obtain ⟨cs,c1,c2,c3⟩:=h1.Fg;refine ⟨bs++cs,by rw [e1,c1,zzw,zzc],?_,fun b hb'=>?_⟩
  ·rw [List.nodup_append];refine ⟨e2,c2,fun x hx y hy e=>?_⟩;subst e;have h2:=bu (c3 x hy).2.1;have h3:=(e3 x hx).1;omega
  ·have eJ:i5 { b0:=B.b0,inj:=fun _=>none,K:=B.K } (bh []).h b:=fun o base ho=>by simp [bh,l6,Tr.get_nil] at ho
   rcases zzq.1 hb' with hb'|hb'
   ·exact ⟨zzu aS (zzu hb.size (e3 b hb').1),(e3 b hb').2,eJ⟩
   ·have q:=c3 b hb';exact ⟨q.1,(bG b (bu q.2.1)).trans q.2.1,eJ⟩
def aq3 (x:Operand):Option Nat:=
 match x with
 |.tmp t=>some t
 |_=>none
def Pd (o:Oper):Option (Option Nat × Nat × List Nat):=
 match o.op,o.guard with
 |.call { callee:=.value (.func f),args,.. },none=>(args.toList.mapM aq3).map fun ts=>(o.dst,f,ts)
 |_,_=>none
def Ki (ops:Array Oper) (n:Nat):Option (Option Nat × Nat × List Nat):=
 match ops.toList.drop n with
 | [o]=>Pd o
 |_=>none
theorem Y5:∀ {l:List Operand} {ts:List Nat},l.mapM aq3=some ts->l=ts.map Operand.tmp
 | [],ts,h=>by simp at h;subst h;rfl
 |x::l,ts,h=>by
  simp only [List.mapM_cons,Option.bind_eq_bind,Option.bind_eq_some_iff] at h;obtain ⟨t,h1,us,h2,h3⟩:=h;cases h3;cases x with
  |tmp u=>simp only [aq3,Option.some.injEq] at h1;subst h1;rw [List.map_cons,Y5 h2]
  |_=>cases h1
theorem akv {ops:Array Oper} {n f:Nat} {d:Option Nat} {args:List Nat} (h:Ki ops n=some (d,f,args)):∃ c ts pos af ty,ops.toList.drop n=[⟨d,.call { callee:=.value (.func f),args:=(args.map Operand.tmp).toArray,argTypes:=ts },ty,pos,af,none⟩]/\c=():=by
 unfold Ki at h
 split at h
 ·rename_i o ho;obtain ⟨dst,op,ty,pos,af,gd⟩:=o;unfold Pd at h
  split at h
  ·rename_i f' aa ats h1 h2;simp only [zzk,Prod.mk.injEq] at h;obtain ⟨ts,h3,rfl,rfl,rfl⟩:=h;subst h1 h2;refine ⟨(),ats,pos,af,ty,?_,rfl⟩;rw [ho,<- Y5 h3]
  ·cases h
 ·cases h
theorem akl {P:Program} [KP P] {T:eh} (hT:ar P T) {B:fh} {nt:NT} (aH:B.ll) {N id n:Nat} {ops:Array Oper} {K:SL->St->Prop} {X:Exit->Act->World->Prop} {L st g a w} (hs:ec nt (.region id ops false)=true)
 {f:Nat} {args:List Nat} {d:Option Nat} (hl:Ki ops n=some (d,f,args)) (he:nq P f=true)
 (h:opsL P T ops (ops.toList.take n) K L st) (hh:jn B nt L st g a w)
 (hK:∀ L' aA g' a' w',K L' aA->jn B nt L' aA g' a' w'->Calls P f (args.map fun t=>a'.tmps.getD t undef).toArray w' (fun e w''=>∃ r,e = .returned r/\∀ a'',a''.defers=a'.defers->tl nt a''.tmps->(∀ dd,d=some dd->a''.tmps.getD dd undef=r)->X .normal a'' w'')) :
 (Code.region id ops false).wpIn (ft none) N P X a w:=by
 simp only [ec,zzh] at hs;obtain ⟨hd,hg⟩:=hs;obtain ⟨_,ts,pos,af,ty,hl,_⟩:=akv hl;have key:∀ (l:List Oper) (is:List Nat),(∀ o ∈ l,o ∈ ops)->is.map (fun i=>ops[i]?)=(l++ops.toList.drop n).map some->∀ L st g a w,opsL P T ops l K L st->jn B nt L st g a w->wpOpsIn (ft none) N P ops X is a w:=by
  intro l
  induction l with
  |nil=>
   intro is _ aQ L st g a w h hh;rw [hl,List.nil_append] at aQ
   match is,aQ with
   | [i],aQ=>
    simp only [List.map_cons,List.map_nil,List.cons.injEq,and_true] at aQ;have hK':=hK L st g a w h hh;have ho:(⟨d,.call { callee:=.value (.func f),args:=(args.map Operand.tmp).toArray,argTypes:=ts },ty,pos,af,none⟩:Oper) ∈ ops:=by
     have:(⟨d,.call { callee:=.value (.func f),args:=(args.map Operand.tmp).toArray,argTypes:=ts },ty,pos,af,none⟩:Oper) ∈ ops.toList.drop n:=by rw [hl];exact zz0.2 rfl
     exact Array.mem_toList_iff.1 (List.mem_of_mem_drop this)
    simp only [wpOpsIn,aQ];have hw:Region.wanted (⟨d,.call { callee:=.value (.func f),args:=(args.map Operand.tmp).toArray,argTypes:=ts },ty,pos,af,none⟩:Oper) (yielded ops a.tmps)=true:=by simp [Region.wanted]
    rw [hw,if_pos rfl];refine ⟨lh none P _ a w,?_⟩;rw [Oper.semAt_eq _ _ _ (by intro c e;cases e)];have hrun:(execOp a.eval (⟨d,.call { callee:=.value (.func f),args:=(args.map Operand.tmp).toArray,argTypes:=ts },ty,pos,af,none⟩:Oper)).run P w=(callFunc f (args.map fun t=>a.tmps.getD t undef).toArray).run P w:=by
     rw [G8 (h:=f) (first:=#[]) (captured:=#[]) (f:=.func f) rfl rfl]
     congr 2
     apply Array.ext';simp [Act.eval]
    rw [hrun,sq he];refine ⟨(fun h=>(by cases h)),(rp (ro:=none) (n:=N - 1) hK').mono ?_⟩;rintro e w' ⟨r,rfl,hX⟩;have hdd:=fun dd (e:d=some dd)=>pg hd ho dd e
    show wpOpsIn (ft none) N P ops X [] (a.put d r) w';refine hX _ (put_defers _ _ _) (hh.sl.1.put hdd) (fun dd e=>?_);subst e;have:=(NT.J1 (hdd dd rfl)).1;show (a.tmps.setIfInBounds dd r).getD dd undef=r;rw [zze,zzz,if_pos rfl,if_pos (by rw [hh.sl.1.size];exact this)];rfl
   | [],aQ=>cases aQ
   |_::_::_,aQ=>simp at aQ
  |cons o l ih=>
   intro is hmem aQ L st g a w h hh;obtain ⟨hc,hr,cA⟩:=hh;cases is with
   |nil=>cases aQ
   |cons i is=>
    simp only [List.cons_append,List.map_cons,List.cons.injEq] at aQ;obtain ⟨hi,aQ⟩:=aQ;have ho:=hmem o (by simp);simp only [wpOpsIn,hi];rcases Fq hr (Ge hg ho) h with ⟨hw,h1⟩|⟨hw,h1⟩
    ·rw [hw,if_pos rfl];unfold Tn Gm at h1;cases hop:gz P T o (dw L) st with
     |none=>
      rw [hop] at h1;refine Tp hc.ok (fun o ho=>hc.fresh o ho (aH o)) hr.eval h1 none N _ _ ?_;rintro u w' ⟨g',v,aA,q0,q1,q2,q3,q4⟩;exact ih is (fun o ho=>hmem o (by simp [ho])) aQ _ aA g' _ w' q0 ⟨hc.step (aH.Di _ _) ⟨q1,q2⟩ q3,(hr.ext q2.ext).put q4 (pg hd ho),by rw [put_defers];exact cA.step q2⟩
     |some p=>
      obtain ⟨v,aA⟩:=p;rw [hop] at h1;refine Kw hT hc.ok (hc.free (aH.Di _ _)) hr.eval hop none N _ _ ?_;rintro u w' ⟨g',q1,q2,q3⟩;exact ih is (fun o ho=>hmem o (by simp [ho])) aQ _ aA g' _ w' h1 ⟨hc.step (aH.Di _ _) ⟨Dr hop,q1⟩ q2,(hr.ext q1.ext).put q3 (pg hd ho),by rw [put_defers];exact cA.step q1⟩
    ·rw [hw,if_neg (by simp)];refine ⟨lh none P o a w,?_⟩;exact ih is (fun o ho=>hmem o (by simp [ho])) aQ _ st g _ w h1 ⟨hc,hr.put (.sc _) (pg hd ho),by rw [put_defers];exact cA⟩
 refine wpIn_region ?_;exact key (ops.toList.take n) (List.range ops.size) (fun o ho=>Array.mem_toList_iff.1 (zzr ho)) (by rw [zzm];exact H2 ops) L st g a w h hh
def ji:Nat->Code->Code
 |0,.seq a _=>a
 |n+1,.seq _ b=>ji n b
 |_,_=>.skip
def n6:Code->Array Oper
 |.region _ ops _=>ops
 |_=>#[]
def idC:Code->Nat
 |.region i _ _=>i
 |_=>0
theorem pj {a b:Code}:ji 0 (.seq a b)=a:=rfl
theorem pn {n:Nat} {a b:Code}:ji (n+1) (.seq a b)=ji n b:=rfl
theorem sn {i ops d}:n6 (.region i ops d)=ops:=rfl
theorem Lk:∀ {n:Nat} {c:Code},Ou (n+1) c=true->gm n c = .seq (ji n c) (gm (n+1) c)
 |0,.seq a b,_=>rfl
 |n+1,.seq a b,h=>Lk (n:=n) (c:=b) h
theorem aly (n:Nat) (ts:List Nat) (x y:Array Value) (t:Nat):(uu n ts x).has t=(uu n ts y).has t:=by unfold NT.has uu;rw [List.all_map,List.all_map];rfl
theorem wu {n:Nat} {ts:List Nat} {x y:Array Value}:∀ {c:Code},ec (uu n ts x) c=true->ec (uu n ts y) c=true:=by
 intro c
 induction c with
 |region i ops d=>
  intro h;simp only [ec,xc,rj,aly n ts y x] at h ⊢;exact h
 |seq a b dE dD=>intro h;simp only [ec,zzh] at h ⊢;exact ⟨dE h.1,dD h.2⟩
 |cond c a b dE dD=>intro h;simp only [ec,zzh] at h ⊢;exact ⟨dE h.1,dD h.2⟩
 |block i b ih=>intro h;exact ih h
 |loop b ih=>intro h;exact ih h
 |scope b ih=>intro h;exact ih h
 |rangeFunc f ps a b dE dD=>
  intro h;simp only [ec,zzh,aly n ts y x] at h ⊢;exact ⟨⟨⟨⟨h.1.1.1.1,dE h.1.1.1.2⟩,dD h.1.1.2⟩,h.1.2⟩,h.2⟩
 |_=>intro _;rfl
theorem Hq {P:Program} [KP P] {T:eh} (hT:ar P T) {B:fh} {nt:NT} (aH:B.ll) {N k n:Nat} {c:Code} (hsp:Ou (k+1) c=true) (jV:ji k c = .region (idC (ji k c)) (n6 (ji k c)) false) (hs:ec nt (ji k c)=true)
 {d:Option Nat} {f:Nat} {args:List Nat} (bX:Ki (n6 (ji k c)) n=some (d,f,args)) (he:nq P f=true) {K:SL->St->Prop} {L st g a w} (h:opsL P T (n6 (ji k c)) ((n6 (ji k c)).toList.take n) K L st) (hh:jn B nt L st g a w) {X:Exit->Act->World->Prop}
 (hK:∀ L' aA g' a' w',K L' aA->jn B nt L' aA g' a' w'->Calls P f (args.map fun t=>a'.tmps.getD t undef).toArray w' (fun e w''=>∃ r,e = .returned r/\∀ a'',a''.defers=a'.defers->tl nt a''.tmps->(∀ dd,d=some dd->a''.tmps.getD dd undef=r)->(gm (k+1) c).wpIn (ft none) N P X a'' w'')) :
 (gm k c).wpIn (ft none) N P X a w:=by
 rw [Lk hsp];refine wpIn_seq ?_;rw [jV] at hs ⊢;exact akl hT aH hs bX he h hh hK
end
variable [TK]
theorem jn.exact {B:fh} {nt L st g a w} (hh:jn B nt L st g a w) {t:Nat} {x:Value} (h:lk L t = .sc x):a.tmps.getD t undef=x:=by have:=hh.sl.2 t;rw [h] at this;exact this.exact rfl
theorem jn.box {B:fh} {nt L st g a w} (hh:jn B nt L st g a w) {t o k:Nat} {cells:List AV} {et:TypeId} (hl:lk L t = .ptr o 0) (ho:st.h.get o=some (.row cells k 2 et)) :
 ∃ b cs,a.tmps.getD t undef = .pointer (some ⟨b,0,none⟩)/\B.b0<=b/\w.heap[b]? = some (.cells cs et (0,0))/\bt g w cells cs.toList:=by
 have h1:=hh.sl.2 t;rw [hl] at h1;obtain ⟨v,hv⟩:∃ v,a.tmps.getD t undef=v:=⟨_,rfl⟩;rw [hv] at h1 ⊢;cases h1 with
 |ptr _ _ b base hi=>
  obtain ⟨b',base',q1,q2,cs,fr,q3,q4,q5,q6,q7,q8,q9,nT⟩:=hh.cur.ok.obj o _ ho;rw [hi] at q1;cases q1;have hf:=q8 (by decide);obtain ⟨e1,e2⟩:=q9 rfl;subst hf e1;refine ⟨b,cs,rfl,by rw [<- hh.cur.base.b0];exact q2,q3,by simp [e2],fun i x v hx hv=>?_⟩;obtain ⟨c,hc,hr⟩:=q5 i x hx;rw [Nat.zero_add,<- zz2,hv] at hc;cases hc;exact hr
theorem jn.Bp {B:fh} {nt L st g a w} (hh:jn B nt L st g a w) {S:Nat->Prop} {N t o k n sz:Nat} {cells:List AV} {et:TypeId} {E:World->List Value->Prop} (hS:∀ b,B.b0<=b->S b) (hN:n<=N) (hl:lk L t = .sl o 0 n sz) (ho:st.h.get o=some (.row cells k 0 et)) (wC:TK.sz et=some sz) (hlen:cells.length=n * sz)
 (hE:∀ j vs,j<n->bt g w ((cells.drop (j * sz)).take sz) vs->E w vs):mi S N w sz E (a.tmps.getD t undef):=by
 have h1:=hh.sl.2 t;rw [hl] at h1;obtain ⟨v,hv⟩:∃ v,a.tmps.getD t undef=v:=⟨_,rfl⟩;rw [hv] at h1 ⊢;cases h1 with
 |r9 _ _ _ a=>exact .inl ⟨some a,rfl⟩
 |tg _ _ _=>exact .inl ⟨none,rfl⟩
 |sl _ _ _ _ b base cap hi hc hm hr=>
  obtain ⟨b',base',q1,q2,cs,fr,q3,q4,q5,q6,q7,q8,q9,nT⟩:=hh.cur.ok.obj o _ ho;rw [hi] at q1;cases q1;have hf:=q8 (by decide);have hs:=nT rfl;have e1:=hs.1;subst hf e1;obtain ⟨cs1,e2,gV,r1,r2⟩:=hr;rw [q3] at r1;cases r1;refine .inr ⟨b,0,n,cap,cs,et,rfl,hN,hS b (by rw [<- hh.cur.base.b0];exact q2),⟨hc,hm⟩,q3,wC,by simp,zO,fun j hj=>hE j _ hj ⟨by simp;have:=zz4 sz (show j+1<=n by omega);rw [Nat.succ_mul] at this;omega,fun i x v hx hv=>?_⟩⟩;rw [zye] at hx;by_cases bO:i<sz
  ·rw [if_pos bO,zz6] at hx;obtain ⟨c,hc,hr⟩:=q5 _ x hx;rw [zzj,zyi bO] at hv;simp only [Option.map_some,Option.some.injEq,Nat.zero_add] at hv hc;rw [zze,hc] at hv;simp only [Option.getD_some] at hv;rw [<- hv];exact hr
  ·rw [if_neg bO] at hx;cases hx
theorem al5 {g:Gh} {w:World} {b:Nat} {cs:Array Value} {e:TypeId} {fr:Nat × Nat} (h:w.heap[b]? = some (.cells cs e fr)) (hK:∀ j,g.K b j):Rel g w (.fe (cs.toList.map .sc)) (.pointer (some ⟨b,0,none⟩)):=by
 refine .fe _ b 0 (fun j=>cs.getD j undef) (fun j a ha=>⟨hK _,?_⟩) (fun j a ha=>?_)
 ·rw [zzj,zzk] at ha;obtain ⟨x,hx,rfl⟩:=ha;rw [Nat.zero_add];exact cell_of h (by have:=(zg.1 hx).1;simpa using this)
 ·rw [zzj,zzk] at ha;obtain ⟨x,hx,rfl⟩:=ha;rw [zz2] at hx;rw [zze,hx];exact .sc x
theorem K6 {g:Gh} {w:World} {tmps:Array Value}:∀ {Ls:SL},(∀ p ∈ Ls,Rel g w p.2 (tmps.getD p.1 undef))->∀ t,Rel g w (lk Ls t) (tmps.getD t undef)
 | [],_,t=>.bad _
 |p::Ls,h,t=>by
  rw [vu];by_cases e:p.1=t
  ·rw [if_pos e,<- e];exact h p (by simp)
  ·rw [if_neg e];exact K6 (fun q hq=>h q (by simp [hq])) t
theorem jn.quiet {w0:World} {D:List Deferred} {nt L st g a w} (hh:jn (adl w0 D) nt L st g a w) (S:Nat->Prop) (m:Nat) (xx:Bool):gp S m xx w0 w:=by have hb:=hh.cur.base;exact .quiet S m xx hb.size hb.os hb.tape hb.output (fun b h=>hb.frame b h (fun h=>h))
theorem jn.aFs {B:fh} {nt L st g a w} (hh:jn B nt L st g a w):u9 g st.h (qz w):=⟨fun b j hk=>hh.cur.ok.K b j hk,fun o cells k s e ho b base hi j hj=>by obtain ⟨b',base',h5,_,h6⟩:=hh.cur.ok.obj o _ ho;rw [hi] at h5;cases h5;exact h6.lt⟩
theorem jn.az3 {B:fh} {nt L st g a w} (hh:jn B nt L st g a w) {α:Type} (C:di α) {x : α} {vs:List Value} (h:bt g w (C.cells true x) vs):bt (gK B.b0 (qz w)) w (C.cells true x) vs:=
 C.ok hh.cur.ok hh.aFs (fun _=>Nat.le_of_eq hh.cur.base.b0.symm) h (C.rt true st.h true x (fun _=>rfl))
theorem aBz {S:Nat->Prop} {m M sz b:Nat} {xx:Bool} {w w':World} {cs:Array Value} {e:TypeId} {E:Nat->World->List Value->Prop} (hE:U9 S sz E) (hM : 4<=M) (ho:gp S m xx w w') (hb:w.heap[b]? = some (.cells cs e (0,0))) (hs:TK.sz e=some sz) (hl:cs.size=sz) (h:E M w cs.toList) :
 ∃ cs',w'.heap[b]? = some (.cells cs' e (0,0))/\cs'.size=sz/\E (M+m) w' cs'.toList:=by
 obtain ⟨cs',q1,q2,q3⟩:=ho.cells b cs e _ hb;refine ⟨cs',q1,q2.trans hl,hE (j0:=0) hM ho hs (Nat.zero_mod _) (by simpa using hl) (by simp [q2,hl]) (fun i x x' hx hx'=>?_) h⟩;rw [zz2] at hx hx';rw [Nat.zero_add];exact q3 i x x' hx hx'
theorem Tl {g:Gh} {w:World}:∀ {l vs:List Value},bt g w (l.map .sc) vs->vs=l
 | [],[],_=>rfl
 | [],v::vs,h=>by have:=h.1;simp at this
 |x::l,[],h=>by have:=h.1;simp at this
 |x::l,v::vs,h=>by rw [h.head.exact rfl,Tl h.tail]
theorem au6 {nt:NT} {n:Nat} {tmps:Array Value} (h:tl nt tmps) (hn:nt.n=n):tl (n:NT) tmps:=⟨by rw [h.size,hn],fun p hp=>by cases hp⟩
variable [TK]
noncomputable section
section
variable (P : Program) (ρ : Operand -> AV) (d : Option Tmp) (ty : TypeId) (pos : String) (af : Array Edge) (gd : Option (Nat × Bool)) (t u : TypeId) (x y : Operand)
theorem O3 (op:BinOp) (k k':IntKind) (a b:Int) (hx : ρ x = .sc (.int k a)) (hy : ρ y = .sc (.int k' b)) :
 sh P ρ ⟨d,.binOp op t x y u,ty,pos,af,gd⟩ op t (.sc (.int k a)) (.sc (.int k' b))=M.of ((ev P (binOp op t (.int k a) (.int k' b))).map .sc):=by
 have h1:∀ s:Sem Value,ev P (do pure (Next.value (<- s)))=(ev P s).map Next.value:=by
  intro s
  induction s with
  |pure b=>rfl
  |program k ih=>exact ih P
  |choose q k ih=>
   simp only [bind,Sem.bind,ev]
   split
   ·exact ih 0
   ·rfl
  |mark m k ih=>exact ih
  |_=>rfl
 have h2:execOp (fun z=>((ρ z).gw).getD undef) ⟨d,.binOp op t x y u,ty,pos,af,gd⟩=(do pure (Next.value (<- (do eqGuard op t x y (.int k a) (.int k' b);binOp op t (.int k a) (.int k' b))))):=by simp only [execOp,hx,hy,AV.gw,Option.getD_some]
 have h3:ev P (do eqGuard op t x y (.int k a) (.int k' b);binOp op t (.int k a) (.int k' b))=ev P (binOp op t (.int k a) (.int k' b)):=by cases op<;>rfl
 unfold sh tc;simp only [AV.gw,Option.isSome_some,Bool.and_self,cond_true];rw [h2,h1,h3];cases ev P (binOp op t (.int k a) (.int k' b))<;>rfl
theorem asp (k k':IntKind) (a b:Int) (h : 0<=b):ev P (binOp .shl t (.int k a) (.int k' b))=some (.int k (k.wrap (a * 2 ^ (min b.toNat k.bits)))):=by have:¬ b<0:=zO;simp [binOp,Op.shift,this,Fx]
theorem ars (k k':IntKind) (a b:Int) (h : 0<=b):ev P (binOp .shr t (.int k a) (.int k' b))=some (.int k (a.fdiv (2 ^ (min b.toNat k.bits)))):=by have:¬ b<0:=zO;simp [binOp,Op.shift,this,Fx]
theorem ayr {d:TypeDesc} (h:P.underlying t=some d):ev P (underlying t)=some d:=by rw [underlying];show ev P (match P.underlying t with|some d=>pure d|none=>_)=_;rw [h];rfl
theorem Pe (op:BinOp) (a b:ByteArray) (hx : ρ x = .sc (.string a)) (hy : ρ y = .sc (.string b)) :
 sh P ρ ⟨d,.binOp op t x y u,ty,pos,af,gd⟩ op t (.sc (.string a)) (.sc (.string b))=M.of ((ev P (binOp op t (.string a) (.string b))).map .sc):=by
 have h1:∀ s:Sem Value,ev P (do pure (Next.value (<- s)))=(ev P s).map Next.value:=by
  intro s
  induction s with
  |pure b=>rfl
  |program k ih=>exact ih P
  |choose q k ih=>
   simp only [bind,Sem.bind,ev]
   split
   ·exact ih 0
   ·rfl
  |mark m k ih=>exact ih
  |_=>rfl
 have h2:execOp (fun z=>((ρ z).gw).getD undef) ⟨d,.binOp op t x y u,ty,pos,af,gd⟩=(do pure (Next.value (<- (do eqGuard op t x y (.string a) (.string b);binOp op t (.string a) (.string b))))):=by simp only [execOp,hx,hy,AV.gw,Option.getD_some]
 have h3:ev P (do eqGuard op t x y (.string a) (.string b);binOp op t (.string a) (.string b))=ev P (binOp op t (.string a) (.string b)):=by cases op<;>rfl
 unfold sh tc;simp only [AV.gw,Option.isSome_some,Bool.and_self,cond_true];rw [h2,h1,h3];cases ev P (binOp op t (.string a) (.string b))<;>rfl
theorem str_eq (a b:ByteArray):(a.toList == b.toList)=decide (a=b):=by
 rw [ByteArray.toList_eq,ByteArray.toList_eq,zyb];simp only [beq_iff_eq,decide_eq_true_eq];constructor
 ·intro h;cases a;cases b
  congr 1
  exact Array.ext' h
 ·intro h;rw [h]
theorem Xt (a b:ByteArray):ev P (binOp .eql t (.string a) (.string b))=some (.bool (decide (a=b))):=by rw [<- str_eq];rfl
theorem U7 (a b:ByteArray):ev P (binOp .neq t (.string a) (.string b))=some (.bool (!decide (a=b))):=by rw [<- str_eq];rfl
end
def Qc (u:Option TypeDesc):Bool:=match u with|some (.slice _)=>true|_=>false
theorem ani (e):Qc (some (.slice e))=true:=id rfl
theorem amh {u} (h:Qc u=true):∃ e,u=some (.slice e):=by
 unfold Qc at h;split at h
 ·exact ⟨_,rfl⟩
 ·cases h
theorem am1 {P:Program} {t op x y} (h:Qc (P.underlying t)=true):P3 P t op x y=Qs op x y:=by obtain ⟨e,he⟩:=amh h;unfold P3;rw [he]
theorem Xd (P:Program) (ρ o op t l sz es b):sh P ρ o op t (.vl l sz es) b=P3 P t op (.vl l sz es) b:=id rfl
theorem am6 (b):qo .eql b=M.pure (.sc (.bool b)):=id rfl
theorem Jd (P:Program) (ρ:Operand->AV) (d ty pos af gd) (t u:TypeId) (x y:Operand) (op:BinOp) (a b:Option Addr) (n c m k:Nat) (hx : ρ x = .sc (.slice a n c)) (hy : ρ y = .sc (.slice b m k)) :
 sh P ρ ⟨d,.binOp op t x y u,ty,pos,af,gd⟩ op t (.sc (.slice a n c)) (.sc (.slice b m k))=M.of ((ev P (binOp op t (.slice a n c) (.slice b m k))).map .sc):=by
 have h1:∀ s:Sem Value,ev P (do pure (Next.value (<- s)))=(ev P s).map Next.value:=by
  intro s
  induction s with
  |pure b=>rfl
  |program k ih=>exact ih P
  |choose q k ih=>
   simp only [bind,Sem.bind,ev]
   split
   ·exact ih 0
   ·rfl
  |mark m k ih=>exact ih
  |_=>rfl
 have h2:execOp (fun z=>((ρ z).gw).getD undef) ⟨d,.binOp op t x y u,ty,pos,af,gd⟩=(do pure (Next.value (<- (do eqGuard op t x y (.slice a n c) (.slice b m k);binOp op t (.slice a n c) (.slice b m k))))):=by simp only [execOp,hx,hy,AV.gw,Option.getD_some]
 have h3:ev P (do eqGuard op t x y (.slice a n c) (.slice b m k);binOp op t (.slice a n c) (.slice b m k))=ev P (binOp op t (.slice a n c) (.slice b m k)):=by cases op<;>rfl
 unfold sh tc;simp only [AV.gw,Option.isSome_some,Bool.and_self,cond_true];rw [h2,h1,h3];cases ev P (binOp op t (.slice a n c) (.slice b m k))<;>rfl
theorem ac2 {P:Program} {t:TypeId} {a:Option Addr} {n c m k:Nat} (d:Nat) (h:Qc (P.underlying t)=true):ev P (Op.equalIn (d+1) t (.slice a n c) (.slice none m k))=some a.isNone:=by obtain ⟨e,he⟩:=amh h;simp only [Op.equalIn];rw [Dn,ayr P t he];cases a<;>rfl
theorem N8 {P:Program} {t:TypeId} {a:Option Addr} {n c m k:Nat} (h:Qc (P.underlying t)=true):ev P (binOp .eql t (.slice a n c) (.slice none m k))=some (.bool a.isNone):=by show ev P (do pure (Value.bool (<- Op.equalIn (9999+1) t (.slice a n c) (.slice none m k))))=_;rw [Dn,ac2 9999 h];rfl
end
end Go.Vm
section
namespace Go.Vm
theorem wR:type_of% @am9/\type_of% @aix/\type_of% @Zo/\type_of% @ata/\type_of% @alv/\type_of% @aif/\type_of% @amx/\type_of% @aga/\type_of% @als/\type_of% @av9/\type_of% @avt/\type_of% @avo/\type_of% @av0/\type_of% @au7/\type_of% @ave/\type_of% @atn/\type_of% @amr/\type_of% @alq/\type_of% @ami/\type_of% @atb/\type_of% @asx/\type_of% @ab2/\type_of% @aii/\type_of% @acd/\type_of% @Vp/\type_of% @Wc/\type_of% @adt/\type_of% @ahx/\type_of% @ahs/\type_of% @anc/\type_of% @ah7/\type_of% @aij/\type_of% @aa8/\type_of% @agw/\type_of% @aaw/\type_of% @Zx/\type_of% @ahn/\type_of% @aah/\type_of% @Z7/\type_of% @asm/\type_of% @I3/\type_of% @Jr/\type_of% @aiv/\type_of% @ah4/\type_of% @Ug/\type_of% @amz/\type_of% @aio/\type_of% @abk/\type_of% @ahi/\type_of% @ame/\type_of% @aui/\type_of% @at1/\type_of% @au8/\type_of% @avu/\type_of% @av8/\type_of% @ath/\type_of% @al6/\type_of% @anf/\type_of% @ank/\type_of% @al4/\type_of% @ang/\type_of% @ag3/\type_of% @aac/\type_of% @Wy/\type_of% @Wd/\type_of% @af7/\type_of% @amv/\type_of% @alu/\type_of% @Ux/\type_of% @ar3/\type_of% @ate/\type_of% @afy/\type_of% @afl/\type_of% @al9/\type_of% @Sc/\type_of% @Nl:=
 ⟨@am9,@aix,@Zo,@ata,@alv,@aif,@amx,@aga,@als,@av9,@avt,@avo,@av0,@au7,@ave,@atn,@amr,@alq,@ami,@atb,@asx,@ab2,@aii,@acd,@Vp,@Wc,@adt,@ahx,@ahs,@anc,@ah7,@aij,@aa8,@agw,@aaw,@Zx,@ahn,@aah,@Z7,@asm,@I3,@Jr,@aiv,@ah4,@Ug,@amz,@aio,@abk,@ahi,@ame,@aui,@at1,@au8,@avu,@av8,@ath,@al6,@anf,@ank,@al4,@ang,@ag3,@aac,@Wy,@Wd,@af7,@amv,@alu,@Ux,@ar3,@ate,@afy,@afl,@al9,@Sc,@Nl⟩
theorem R0:type_of% @age/\type_of% @asf/\type_of% @List.length_take.{0}/\type_of% @nc0/\type_of% @nc1/\type_of% @Int.sub_zero/\type_of% @Int.sub_self/\type_of% @Int.add_zero/\type_of% @Int.zero_add/\type_of% @Vr/\type_of% @au4/\type_of% @abv/\type_of% @afr/\type_of% @anp/\type_of% @S3/\type_of% @List.length_replicate.{0}/\type_of% @ab9/\type_of% @Zv/\type_of% @auh/\type_of% @H3/\type_of% @Ro/\type_of% @N5/\type_of% @ai8/\type_of% @ai0/\type_of% @Xf/\type_of% @Mm/\type_of% @agx/\type_of% @am5/\type_of% @as5/\type_of% @Ti/\type_of% @Hf/\type_of% @Tf/\type_of% @aue/\type_of% @anl/\type_of% @S1/\type_of% @Vv/\type_of% @Sm/\type_of% @Pt/\type_of% @Vy/\type_of% @aas/\type_of% @Wl/\type_of% @Wm/\type_of% @List.length_append.{0}/\type_of% @rtT/\type_of% @rtF/\type_of% @Go.Vm.Db.eq_1/\type_of% @Go.Vm.bounds.eq_1/\type_of% @Go.Vm.Gw.eq_1/\type_of% @Go.Vm.Gw.eq_2:=
 ⟨@age,@asf,@List.length_take.{0},@nc0,@nc1,@Int.sub_zero,@Int.sub_self,@Int.add_zero,@Int.zero_add,@Vr,@au4,@abv,@afr,@anp,@S3,@List.length_replicate.{0},@ab9,@Zv,@auh,@H3,@Ro,@N5,@ai8,@ai0,@Xf,@Mm,@agx,@am5,@as5,@Ti,@Hf,@Tf,@aue,@anl,@S1,@Vv,@Sm,@Pt,@Vy,@aas,@Wl,@Wm,@List.length_append.{0},@rtT,@rtF,@Go.Vm.Db.eq_1,@Go.Vm.bounds.eq_1,@Go.Vm.Gw.eq_1,@Go.Vm.Gw.eq_2⟩
theorem R1:type_of% @Go.Vm.C1.eq_1/\type_of% @Go.Vm.Fy.eq_def/\type_of% @Go.Vm.vy.eq_1/\type_of% @Kf/\type_of% @Mf/\type_of% @Rw/\type_of% @yu/\type_of% @Vw/\type_of% @Nat.div_one/\type_of% @Wu/\type_of% @Vb/\type_of% @ary/\type_of% @S7/\type_of% @U3/\type_of% @S8/\type_of% @aAh/\type_of% @anw/\type_of% @al7/\type_of% @aAl/\type_of% @azl/\type_of% @am7/\type_of% @Zz/\type_of% @aen/\type_of% @Zl/\type_of% @Ir/\type_of% @Lx/\type_of% @Iv/\type_of% @V2/\type_of% @Z3/\type_of% @U5/\type_of% @We/\type_of% @Zm/\type_of% @Vl:=
 ⟨@Go.Vm.C1.eq_1,@Go.Vm.Fy.eq_def,@Go.Vm.vy.eq_1,@Kf,@Mf,@Rw,@yu,@Vw,@Nat.div_one,@Wu,@Vb,@ary,@S7,@U3,@S8,@aAh,@anw,@al7,@aAl,@azl,@am7,@Zz,@aen,@Zl,@Ir,@Lx,@Iv,@V2,@Z3,@U5,@We,@Zm,@Vl⟩
theorem R2:type_of% @ani/\type_of% @am1/\type_of% @Xd/\type_of% @am6/\type_of% @Jd/\type_of% @N8/\type_of% @Option.isNone_none.{0}/\type_of% @Option.isNone_some.{0}/\type_of% @alz/\type_of% @Rl/\type_of% @Mk/\type_of% @M1/\type_of% @Rz/\type_of% @Ox/\type_of% @abz/\type_of% @ahr/\type_of% @acb/\type_of% @On/\type_of% @Mg/\type_of% @Ny/\type_of% @Mp/\type_of% @Kc/\type_of% @ai3/\type_of% @Gu/\type_of% @List.isEmpty_cons.{0}/\type_of% @List.isEmpty_nil.{0}/\type_of% @List.flatMap_nil.{0,0}/\type_of% @Sk/\type_of% @S2/\type_of% @Si/\type_of% @Sw/\type_of% @Xm/\type_of% @V1/\type_of% @Vu/\type_of% @and_true/\type_of% @true_and/\type_of% @Rq/\type_of% @Se/\type_of% @abo/\type_of% @ams/\type_of% @auv/\type_of% @and_self:=
 ⟨@ani,@am1,@Xd,@am6,@Jd,@N8,@Option.isNone_none.{0},@Option.isNone_some.{0},@alz,@Rl,@Mk,@M1,@Rz,@Ox,@abz,@ahr,@acb,@On,@Mg,@Ny,@Mp,@Kc,@ai3,@Gu,@List.isEmpty_cons.{0},@List.isEmpty_nil.{0},@List.flatMap_nil.{0,0},@Sk,@S2,@Si,@Sw,@Xm,@V1,@Vu,@and_true,@true_and,@Rq,@Se,@abo,@ams,@auv,@and_self⟩
theorem R3:type_of% @List.size_toArray.{0}/\type_of% @Zn/\type_of% @aa0/\type_of% @ag6/\type_of% @ahy/\type_of% @aa6/\type_of% @ae2/\type_of% @U1/\type_of% @ag4/\type_of% @Md/\type_of% @abw/\type_of% @agr/\type_of% @Z8/\type_of% @Mu/\type_of% @Ov/\type_of% @Z5/\type_of% @ab4/\type_of% @I1/\type_of% @Rb/\type_of% @Zq/\type_of% @aba/\type_of% @anv/\type_of% @Wi/\type_of% @ai2/\type_of% @aay/\type_of% @Xp/\type_of% @aey/\type_of% @aa1/\type_of% @abp/\type_of% @U0/\type_of% @Uo/\type_of% @Sr/\type_of% @az8/\type_of% @ahh/\type_of% @Z1/\type_of% @Rt/\type_of% @Pe/\type_of% @Xt/\type_of% @U7/\type_of% @yh/\type_of% @Go.Vm.cellsIn.eq_1/\type_of% @Go.Vm.cellsIn.eq_2/\type_of% @Go.Vm.cellsIn.eq_5/\type_of% @Go.Vm.cellsIn.eq_6/\type_of% @Go.Vm.Lq.eq_1:=
 ⟨@List.size_toArray.{0},@Zn,@aa0,@ag6,@ahy,@aa6,@ae2,@U1,@ag4,@Md,@abw,@agr,@Z8,@Mu,@Ov,@Z5,@ab4,@I1,@Rb,@Zq,@aba,@anv,@Wi,@ai2,@aay,@Xp,@aey,@aa1,@abp,@U0,@Uo,@Sr,@az8,@ahh,@Z1,@Rt,@Pe,@Xt,@U7,@yh,@Go.Vm.cellsIn.eq_1,@Go.Vm.cellsIn.eq_2,@Go.Vm.cellsIn.eq_5,@Go.Vm.cellsIn.eq_6,@Go.Vm.Lq.eq_1⟩
theorem R4:type_of% @Go.Vm.Kp.eq_1/\type_of% @Gx/\type_of% @Nh/\type_of% @N2/\type_of% @Np/\type_of% @E7/\type_of% @Ia/\type_of% @Ic/\type_of% @Gz/\type_of% @Om/\type_of% @Jk/\type_of% @Pf/\type_of% @Fe/\type_of% @Mc/\type_of% @Ng/\type_of% @Mo/\type_of% @Ff/\type_of% @Mj/\type_of% @Mz/\type_of% @Sx/\type_of% @Nm/\type_of% @aal/\type_of% @sy/\type_of% @Xs/\type_of% @Sz/\type_of% @ahv/\type_of% @vw/\type_of% @ant/\type_of% @avv/\type_of% @at0/\type_of% @V9/\type_of% @Wg/\type_of% @Hk/\type_of% @abd/\type_of% @Vh:=
 ⟨@Go.Vm.Kp.eq_1,@Gx,@Nh,@N2,@Np,@E7,@Ia,@Ic,@Gz,@Om,@Jk,@Pf,@Fe,@Mc,@Ng,@Mo,@Ff,@Mj,@Mz,@Sx,@Nm,@aal,@sy,@Xs,@Sz,@ahv,@vw,@ant,@avv,@at0,@V9,@Wg,@Hk,@abd,@Vh⟩
theorem R5:type_of% @Go.Vm.ur.eq_1/\type_of% @List.flatten_cons.{0}/\type_of% @List.flatten_nil.{0}/\type_of% @List.replicate_succ.{0}/\type_of% @List.replicate_zero.{0}/\type_of% @Z4/\type_of% @Zu/\type_of% @asa/\type_of% @alo/\type_of% @azx/\type_of% @aAd/\type_of% @azr/\type_of% @Kz/\type_of% @He/\type_of% @Ly/\type_of% @B0/\type_of% @S6/\type_of% @Lu/\type_of% @Iq/\type_of% @Ma/\type_of% @B4/\type_of% @De/\type_of% @Te/\type_of% @ab5/\type_of% @Io/\type_of% @zy/\type_of% @H7/\type_of% @Jc/\type_of% @Fb/\type_of% @Sb/\type_of% @Ry/\type_of% @Nt/\type_of% @G7/\type_of% @Xc/\type_of% @O3/\type_of% @asp/\type_of% @ars/\type_of% @Go.IntKind.bits.eq_6/\type_of% @Nat.min_def/\type_of% @aAj/\type_of% @azw:=
 ⟨@Go.Vm.ur.eq_1,@List.flatten_cons.{0},@List.flatten_nil.{0},@List.replicate_succ.{0},@List.replicate_zero.{0},@Z4,@Zu,@asa,@alo,@azx,@aAd,@azr,@Kz,@He,@Ly,@B0,@S6,@Lu,@Iq,@Ma,@B4,@De,@Te,@ab5,@Io,@zy,@H7,@Jc,@Fb,@Sb,@Ry,@Nt,@G7,@Xc,@O3,@asp,@ars,@Go.IntKind.bits.eq_6,@Nat.min_def,@aAj,@azw⟩
theorem R6:type_of% @aAg/\type_of% @az9/\type_of% @aAk/\type_of% @azz/\type_of% @aAc/\type_of% @az0/\type_of% @aAi/\type_of% @azo/\type_of% @adv/\type_of% @agk/\type_of% @awt/\type_of% @aCy/\type_of% @ap5/\type_of% @Go.Vm.Lj.eq_1/\type_of% @Go.Vm.Cm.eq_1/\type_of% @Go.Vm.x5.eq_def/\type_of% @Go.Vm.F7.eq_1/\type_of% @Go.Vm.Gr.eq_1/\type_of% @Go.Vm.Ag.eq_1/\type_of% @Go.Vm.ql.eq_1/\type_of% @Go.Vm.ql.eq_2/\type_of% @Go.Vm.AV.known.eq_2/\type_of% @Go.Value.oneCell'.eq_3/\type_of% @Go.Vm.AV.cells.eq_1/\type_of% @Go.Vm.AV.cells.eq_2/\type_of% @Go.Vm.AV.cells.eq_3/\type_of% @Go.Value.cells.eq_1/\type_of% @Go.Value.cells.eq_2/\type_of% @Go.Vm.AV.one.eq_4/\type_of% @Go.Vm.AV.one.eq_5/\type_of% @Go.Vm.tj.eq_1/\type_of% @Go.Vm.ta.eq_1/\type_of% @Go.Vm.ta.eq_2/\type_of% @Go.Vm.Zd.eq_1/\type_of% @Go.Vm.si.eq_1/\type_of% @Go.Vm.we.eq_2/\type_of% @Go.Vm.we.eq_6/\type_of% @Go.Vm.kl.eq_1:=
 ⟨@aAg,@az9,@aAk,@azz,@aAc,@az0,@aAi,@azo,@adv,@agk,@awt,@aCy,@ap5,@Go.Vm.Lj.eq_1,@Go.Vm.Cm.eq_1,@Go.Vm.x5.eq_def,@Go.Vm.F7.eq_1,@Go.Vm.Gr.eq_1,@Go.Vm.Ag.eq_1,@Go.Vm.ql.eq_1,@Go.Vm.ql.eq_2,@Go.Vm.AV.known.eq_2,@Go.Value.oneCell'.eq_3,@Go.Vm.AV.cells.eq_1,@Go.Vm.AV.cells.eq_2,@Go.Vm.AV.cells.eq_3,@Go.Value.cells.eq_1,@Go.Value.cells.eq_2,@Go.Vm.AV.one.eq_4,@Go.Vm.AV.one.eq_5,@Go.Vm.tj.eq_1,@Go.Vm.ta.eq_1,@Go.Vm.ta.eq_2,@Go.Vm.Zd.eq_1,@Go.Vm.si.eq_1,@Go.Vm.we.eq_2,@Go.Vm.we.eq_6,@Go.Vm.kl.eq_1⟩
theorem R7:type_of% @Go.Vm.kl.eq_3/\type_of% @Go.Vm.kl.eq_4/\type_of% @Go.Vm.Lf.eq_1/\type_of% @Go.Vm.Qg.eq_1/\type_of% @Go.Vm.agq.eq_1/\type_of% @Go.Vm.ng.eq_1/\type_of% @Go.Vm.ng.eq_2/\type_of% @Go.Vm.ng.eq_3/\type_of% @Go.Vm.ng.eq_4/\type_of% @Go.Vm.ng.eq_5/\type_of% @Go.Vm.ng.eq_6/\type_of% @Go.Vm.ng.eq_7/\type_of% @Go.Vm.ng.eq_8/\type_of% @Go.Vm.ng.eq_9/\type_of% @Go.Vm.ng.eq_10/\type_of% @Go.Vm.AV.int.eq_1/\type_of% @Go.Vm.AV.bool.eq_1/\type_of% @Go.Vm.AV.exact.eq_1/\type_of% @Go.Vm.AV.exact.eq_2/\type_of% @Go.Vm.intOf.eq_1/\type_of% @Go.Vm.intOf.eq_2/\type_of% @Go.Vm.pf.eq_1/\type_of% @Go.Vm.tk.eq_1/\type_of% @Go.Vm.Aq.eq_1/\type_of% @Go.Vm.Aq.eq_2/\type_of% @Go.Vm.yc.eq_1/\type_of% @Go.Vm.En.eq_1/\type_of% @Go.Vm.pw.eq_1/\type_of% @Go.Vm.xi.eq_1/\type_of% @Go.Vm.ti.eq_1/\type_of% @Go.Vm.ti.eq_3/\type_of% @Go.Vm.ti.eq_9/\type_of% @Go.Vm.Ol.eq_1/\type_of% @Go.Vm.Tw.eq_1/\type_of% @Go.Vm.Vk.eq_1/\type_of% @Go.Vm.isSlice.eq_3/\type_of% @Go.Vm.isSlice.eq_4/\type_of% @Go.Vm.Qx.eq_1/\type_of% @Go.goInt.eq_1/\type_of% @av4/\type_of% @atr/\type_of% @au9:=
 ⟨@Go.Vm.kl.eq_3,@Go.Vm.kl.eq_4,@Go.Vm.Lf.eq_1,@Go.Vm.Qg.eq_1,@Go.Vm.agq.eq_1,@Go.Vm.ng.eq_1,@Go.Vm.ng.eq_2,@Go.Vm.ng.eq_3,@Go.Vm.ng.eq_4,@Go.Vm.ng.eq_5,@Go.Vm.ng.eq_6,@Go.Vm.ng.eq_7,@Go.Vm.ng.eq_8,@Go.Vm.ng.eq_9,@Go.Vm.ng.eq_10,@Go.Vm.AV.int.eq_1,@Go.Vm.AV.bool.eq_1,@Go.Vm.AV.exact.eq_1,@Go.Vm.AV.exact.eq_2,@Go.Vm.intOf.eq_1,@Go.Vm.intOf.eq_2,@Go.Vm.pf.eq_1,@Go.Vm.tk.eq_1,@Go.Vm.Aq.eq_1,@Go.Vm.Aq.eq_2,@Go.Vm.yc.eq_1,@Go.Vm.En.eq_1,@Go.Vm.pw.eq_1,@Go.Vm.xi.eq_1,@Go.Vm.ti.eq_1,@Go.Vm.ti.eq_3,@Go.Vm.ti.eq_9,@Go.Vm.Ol.eq_1,@Go.Vm.Tw.eq_1,@Go.Vm.Vk.eq_1,@Go.Vm.isSlice.eq_3,@Go.Vm.isSlice.eq_4,@Go.Vm.Qx.eq_1,@Go.goInt.eq_1,@av4,@atr,@au9⟩
theorem R8:type_of% @Go.Vm.pack.eq_1/\type_of% @Go.Vm.pack.eq_2/\type_of% @Go.Vm.cg.eq_1/\type_of% @Go.Vm.cg.eq_2/\type_of% @Go.Vm.bh.eq_1/\type_of% @Go.Vm.l6.eq_1/\type_of% @Go.Vm.l6.eq_2/\type_of% @Go.Vm.wi.eq_1/\type_of% @j5/\type_of% @Aj/\type_of% @abg/\type_of% @ahk/\type_of% @xg/\type_of% @xj/\type_of% @E5/\type_of% @Vi/\type_of% @V8/\type_of% @V0/\type_of% @Rv/\type_of% @A8/\type_of% @Go.Vm.ij.eq_1/\type_of% @Go.Vm.fl.eq_1/\type_of% @Go.Vm.ik.eq_1/\type_of% @Go.Vm.oo.eq_1/\type_of% @Go.Vm.oo.eq_2/\type_of% @Go.Vm.reach.eq_2/\type_of% @Go.Vm.reach.eq_3/\type_of% @Go.Vm.fj.eq_1/\type_of% @Go.Vm.dz.eq_1/\type_of% @Go.Vm.dz.eq_2/\type_of% @Go.Vm.AV.names.eq_1/\type_of% @Go.Vm.AV.names.eq_2/\type_of% @Go.Vm.AV.names.eq_3/\type_of% @Go.Vm.AV.names.eq_4/\type_of% @Go.Vm.AV.names.eq_5/\type_of% @Go.Vm.AV.names.eq_9/\type_of% @Go.Vm.AV.names.go.eq_1/\type_of% @Go.Vm.AV.names.go.eq_2/\type_of% @Go.Vm.bo.names.eq_1/\type_of% @Go.Vm.AV.da.eq_1/\type_of% @Go.Vm.AV.da.eq_2/\type_of% @Go.Vm.AV.da.eq_3/\type_of% @Go.Vm.AV.da.eq_4/\type_of% @Go.Vm.AV.da.eq_5/\type_of% @Go.Vm.AV.da.eq_6/\type_of% @Go.Vm.AV.da.eq_7/\type_of% @Go.Vm.AV.da.eq_11:=
 ⟨@Go.Vm.pack.eq_1,@Go.Vm.pack.eq_2,@Go.Vm.cg.eq_1,@Go.Vm.cg.eq_2,@Go.Vm.bh.eq_1,@Go.Vm.l6.eq_1,@Go.Vm.l6.eq_2,@Go.Vm.wi.eq_1,@j5,@Aj,@abg,@ahk,@xg,@xj,@E5,@Vi,@V8,@V0,@Rv,@A8,@Go.Vm.ij.eq_1,@Go.Vm.fl.eq_1,@Go.Vm.ik.eq_1,@Go.Vm.oo.eq_1,@Go.Vm.oo.eq_2,@Go.Vm.reach.eq_2,@Go.Vm.reach.eq_3,@Go.Vm.fj.eq_1,@Go.Vm.dz.eq_1,@Go.Vm.dz.eq_2,@Go.Vm.AV.names.eq_1,@Go.Vm.AV.names.eq_2,@Go.Vm.AV.names.eq_3,@Go.Vm.AV.names.eq_4,@Go.Vm.AV.names.eq_5,@Go.Vm.AV.names.eq_9,@Go.Vm.AV.names.go.eq_1,@Go.Vm.AV.names.go.eq_2,@Go.Vm.bo.names.eq_1,@Go.Vm.AV.da.eq_1,@Go.Vm.AV.da.eq_2,@Go.Vm.AV.da.eq_3,@Go.Vm.AV.da.eq_4,@Go.Vm.AV.da.eq_5,@Go.Vm.AV.da.eq_6,@Go.Vm.AV.da.eq_7,@Go.Vm.AV.da.eq_11⟩
theorem R9:type_of% @Go.Vm.bo.da.eq_1/\type_of% @Lo/\type_of% @amj/\type_of% @Go.Vm.jc.eq_1/\type_of% @Go.Vm.jc.eq_2/\type_of% @Go.Vm.iz.eq_2/\type_of% @gv/\type_of% @Option.bind_some.{0,0}/\type_of% @Option.bind_none.{0,0}/\type_of% @Option.map_some.{0,0}/\type_of% @Option.getD_some.{0}/\type_of% @Option.getD_none.{0}/\type_of% @Option.isSome_some.{0}/\type_of% @List.getElem?_cons_zero.{0}/\type_of% @List.getElem?_toArray.{0}/\type_of% @Go.Vm.c9.eq_1/\type_of% @List.drop_zero.{0}/\type_of% @List.drop_succ_cons.{0}/\type_of% @List.drop_nil.{0}/\type_of% @List.take_succ_cons.{0}/\type_of% @List.take_zero.{0}/\type_of% @List.length_cons.{0}/\type_of% @List.length_nil.{0}/\type_of% @List.length_map.{0,0}/\type_of% @List.getElem?_cons_succ.{0}/\type_of% @List.getElem?_nil.{0}/\type_of% @List.getElem?_map.{0,0}/\type_of% @List.getElem?_drop.{0}/\type_of% @List.map_cons.{0,0}/\type_of% @List.map_nil.{0,0}/\type_of% @List.nil_append.{0}/\type_of% @List.cons_append.{0}/\type_of% @List.append_nil.{0}/\type_of% @List.all_cons.{0}/\type_of% @List.all_nil.{0}/\type_of% @cond_true.{1}/\type_of% @cond_false.{1}/\type_of% @decide_true/\type_of% @decide_false/\type_of% @Bool.and_true/\type_of% @Bool.true_and/\type_of% @Bool.and_self/\type_of% @Bool.not_true/\type_of% @Bool.not_false/\type_of% @BEq.rfl.{0}/\type_of% @zzb/\type_of% @zza/\type_of% @Nat.add_zero/\type_of% @Nat.zero_add/\type_of% @Nat.mul_one/\type_of% @Int.toNat_natCast/\type_of% @Int.natCast_nonneg:=
 ⟨@Go.Vm.bo.da.eq_1,@Lo,@amj,@Go.Vm.jc.eq_1,@Go.Vm.jc.eq_2,@Go.Vm.iz.eq_2,@gv,@Option.bind_some.{0,0},@Option.bind_none.{0,0},@Option.map_some.{0,0},@Option.getD_some.{0},@Option.getD_none.{0},@Option.isSome_some.{0},@List.getElem?_cons_zero.{0},@List.getElem?_toArray.{0},@Go.Vm.c9.eq_1,@List.drop_zero.{0},@List.drop_succ_cons.{0},@List.drop_nil.{0},@List.take_succ_cons.{0},@List.take_zero.{0},@List.length_cons.{0},@List.length_nil.{0},@List.length_map.{0,0},@List.getElem?_cons_succ.{0},@List.getElem?_nil.{0},@List.getElem?_map.{0,0},@List.getElem?_drop.{0},@List.map_cons.{0,0},@List.map_nil.{0,0},@List.nil_append.{0},@List.cons_append.{0},@List.append_nil.{0},@List.all_cons.{0},@List.all_nil.{0},@cond_true.{1},@cond_false.{1},@decide_true,@decide_false,@Bool.and_true,@Bool.true_and,@Bool.and_self,@Bool.not_true,@Bool.not_false,@BEq.rfl.{0},@zzb,@zza,@Nat.add_zero,@Nat.zero_add,@Nat.mul_one,@Int.toNat_natCast,@Int.natCast_nonneg⟩
theorem R10:type_of% @Nat.sub_self/\type_of% @List.contains_nil.{0}/\type_of% @List.contains_cons.{0}/\type_of% @Bool.or_false/\type_of% @Bool.false_or/\type_of% @Bool.or_true/\type_of% @Bool.true_or/\type_of% @List.map_map.{0,0,0}/\type_of% @afz/\type_of% @Ji/\type_of% @O0/\type_of% @Nj/\type_of% @aau/\type_of% @xf/\type_of% @Vx/\type_of% @Ru/\type_of% @Xa/\type_of% @aDu/\type_of% @aD0/\type_of% @aEt/\type_of% @aC6/\type_of% @aD4/\type_of% @aD6/\type_of% @afk/\type_of% @ae6/\type_of% @abe/\type_of% @Wo/\type_of% @aeg/\type_of% @Go.Vm.AV.fresh.eq_1/\type_of% @Go.Vm.AV.fresh.eq_3/\type_of% @Go.Vm.AV.fresh.eq_4/\type_of% @Go.Vm.AV.fresh.go.eq_1/\type_of% @Go.Vm.AV.fresh.go.eq_2/\type_of% @List.map_append.{0,0}:=
 ⟨@Nat.sub_self,@List.contains_nil.{0},@List.contains_cons.{0},@Bool.or_false,@Bool.false_or,@Bool.or_true,@Bool.true_or,@List.map_map.{0,0,0},@afz,@Ji,@O0,@Nj,@aau,@xf,@Vx,@Ru,@Xa,@aDu,@aD0,@aEt,@aC6,@aD4,@aD6,@afk,@ae6,@abe,@Wo,@aeg,@Go.Vm.AV.fresh.eq_1,@Go.Vm.AV.fresh.eq_3,@Go.Vm.AV.fresh.eq_4,@Go.Vm.AV.fresh.go.eq_1,@Go.Vm.AV.fresh.go.eq_2,@List.map_append.{0,0}⟩
theorem RA:type_of% R0/\type_of% R1/\type_of% R2/\type_of% R3/\type_of% R4/\type_of% R5/\type_of% R6/\type_of% R7/\type_of% R8/\type_of% R9/\type_of% R10:=
 ⟨R0,R1,R2,R3,R4,R5,R6,R7,R8,R9,R10⟩
theorem FB:type_of% @List.cons.injEq.{0}/\type_of% @abb/\type_of% @aan/\type_of% @List.length_append.{0}/\type_of% @List.length_cons.{0}/\type_of% @List.length_nil.{0}/\type_of% @List.map_append.{0,0}/\type_of% @List.map_cons.{0,0}/\type_of% @List.map_nil.{0,0}/\type_of% @and_true/\type_of% @true_and/\type_of% @and_self/\type_of% @AV.sc.injEq/\type_of% @AV.sl.injEq/\type_of% @bo.row.injEq/\type_of% @Option.some.injEq.{0}/\type_of% @Value.int.injEq/\type_of% @Nat.zero_add:=
 ⟨@List.cons.injEq.{0},@abb,@aan,@List.length_append.{0},@List.length_cons.{0},@List.length_nil.{0},@List.map_append.{0,0},@List.map_cons.{0,0},@List.map_nil.{0,0},@and_true,@true_and,@and_self,@AV.sc.injEq,@AV.sl.injEq,@bo.row.injEq,@Option.some.injEq.{0},@Value.int.injEq,@Nat.zero_add⟩
theorem zF {p:Prop} (h:p:=by (first|rfl|trivial|omega|((try (simp (disch:=omega) only [ag]));(try (simp only [FB]));first|done|rfl|omega))):p:=h
end Go.Vm
end
