/- A piece of the proof of the law ZoneMakes: lemmas. No condition. -/
import Derived.Test.YtjagjbceegbaiaaGreatProg
import Derived.Test.YtjagjbceegbaiaaGreatRows
import Derived.Test.YtjagjbceegbaiaaGreatM1
set_option linter.unusedSimpArgs false
set_option linter.unusedVariables false
set_option linter.unusedSectionVars false
set_option maxRecDepth 2000000
namespace Go.Vm
variable [TK]
noncomputable section
theorem bz.one {g w a v} (h:Rel g w a v):bz g w [a] [v]:=bz.cons h (bz.nil _ _)
theorem Ox {g w a vs} (h:bz g w [a] vs):∃ v,vs=[v]/\Rel g w a v:=by
 match vs,h with
 | [v],h=>exact ⟨v,rfl,h.head⟩
 | [],h=>have:=h.1;simp at this
 |_::_::_,h=>have:=h.1;simp at this
def aLu {α:Type} (ofV:Value->Option α) (l:List AV):Option α:=
 match l with
 | [a]=>a.exact.bind ofV
 |_=>none
def abo {α:Type} (kd:LK) (jr : α->Value) (ofV:Value->Option α) (h1:∀ x,ofV (jr x)=some x) (h2:∀ v x,ofV v=some x->v=jr x) (h3:∀ x,(jr x).cells = #[jr x]) (h4:∀ x,(jr x).oneCell'=true) (h5:∀ x,qy (jr x)=kd):er α where
 kd:=kd
 Ph _ _ _ _ _ _ _ hc hr:=by simp at hc;subst hc;have:=hr.exact rfl;subst this;exact h5 _
 sz:=1
 agg:=false
 cells _ x:=[.sc (jr x)]
 dec _ _ l:=aLu ofV l
 len _ _:=rfl
 rt _ _ _ x _:=h1 x
 one _ _ x:=⟨_,rfl,by simp [AV.cells,h3],rfl⟩
 pl _ x c hc:=by simp at hc;subst hc;exact ⟨fun τ=>by simp [AV.cx],by simp [AV.names],h4 x,rfl⟩
 fr x c hc:=by simp at hc;subst hc;rfl
 ok:=by
  intro fr g h w K b0 l vs x _ _ _ hr hd
  match l,hd with
  | [a],hd=>
   obtain ⟨u,rfl,hu⟩:=Ox hr;cases a with
   |sc v=>
    have:=hu.exact rfl;subst this;have:=h2 _ _ hd;subst this;exact bz.one (.sc _)
   |_=>cases hd
def aAl (k:IntKind) (v:Value):Option Int:=
 match v with
 |.int k' n=>bif decide (k'=k) then some n else none
 |_=>none
def bh (k:IntKind):er Int:=abo (.int k) (fun n=>.int k n) (aAl k) (fun x=>by simp [aAl]) (fun v x h=>by
 cases v<;>simp [aAl] at h;rename_i k' n;by_cases e:k'=k
 ·subst e;simp at h;rw [h]
 ·simp [e] at h) (fun x=>rfl) (fun x=>rfl) (fun x=>rfl)
def bq:er Bool:=abo .bool (fun b=>.bool b) ti (fun x=>rfl) (fun v x h=>by cases v<;>simp [ti] at h;rw [h]) (fun x=>rfl) (fun x=>rfl) (fun x=>rfl)
def ah:er ByteArray:=abo .str (fun s=>.string s) strOf (fun x=>rfl) (fun v x h=>by cases v<;>simp [strOf] at h;rw [h]) (fun x=>rfl) (fun x=>rfl) (fun x=>rfl)
def u8V (v:Value):Option UInt8:=
 match v with
 |.int k n=>bif decide (k = .u8) && decide (0<=n) && decide (n<256) then some (UInt8.ofNat n.toNat) else none
 |_=>none
def bt:er UInt8:=abo (.int .u8) (fun n=>.int .u8 n.toNat) u8V (fun x=>by
 have:=x.toNat_lt;simp [u8V,show (x.toNat:Int)<256 by omega]) (fun v x h=>by
 cases v<;>simp [u8V] at h;rename_i k n;cases hb:(decide (k = .u8) && decide (0<=n) && decide (n<256)) with
 |false=>rw [hb] at h;cases h
 |true=>
  rw [hb] at h;simp at hb h;obtain ⟨⟨rfl,h0⟩,h1⟩:=hb;subst h
  congr 1
  rw [UInt8.toNat_ofNat'];omega) (fun x=>rfl) (fun x=>rfl) (fun x=>rfl)
def aDo (v:Value):Option UInt16:=
 match v with
 |.int k n=>bif decide (k = .u16) && decide (0<=n) && decide (n<65536) then some (UInt16.ofNat n.toNat) else none
 |_=>none
def ct:er UInt16:=abo (.int .u16) (fun n=>.int .u16 n.toNat) aDo (fun x=>by
 have:=x.toNat_lt;simp [aDo,show (x.toNat:Int)<65536 by omega]) (fun v x h=>by
 cases v<;>simp [aDo] at h;rename_i k n;cases hb:(decide (k = .u16) && decide (0<=n) && decide (n<65536)) with
 |false=>rw [hb] at h;cases h
 |true=>
  rw [hb] at h;simp at hb h;obtain ⟨⟨rfl,h0⟩,h1⟩:=hb;subst h
  congr 1
  rw [UInt16.toNat_ofNat'];omega) (fun x=>rfl) (fun x=>rfl) (fun x=>rfl)
def aCk (v:Value):Option UInt32:=
 match v with
 |.int k n=>bif decide (k = .u32) && decide (0<=n) && decide (n<4294967296) then some (UInt32.ofNat n.toNat) else none
 |_=>none
def cy:er UInt32:=abo (.int .u32) (fun n=>.int .u32 n.toNat) aCk (fun x=>by
 have:=x.toNat_lt;simp [aCk,show (x.toNat:Int)<4294967296 by omega]) (fun v x h=>by
 cases v<;>simp [aCk] at h;rename_i k n;cases hb:(decide (k = .u32) && decide (0<=n) && decide (n<4294967296)) with
 |false=>rw [hb] at h;cases h
 |true=>
  rw [hb] at h;simp at hb h;obtain ⟨⟨rfl,h0⟩,h1⟩:=hb;subst h
  congr 1
  rw [UInt32.toNat_ofNat'];omega) (fun x=>rfl) (fun x=>rfl) (fun x=>rfl)
theorem aKh {g w l n es v} (h:Rel g w (.vl l n es) v):qy v = .no:=by cases h<;>rfl
def bw {α:Type} (C:er α):er (List α) where
 sz:=1
 kd:=.no
 Ph _ _ _ _ _ _ _ hc hr:=by simp at hc;subst hc;exact aKh hr
 agg:=false
 cells l xs:=[.vl l C.sz (xs.map (C.val l))]
 dec:=aEo C
 len _ _:=rfl
 rt:=by
  intro fr h l x hl;simp only [aEo,kl];cases hb:(Nat.beq C.sz C.sz && (l || !fr)) with
  |false=>cases fr<;>simp_all
  |true=>rw [cond_true,aac C fr h l hl]
 one _ _ x:=⟨_,rfl,rfl,rfl⟩
 pl l xs c hc:=by simp at hc;subst hc;exact ⟨fun τ=>by rw [AV.cx,W2 (fun c hc=>by obtain ⟨x,_,rfl⟩:=zyl.1 hc;exact I0 C τ l x)],by simp [AV.names],rfl,rfl⟩
 fr xs c hc:=by simp at hc;subst hc;simp only [AV.fresh,Bool.true_and];exact Du (fun c hc=>by obtain ⟨x,_,rfl⟩:=zyl.1 hc;exact Sq C x)
 ok:=by
  intro fr g h w K b0 l vs x aB hl hb hr hd
  match l,hd with
  | [a],hd=>
   obtain ⟨u,rfl,hu⟩:=Ox hr;exact bz.one (aF5 C aB hl hb hu hd)
def mi {α β:Type} (A:er α) (B:er β):er (α × β) where
 sz:=A.sz+B.sz
 kd:=bif Nat.beq A.sz 1 then A.kd else B.kd
 Ph e _ _ l x c v hc hr:=by
  rcases zyh 0 A.sz with h|h
  ·have ha:A.sz=1:=zO;have hb:B.cells l x.2=[]:=zzf (by rw [B.len];omega);rw [hb,zzn] at hc;rw [ha];exact A.Ph ha hc hr
  ·have ha:A.sz=0:=zO;have hb:A.cells l x.1=[]:=zzf (by rw [A.len];omega);rw [hb,List.nil_append] at hc;rw [ha];exact B.Ph zO hc hr
 agg:=true
 cells l p:=A.cells l p.1++B.cells l p.2
 dec fr h l:=match A.dec fr h (l.take A.sz),B.dec fr h (l.drop A.sz) with
  |some x,some y=>some (x,y)
  |_,_=>none
 len l p:=by simp [A.len,B.len]
 rt:=by
  intro fr h l p hl;have h1:(A.cells l p.1++B.cells l p.2).take A.sz=A.cells l p.1:=by rw [<- A.len l p.1,List.take_left]
  have h2:(A.cells l p.1++B.cells l p.2).drop A.sz=B.cells l p.2:=by rw [<- A.len l p.1,List.drop_left]
  simp only [h1,h2,A.rt fr h l _ hl,B.rt fr h l _ hl]
 one e:=by cases e
 pl l p c hc:=by rcases zzq.1 hc with h|h;exact A.pl l _ c h;exact B.pl l _ c h
 fr p c hc:=by rcases zzq.1 hc with h|h;exact A.fr _ c h;exact B.fr _ c h
 ok:=by
  intro fr g h w K b0 l vs x aB hl hb hr hd
  split at hd
  ·rename_i x1 y1 hx hy;simp at hd;subst hd;have:=(A.ok aB hl hb (hr.take A.sz) hx).append (B.ok aB hl hb (hr.drop A.sz) hy)
   rwa [zzm] at this
  ·cases hd
def Em {α β:Type} (C:er α) (f : β -> α) (i : α -> β) (h1:∀ y,i (f y)=y) (h2:∀ x,f (i x)=x):er β where
 sz:=C.sz
 kd:=C.kd
 Ph e _ _ _ _ _ _ hc hr:=C.Ph e hc hr
 agg:=C.agg
 cells l y:=C.cells l (f y)
 dec fr h l:=(C.dec fr h l).map i
 len l y:=C.len l (f y)
 rt fr h l y hl:=by rw [C.rt fr h l _ hl];simp [h1]
 one e l y:=C.one e l (f y)
 pl l y:=C.pl l (f y)
 fr y:=C.fr (f y)
 ok:=by intro fr g h w K b0 l vs x aB hl hb hr hd;rw [zzk] at hd;obtain ⟨y,hy,rfl⟩:=hd;rw [h2];exact C.ok aB hl hb hr hy
structure AC (α:Type) where
 E : α->List AV
 D:Tr bk->List AV->Option α
 rt:∀ h x,D h (E x)=some x
 ok:∀ {g h w K b0 l vs x},Ok g h w->Au g h K->bz g w l vs->D h l=some x->bz (gK b0 K) w (E x) vs
def AC.get {α:Type} (A:AC α) (h:Tr bk) (l:List AV):Option α:=A.D h l
def a0:AC Unit where
 E _:=[]
 D _ l:=match l with
  | []=>some ()
  |_=>none
 rt _ _:=rfl
 ok:=by
  intro g h w K b0 l vs x _ _ hr hd
  match l,hd with
  | [],_=>
   have:=hr.1;simp at this;subst this;exact bz.nil _ _
def aC {α β:Type} (C:er α) (R:AC β):AC (α × β) where
 E p:=C.val false p.1::R.E p.2
 D h l:=match l with
  | []=>none
  |a::r=>match C.j9 false h a,R.D h r with
   |some x,some y=>some (x,y)
   |_,_=>none
 rt h p:=by simp only [C.Pz false h false p.1 (fun e=>by cases e),R.rt]
 ok:=by
  intro g h w K b0 l vs x aB hl hr hd
  match l,hd with
  |a::r,hd=>
   simp only at hd
   split at hd
   ·rename_i x1 y1 hx hy;simp at hd;subst hd
    match vs,hr with
    | [],hr=>have:=hr.1;simp at this
    |v::vs,hr=>exact bz.cons (C.okV aB hl (fun e=>by cases e) hr.head hx) (R.ok aB hl hr.tail hy)
   ·cases hd
structure RC (α:Type) where
 E:Bool -> α->AV
 D:Bool->Tr bk->AV->Option α
 ok:∀ {fr g h w K b0 a v x},Ok g h w->Au g h K->(fr=true->b0<=g.b0)->Rel g w a v->D fr h a=some x->Rel (gK b0 K) w (E fr x) v
def RC.get {α:Type} (R:RC α) (fr:Bool) (h:Tr bk) (a:AV):Option α:=R.D fr h a
def r1 {α:Type} (C:er α):RC α where
 E:=C.val
 D:=C.j9
 ok aB hl hb hr hd:=C.okV aB hl hb hr hd
def O9 (a:AV):Option (List AV):=
 match a with
 |.gj l=>some l
 |.sc v=>match v with
  |.tuple vs=>some (vs.toList.map .sc)
  |_=>none
 |_=>none
theorem aql {g w a v l} (hr:Rel g w a v) (h:O9 a=some l):∃ vs,v = .tuple vs/\bz g w l vs.toList:=by
 cases hr with
 |gj l' vs hs hh=>
  simp [O9] at h;subst h;exact ⟨vs,rfl,⟨by simpa using hs,fun i a v ha hv=>hh i a v ha (by simpa using hv)⟩⟩
 |sc v=>
  cases v<;>simp [O9] at h;subst h;exact ⟨_,rfl,bz.Ke g w _⟩
 |_=>cases h
theorem aqq {g w l} {vs:Array Value} (h:bz g w l vs.toList):Rel g w (.gj l) (.tuple vs):=
 .gj l vs (by simpa using h.1) (fun i a v ha hv=>h.2 i a v ha (by simpa using hv))
def r2 {α β:Type} (A:er α) (B:er β):RC (α × β) where
 E l p:=.gj [A.val l p.1,B.val l p.2]
 D fr h a:=match O9 a with
  |some [a,b]=>match A.j9 fr h a,B.j9 fr h b with
   |some x,some y=>some (x,y)
   |_,_=>none
  |_=>none
 ok:=by
  intro fr g h w K b0 a v x aB hl hb hr hd;cases ht:O9 a with
  |none=>rw [ht] at hd;cases hd
  |some l=>
   rw [ht] at hd;obtain ⟨vs,rfl,hrel⟩:=aql hr ht
   match l,hd with
   | [a,b],hd=>
    simp only at hd
    split at hd
    ·rename_i x1 y1 hx hy;simp at hd;subst hd;obtain ⟨vl⟩:=vs
     match vl,hrel with
     | [u,v],hrel=>exact aqq (bz.cons (A.okV aB hl hb hrel.head hx) (bz.one (B.okV aB hl hb hrel.tail.head hy)))
     | [],hrel=>have:=hrel.1;simp at this
     | [_],hrel=>have:=hrel.1;simp at this
     |_::_::_::_,hrel=>have:=hrel.1;simp at this
    ·cases hd
def r3 {α β γ:Type} (A:er α) (B:er β) (C:er γ):RC (α × β × γ) where
 E l p:=.gj [A.val l p.1,B.val l p.2.1,C.val l p.2.2]
 D fr h a:=match O9 a with
  |some [a,b,c]=>match A.j9 fr h a,B.j9 fr h b,C.j9 fr h c with
   |some x,some y,some z=>some (x,y,z)
   |_,_,_=>none
  |_=>none
 ok:=by
  intro fr g h w K b0 a v x aB hl hb hr hd;cases ht:O9 a with
  |none=>rw [ht] at hd;cases hd
  |some l=>
   rw [ht] at hd;obtain ⟨vs,rfl,hrel⟩:=aql hr ht
   match l,hd with
   | [a,b,c],hd=>
    simp only at hd
    split at hd
    ·rename_i x1 y1 z1 hx hy hz;simp at hd;subst hd;obtain ⟨vl⟩:=vs
     match vl,hrel with
     | [u,v,t],hrel=>exact aqq (bz.cons (A.okV aB hl hb hrel.head hx) (bz.cons (B.okV aB hl hb hrel.tail.head hy) (bz.one (C.okV aB hl hb hrel.tail.tail.head hz))))
     | [],hrel=>have:=hrel.1;simp at this
     | [_],hrel=>have:=hrel.1;simp at this
     | [_,_],hrel=>have:=hrel.1;simp at this
     |_::_::_::_::_,hrel=>have:=hrel.1;simp at this
    ·cases hd
structure ta (w w':World):Prop where
 size:w.heap.size<=w'.heap.size
 heap:∀ b,b<w.heap.size->w'.heap[b]? = w.heap[b]?
 os:w'.os=w.os
 tape:w'.tape=w.tape
 output:w'.output=w.output
def Pc (K:Nat->Nat->Prop) (w w':World):Nat->Nat->Prop:=fun b j=>K b j\/(w.heap.size<=b/\b<w'.heap.size)
def ari (P:Program) (f:Nat) (vs:List Value) (w:World) (X:Value->World->Prop):Prop:=
 (∃ v,(callFunc f vs.toArray).run P w = .ok (.value v) w/\X v w) \/
 ((callFunc f vs.toArray).run P w = .ok (.enter f vs.toArray) w/\Calls P f vs.toArray w (fun e w'=>∃ v,e = .returned v/\X v w'))
def bo (P:Program) (f:Nat) (args:List AV) (r:AV):Prop:=
 ∀ (K:Nat->Nat->Prop) (w:World) (vs:List Value),(∀ b j,K b j->b<w.heap.size)->bz (gK w.heap.size K) w args vs ->
  ari P f vs w (fun v w'=>ta w w'/\Rel (gK w.heap.size (Pc K w w')) w' r v)
theorem ac4 {P:Program} [KP P] {g w nt} {L:SL} {tmps:Array Value} {st:St} (aB:Ok g st.h w) (hs:kj g w nt L tmps):∀ (rs:List ResultVar) (l:List AV),xt P L st rs=some l ->
 ∃ vs,(rs.mapM (wt tmps)).run P w = .ok vs w/\bz g w l vs:=by
 intro rs
 induction rs with
 |nil=>intro l h;simp [xt] at h;subst h;exact ⟨[],by simp,bz.nil _ _⟩
 |cons r rs ih=>
  intro l h;cases r with
  |tmp t=>
   simp only [xt,zzk] at h;obtain ⟨l',h1,rfl⟩:=h;obtain ⟨vs,h2,h3⟩:=ih l' h1;refine ⟨tmps.getD t undef::vs,?_,bz.cons (hs.2 t) h3⟩;simp only [List.mapM_cons,Sem.run_bind,wt,Sem.run_pure,Result.andThen_ok,h2]
  |cell c t=>
   simp only [xt] at h
   split at h
   ·rename_i v st' hl;rw [zzk] at h;obtain ⟨l',h1,rfl⟩:=h;obtain ⟨vs,h2,h3⟩:=ih l' h1;have hrel:=hs.2 c;have sL:∃ ad,tmps.getD c undef = .pointer (some ad):=by
     generalize lk L c=x at hrel hl;generalize tmps.getD c undef=v at hrel;cases hrel<;>first|exact ⟨_,rfl⟩|cases hl
    obtain ⟨ad,had⟩:=sL;obtain ⟨u,h4,h5⟩:=avl (P:=P) aB hrel hl had;refine ⟨u::vs,?_,bz.cons h5 h3⟩;have h6:(wt tmps (.cell c t)).run P w = .ok u w:=by simp [wt,had,asAddr,h4]
    simp only [List.mapM_cons,Sem.run_bind,h6,Result.andThen_ok,h2];rfl
   ·cases h
theorem abu {P:Program} [KP P] {g w} {fn:Func} {tmps:Array Value} {l:List AV} {vs:List Value} (h:(fn.results.toList.mapM (wt tmps)).run P w = .ok vs w) (q4:bz g w l vs) :
 ∃ v,(results fn tmps).run P w = .ok v w/\Rel g w (pack l) v:=by
 have hmap:(fn.results.mapM (wt tmps)).run P w = .ok vs.toArray w:=by rw [Array.mapM_eq_mapM_toList];simp [h]
 rw [Y5];simp only [Sem.run_bind,hmap,Result.andThen_ok,Sem.run_pure];refine ⟨_,rfl,?_⟩
 match l,vs,q4 with
 | [a1],[v1],q4=>simpa [pack] using q4.head
 | [],[],q4=>simp [pack];exact .gj _ _ rfl (fun i a v h _=>by simp at h)
 |a1::a2::l,v1::v2::vs,q4=>
  simp [pack];exact .gj _ _ (by have:=q4.1;simp at this ⊢;omega) (fun i a v h1 h2=>q4.2 i a v h1 (by simpa using h2))
 | [],v::vs,q4=>have:=q4.1;simp at this
 |a::l,[],q4=>have:=q4.1;simp at this
 | [a1],v1::v2::vs,q4=>have:=q4.1;simp at this
 |a1::a2::l,[v1],q4=>have:=q4.1;simp at this
theorem ac2 {P:Program} [KP P] {T:fp} (hT:ak P T) (hm:P.follows .mixedOrders=true) {f:Nat} {fn:Func} {body:Code} (hf:P.funcs[f]? = some fn) (hb:fn.body=some body) (he:qk P f=true) (hs:fq fn.ntmps body=true)
 {args:List AV} (hl:args.length<=fn.ntmps) {ρ:Type} (R:RC ρ) (fr:Bool) (x : ρ)
 (h:wl P T 0 body (di P fn.results.toList (fun r st=>R.get fr st.h r=some x)) (cj 0 args) (ay [])):bo P f args (R.E fr x):=by
 intro K w vs hK hrel;refine .inr ⟨ur he _ _,yy (ro:=none) (n:=0) (callsIn_of_wp_marks hf hb trivial ?_)⟩
 let B:dz:={ b0:=w.heap.size,w,K,O:=fun _=>False,bg:=0,pb:=fun _=>none,n0:=w.heap.size }
 have bE:mf B (gK w.heap.size K) (ay []) w:=by
  refine ⟨⟨zza _,fun o x hx=>?_,fun o o' x x' b base base' _ hx=>?_,hK⟩,fun o _ _=>rfl,⟨rfl,(fun o ho=>(by rcases ho with ho|ho;cases ho;exact ho.elim)),fun _ _ h=>h,fun _ _ _=>rfl,zza _,rfl,rfl,rfl,fun _ _ _=>rfl,fun o b base ho=>?_,fun _ _ h=>.inl h,fun b cs e fr h=>⟨cs,fr,h,rfl⟩,fun b l h=>⟨l,h⟩,fun _ _ _ _ _ _=>rfl⟩,zzb _⟩
  ·simp [ay,ov,Tr.get_nil] at hx
  ·simp [ay,ov,Tr.get_nil] at hx
  ·simp [ay,ov,Tr.get_nil] at ho
 refine wpIn_mono (ato hT hm (N:=0) (B:=B) (nt:=fn.ntmps) (fun _ h=>h) (by show (0:Nat)<=1000;omega) (zza _) body hs _ _ _ (gK w.heap.size K) w _ h bE (Ek hrel hl) (Marks.nil _ _ _ _)) ?_;rintro ex a w' ⟨e,L,st,g,rfl,hq,hc,hr,hd⟩;have fin:Mc (xt P L st fn.results.toList) (fun r st=>R.get fr st.h r=some x) st->bodyPostM (fw none) 0 P fn (fun e w'=>∃ v,e = .returned v/\ta w w'/\Rel (gK w.heap.size (Pc K w w')) w' (R.E fr x) v) .ret a w':=by
  intro hq;show LeavesInM (fw none) 0 P fn a.tmps _ a.defers .returning w';unfold Mc at hq;cases hres:xt P L st fn.results.toList with
  |none=>rw [hres] at hq;exact hq.elim
  |some l=>
   rw [hres] at hq;have bI:=hc.base;obtain ⟨bs,e1,e2,e3⟩:=hd;have e1:=e1.trans (zzn _);rw [e1];refine G4 (Good:=fun u=>Ok g st.h u/\ta w u/\(∀ a v,Rel g w' a v->Rel g u a v)/\u.heap.size=w'.heap.size) (S:=fun b=>w.heap.size<=b/\ja g st.h b) ?_ ?_ bs w'
    ⟨hc.ok,⟨bI.size,fun b hlt=>bI.frame b hlt (fun h=>h),bI.os,bI.tape,bI.output⟩,fun _ _ h=>h,rfl⟩ e2 (fun b hb=>⟨⟨(e3 b hb).1,(e3 b hb).2.2⟩,(e3 b hb).2.1⟩)
   ·rintro u b ⟨g1,g2,g3,g4⟩ ⟨hb1,hb2⟩ hb3;have hput:=Ok.Mj (ds':=none) g1 hb3 hb2;exact ⟨hput.1,⟨by rw [pd];exact g2.size,fun c hc=>(gm u _ zO).trans (g2.heap c hc),g2.os,g2.tape,g2.output⟩,fun a v h=>hput.2 a v (g3 a v h),by rw [pd];exact g4⟩
   ·rintro u ⟨g1,g2,g3,g4⟩;obtain ⟨us,h1,h2⟩:=ac4 (P:=P) g1 ⟨hr.1,fun t=>g3 _ _ (hr.2 t)⟩ fn.results.toList l hres;obtain ⟨v,h3,h4⟩:=abu h1 h2;refine ⟨v,h3,v,rfl,g2,?_⟩;refine R.ok g1 ⟨fun b j hk=>?_,fun o cells k s e ho b base hi j hj=>?_⟩ (fun _=>?_) h4 hq
    ·rcases bI.o0 b j hk with h5|h5|h5
     ·exact .inl h5
     ·exact .inr ⟨h5,g1.K b j hk⟩
     ·exact h5.elim
    ·obtain ⟨b',base',h5,_,h6⟩:=g1.obj o _ ho;rw [hi] at h5;cases h5;rcases bI.own o b base (by rw [ho];rfl) hi with h7|h7
     ·exact .inr ⟨h7,h6.lt⟩
     ·exact h7.elim
    ·rw [bI.b0];exact zza _
 cases e with
 |normal=>exact fin hq
 |ret=>exact fin hq
 |exit id=>exact hq.elim
theorem Rel.lift {b0 K g w a v} (h:Rel (gK b0 K) w a v) (hb:g.b0<=b0) (hK:∀ b j,K b j->g.K b j):Rel g w a v:=by
 have hno:∀ o p,(gK b0 K).inj o≠some p:=fun o p e=>by cases e
 generalize hg:gK b0 K=g0 at h hno;have hK':∀ b j,g0.K b j->g.K b j:=by subst hg;exact hK
 have hb':g.b0<=g0.b0:=by subst hg;exact hb
 clear hg
 induction h with
 |sc x=>exact .sc x
 |agg l vs hs _ ih=>exact .agg l vs hs ih
 |gj l vs hs _ ih=>exact .gj l vs hs ih
 |vl loc sz es b off cap c hsz hl aR h _ hw ih=>exact .vl loc sz es b off cap c hsz (fun e=>zzu hb' (hl e)) aR (fun j a hj=>⟨hK' _ _ (h j a hj).1,(h j a hj).2⟩) ih (fun e=>⟨fun j=>hK' _ _ ((hw e).K j),(hw e).ju,(hw e).none,(hw e).cm⟩)
 |ni loc sz=>exact .ni loc sz
 |xk loc sz a=>exact .xk loc sz a
 |sl o off len sz b base cap hi hc hm hr=>exact (hno _ _ hi).elim
 |ug o off sz a=>exact .ug o off sz a
 |uw o off sz=>exact .uw o off sz
 |ez a=>exact .ez a
 |ptr o off b base hi=>exact (hno _ _ hi).elim
 |ik l b off c h _ ih=>exact .ik l b off c (fun j a hj=>⟨hK' _ _ (h j a hj).1,(h j a hj).2⟩) ih
 |fn f first captured va vb hs _ hs' _ ih ih'=>exact .fn f first captured va vb hs ih hs' ih'
 |mp o b base hi=>exact (hno _ _ hi).elim
 |vv t a v _ ih=>exact .vv t a v ih
 |yl o b base hi=>exact (hno _ _ hi).elim
 |bad v=>exact .bad v
theorem I6 {l:List AV} (h:AV.fresh.go l=true):∀ a ∈ l,a.fresh=true:=by
 induction l with
 |nil=>intro a ha;cases ha
 |cons x l ih=>
  simp only [AV.fresh.go,zzh] at h;intro a ha;rcases zyb.1 ha with rfl|ha
  ·exact h.1
  ·exact ih h.2 a ha
theorem anw {a:AV} (h:a.fresh=true):∀ c ∈ a.cells,c.fresh=true:=by
 cases a with
 |agg l=>exact I6 h
 |sc v=>intro c hc;simp only [AV.cells,zyl] at hc;obtain ⟨x,_,rfl⟩:=hc;rfl
 |_=>intro c hc;simp only [AV.cells,zz0] at hc;subst hc;exact h
theorem Rel.fresh {b0 K g w a v} (h:Rel (gK b0 K) w a v) (hf:a.fresh=true) (hb:g.b0<=b0) (hK:∀ b j,K b j->b0<=b->g.K b j):Rel g w a v:=by
 generalize hg:gK b0 K=g0 at h;have hK':∀ b j,g0.K b j->g0.b0<=b->g.K b j:=by subst hg;exact hK
 have hb':g.b0<=g0.b0:=by subst hg;exact hb
 clear hg hb hK
 induction h with
 |sc x=>exact .sc x
 |agg l vs hs _ ih=>exact .agg l vs hs (fun i a v ha hv=>ih i a v ha hv (I6 hf a (zm ha)))
 |gj l vs hs _ ih=>exact .gj l vs hs (fun i a v ha hv=>ih i a v ha hv (I6 hf a (zm ha)))
 |vl loc sz es b off cap c hsz hl aR h _ hw ih=>
  simp only [AV.fresh,zzh] at hf;have jI:=hl hf.1;refine .vl loc sz es b off cap c hsz (fun e=>zzu hb' jI) aR (fun j a hj=>⟨hK' _ _ (h j a hj).1 jI,(h j a hj).2⟩) (fun j a hj=>ih j a hj ?_) (fun e=>⟨fun j=>hK' _ _ ((hw e).K j) jI,(hw e).ju,(hw e).none,(hw e).cm⟩);obtain ⟨e,he,hc⟩:=List.mem_flatMap.1 (zm hj);exact anw (I6 hf.2 e he) a hc
 |ni loc sz=>exact .ni loc sz
 |xk loc sz a=>exact .xk loc sz a
 |sl o off len sz b base cap hi hc hm hr=>cases hf
 |ug o off sz a=>cases hf
 |uw o off sz=>cases hf
 |ez a=>exact .ez a
 |ptr o off b base hi=>cases hf
 |ik l b off c h _ ih=>cases hf
 |fn f first captured va vb hs _ hs' _ ih ih'=>
  simp only [AV.fresh,zzh] at hf;exact .fn f first captured va vb hs (fun i a v ha hv=>ih i a v ha hv (I6 hf.1 a (zm ha))) hs' (fun i a v ha hv=>ih' i a v ha hv (I6 hf.2 a (zm ha)))
 |mp o b base hi=>cases hf
 |vv t a v _ ih=>exact .vv t a v (ih hf)
 |yl o b base hi=>cases hf
 |bad v=>cases hf
def Gh.more (g:Gh) (w w':World):Gh:={ g with K:=Pc g.K w w' }
theorem Y1 {g h w w'} {lo hi:Nat} (aB:Ok g h w) (q:ta w w'):Step g h w lo hi (g.more w w') h w'/\Ok (g.more w w') h w':=by
 have aI:Ext g w (g.more w w') w':=by refine ⟨rfl,fun _ _ h=>h,fun _ _ h=>.inl h,fun b j hj=>th (q.heap b (aB.K b j hj)),fun b cs e fr hb=>⟨cs,fr,(q.heap b (cd hb)).trans hb,rfl⟩,fun b l hb=>⟨l,(q.heap b (cd hb)).trans hb⟩,fun b cs e fr hb _=>q.heap b (cd hb)⟩
 refine ⟨⟨aI,q.size,q.os,q.tape,q.output,fun b hb _=>q.heap b hb,fun _ h _=>h,fun o b base ho hi=>.inr ⟨o,base,ho,hi⟩,fun b j hk=>?_⟩,⟨zzu aB.size q.size,fun o x hx=>?_,aB.sep,fun b j hk=>?_⟩⟩
 ·rcases hk with hk|hk
  ·exact .inl hk
  ·exact .inr (.inl hk.1)
 ·refine (aB.px o x hx).imp id ?_;rintro ⟨b,base,h1,h2,h3⟩;refine ⟨b,base,h1,h2,h3.ext aI (q.heap b h3.lt) (fun j hk=>?_)⟩;rcases hk with hk|hk
  ·exact hk
  ·have:=h3.lt;omega
 ·rcases hk with hk|hk
  ·exact zyd (aB.K b j hk) q.size
  ·exact hk.2
noncomputable def dg {α:Type} (A:AC α) (F : α->Option AV) (args:List AV):M AV:=fun st=>
 match A.get .nil args with
 |some x=>(F x).map fun r=>(r,st)
 |none=>
  match A.get st.h args with
  |some x=>
   match F x with
   |some r=>bif r.fresh then some (r,st) else some (r,{ st with h:=.nil })
   |none=>none
  |none=>none
theorem aq {P:Program} [KP P] {f:Nat} {α:Type} {A:AC α} {F : α->Option AV} (h:∀ x r,F x=some r->bo P f (A.E x) r) (args:List AV):Dz P f args (dg A F args):=by
 intro g st w vs r st' aB cB hrel hm;have go:∀ (X:Value->World->Prop),ari P f vs w X->(∀ v w',X v w'->ta w w'/\Rel (g.more w w') w' r v)->st'=st ->
  (∃ v w' g',(callFunc f vs.toArray).run P w = .ok (.value v) w'/\Step g st.h w st.nx st'.nx g' st'.h w'/\Ok g' st'.h w'/\Rel g' w' r v) \/
  ((callFunc f vs.toArray).run P w = .ok (.enter f vs.toArray) w/\Calls P f vs.toArray w (fun e w'=>∃ v g',e = .returned v/\Step g st.h w st.nx st'.nx g' st'.h w'/\Ok g' st'.h w'/\Rel g' w' r v)):=by
  intro X hx hX e;subst e;rcases hx with ⟨v,h1,h2⟩|⟨h1,h2⟩
  ·obtain ⟨q,hr⟩:=hX v w h2;have:=Y1 (lo:=st'.nx) (hi:=st'.nx) aB q;exact .inl ⟨v,w,_,h1,this.1,this.2,hr⟩
  ·refine .inr ⟨h1,h2.mono ?_⟩;rintro e w' ⟨v,rfl,h3⟩;obtain ⟨q,hr⟩:=hX v w' h3;have:=Y1 (lo:=st'.nx) (hi:=st'.nx) aB q;exact ⟨v,_,rfl,this.1,this.2,hr⟩
 unfold dg at hm;cases h1:A.get .nil args with
 |some x=>
  rw [h1] at hm;simp only [zzk] at hm;obtain ⟨r',h2,h3⟩:=hm;cases h3;have aX:=A.ok (b0:=w.heap.size) (aB.part (hm:=.nil) (fun o x hx=>by rw [Tr.get_nil] at hx;cases hx)) (Au.nil g g.K (fun _ _ h=>h)) hrel h1;refine go _ (h x r h2 g.K w vs aB.K aX) (fun v w' hv=>⟨hv.1,hv.2.lift aB.size (fun b j hk=>hk)⟩) rfl
 |none=>
  rw [h1] at hm;simp only at hm;cases h2:A.get st.h args with
  |none=>rw [h2] at hm;cases hm
  |some x=>
   rw [h2] at hm;simp only at hm;cases h3:F x with
   |none=>rw [h3] at hm;cases hm
   |some r'=>
    rw [h3] at hm;simp only at hm;cases h4:r'.fresh with
    |false=>
     rw [h4] at hm;cases hm;obtain ⟨K1,eK⟩:∃ K1:Nat->Nat->Prop,(fun b j=>g.K b j\/((∃ o base,(st.h.get o).isSome=true/\g.inj o=some (b,base))/\b<w.heap.size))=K1:=⟨_,rfl⟩;have qT:∀ b j,K1 b j↔(g.K b j\/((∃ o base,(st.h.get o).isSome=true/\g.inj o=some (b,base))/\b<w.heap.size)):=fun b j=>by rw [<- eK]
     have qR:∀ b j,K1 b j->b<w.heap.size:=fun b j hk=>((qT b j).1 hk).elim (aB.K b j) (fun q=>q.2)
     have aX:=A.ok (b0:=w.heap.size) (K:=K1) aB ⟨fun b j hk=>(qT b j).2 (.inl hk),fun o cells k s e ho b base hi j hj=>by obtain ⟨b',base',h5,_,h6⟩:=aB.obj o _ ho;rw [hi] at h5;cases h5;exact (qT _ _).2 (.inr ⟨⟨o,base,by rw [ho];rfl,hi⟩,h6.lt⟩)⟩ hrel h2
     have fin:∀ (v:Value) (w':World),ta w w'/\Rel (gK w.heap.size (Pc K1 w w')) w' r v ->
      Step g st.h w st.nx st.nx { g with K:=Pc K1 w w' } .nil w'/\Ok { g with K:=Pc K1 w w' } .nil w'/\Rel { g with K:=Pc K1 w w' } w' r v:=by
      rintro v w' ⟨q,hr⟩;refine ⟨⟨⟨rfl,fun _ _ h=>h,fun b j h=>.inl ((qT b j).2 (.inl h)),fun b j hj=>th (q.heap b (aB.K b j hj)),fun b cs e fr hb=>⟨cs,fr,(q.heap b (cd hb)).trans hb,rfl⟩,fun b l hb=>⟨l,(q.heap b (cd hb)).trans hb⟩,fun b cs e fr hb _=>q.heap b (cd hb)⟩,
       q.size,q.os,q.tape,q.output,fun b hb _=>q.heap b hb,fun _ h _=>h,fun o b base ho hi=>(by rw [Tr.get_nil] at ho;cases ho),fun b j hk=>?_⟩,
       ⟨zzu aB.size q.size,fun o x hx=>(by rw [Tr.get_nil] at hx;cases hx),fun o o' x x' b base base' _ hx=>(by rw [Tr.get_nil] at hx;cases hx),fun b j hk=>?_⟩,hr.lift aB.size (fun b j hk=>hk)⟩
      ·rcases hk with hk|hk
       ·rcases (qT b j).1 hk with hk|⟨hk,_⟩
        ·exact .inl hk
        ·exact .inr (.inr hk)
       ·exact .inr (.inl hk.1)
      ·rcases hk with hk|hk
       ·exact zyd (qR b j hk) q.size
       ·exact hk.2
     rcases h x r h3 K1 w vs qR aX with ⟨v,p1,p2⟩|⟨p1,p2⟩
     ·have q:=fin v w p2;exact .inl ⟨v,w,_,p1,q.1,q.2.1,q.2.2⟩
     ·refine .inr ⟨p1,p2.mono ?_⟩;rintro e w' ⟨v,rfl,p3⟩;have q:=fin v w' p3;exact ⟨v,_,rfl,q.1,q.2.1,q.2.2⟩
    |true=>
     rw [h4] at hm;cases hm;have aX:=A.ok (b0:=w.heap.size) (K:=fun b _=>b<w.heap.size) aB ⟨fun b j hk=>aB.K b j hk,fun o cells k s e ho b base hi j hj=>by obtain ⟨b',base',h5,_,h6⟩:=aB.obj o _ ho;rw [hi] at h5;cases h5;exact h6.lt⟩ hrel h2
     refine go _ (h x r h3 (fun b _=>b<w.heap.size) w vs (fun _ _ h=>h) aX) (fun v w' hv=>⟨hv.1,hv.2.fresh h4 aB.size (fun b j hk hle=>?_)⟩) rfl;rcases hk with hk|hk
     ·omega
     ·exact .inr hk
theorem ak.nil (P:Program):ak P []:=fun f b m h=>by cases h
theorem ak.cons {P:Program} [KP P] {f:Nat} {b:Bool} {m:List AV->M AV} {T:fp} (h:∀ args,Dz P f args (m args)) (hT:ak P T):ak P ((f,b,m)::T):=by
 intro f' b' m' hf args;simp only [fp.find] at hf;by_cases e:f=f'
 ·subst e;simp only [Nat.beq_refl,cond_true,Option.some.injEq] at hf;cases hf;exact h args
 ·rw [uk e,cond_false] at hf;exact hT f' b' m' hf args
def auo (g:Gh) (st:St) (w:World):dz:={ lr g st.h w st.nx (fun _=>False) with n0:=w.heap.size }
theorem mf.ofC {g st w} (aB:Ok g st.h w) (hfr:∀ o,st.nx<=o->g.inj o=none):mf (auo g st w) g st w:=
 ⟨aB,fun o h1 _=>hfr o h1,⟨rfl,fun _o CV=>rfl,fun _ _ h=>h,fun _ _ _=>rfl,zza _,rfl,rfl,rfl,fun _ _ _=>rfl,fun o _b base ho hi=>.inr (.inr ⟨o,base,ho,hi⟩),fun _ _ h=>.inl h,
  fun _b cs _e fr h=>⟨cs,fr,h,rfl⟩,fun _b l h=>⟨l,h⟩,fun _ _ _ _ _ _=>rfl⟩,zza _⟩
theorem mf.aK4 {g st w g' st' w'} (h:mf (auo g st w) g' st' w') (hfr:∀ o,st.nx<=o->g.inj o=none):Step g st.h w st.nx st'.nx g' st'.h w':=by
 have b:=h.base;have pins:∀ o,o<st.nx->g'.inj o=g.inj o:=fun o ho=>b.pins o (.inl ho)
 refine ⟨⟨b.b0,fun o p hp=>?_,b.K,b.cell,b.ju,b.lp,b.whole⟩,b.size,b.os,b.tape,b.output,fun c hc hn=>b.frame c hc (fun hO=>?_),fun o ho hr=>?_,fun o c base ho hi=>?_,fun c j hk=>?_⟩
 ·by_cases h1:st.nx<=o
  ·rw [hfr o h1] at hp;cases hp
  ·rw [pins o zO];exact hp
 ·rcases hO with hO|⟨o,base,h1,h2⟩
  ·exact hO
  ·exact hn o base h1 h2
 ·by_cases h1:o<st.nx
  ·rw [pins o h1];exact ho
  ·exact h.fresh o zO (fun hf=>hf)
 ·rcases b.own o c base ho hi with h1|h1|h1
  ·exact .inl h1
  ·exact h1.elim
  ·exact .inr h1
 ·rcases b.o0 c j hk with h1|h1|h1|h1
  ·exact .inl h1
  ·exact .inr (.inl h1)
  ·exact h1.elim
  ·exact .inr (.inr h1)
theorem cb {P:Program} [KP P] {T:fp} (hT:ak P T) (hm:P.follows .mixedOrders=true) {f:Nat} {fn:Func} {body:Code} (hf:P.funcs[f]? = some fn) (hb:fn.body=some body) (he:qk P f=true) (hs:fq fn.ntmps body=true)
 {args:List AV} (hl:Nat.ble args.length fn.ntmps=true) {st:St} (hp:Nat.ble st.nx 1000=true) {R:AV->St->Prop}
 (h:wl P T st.nx body (di P fn.results.toList R) (cj 0 args) st):iz P f args st R:=by
 intro g w vs aB hfr hrel;refine .inr ⟨ur he _ _,yy (ro:=none) (n:=0) (callsIn_of_wp_marks hf hb trivial ?_)⟩;have bE:=mf.ofC (w:=w) aB hfr;refine wpIn_mono (ato hT hm (N:=0) (B:=auo g st w) (nt:=fn.ntmps) (fun _ h=>h) (zB hp) (zza _) body hs _ _ _ g w _ h bE (Ek hrel (zB hl)) (Marks.nil _ _ _ _)) ?_;rintro ex a w' ⟨e,L,st',g',rfl,hq,hc,hr,hd⟩;have fin:Mc (xt P L st' fn.results.toList) R st'->bodyPostM (fw none) 0 P fn (fun e w'=>∃ v g' r st',e = .returned v/\R r st'/\st.nx<=st'.nx/\Step g st.h w st.nx st'.nx g' st'.h w'/\Ok g' st'.h w'/\Rel g' w' r v) .ret a w':=by
  intro hq;show LeavesInM (fw none) 0 P fn a.tmps _ a.defers .returning w';unfold Mc at hq;cases hres:xt P L st' fn.results.toList with
  |none=>rw [hres] at hq;exact hq.elim
  |some l=>
   rw [hres] at hq;obtain ⟨bs,e1,e2,e3⟩:=hd;have e1:=e1.trans (zzn _);rw [e1];refine G4 (Good:=fun u=>Ok g' st'.h u/\Step g st.h w st.nx st'.nx g' st'.h u/\(∀ a v,Rel g' w' a v->Rel g' u a v)) (S:=fun b=>w.heap.size<=b/\ja g' st'.h b) ?_ ?_ bs w'
    ⟨hc.ok,hc.aK4 hfr,fun _ _ h=>h⟩ e2 (fun b hb=>⟨⟨(e3 b hb).1,(e3 b hb).2.2⟩,(e3 b hb).2.1⟩)
   ·rintro u b ⟨g1,g2,g3⟩ ⟨hb1,hb2⟩ hb3;have hput:=Ok.Mj (ds':=none) g1 hb3 hb2;exact ⟨hput.1,Step.aC7 (ds':=none) aB g2 hb1,fun a v h=>hput.2 a v (g3 a v h)⟩
   ·rintro u ⟨g1,g2,g3⟩;obtain ⟨us,h1,h2⟩:=ac4 (P:=P) g1 ⟨hr.1,fun t=>g3 _ _ (hr.2 t)⟩ fn.results.toList l hres;obtain ⟨v,h3,h4⟩:=abu h1 h2;exact ⟨v,h3,v,g',_,st',rfl,hq,hc.bg,g2,g1,h4⟩
 cases e with
 |normal=>exact fin hq
 |ret=>exact fin hq
 |exit id=>exact hq.elim
def oi (D:List Nat) (nx i:Nat):Nat:=match D[i]? with|some o=>o|none=>nx+(i - D.length)
def uz (D:List Nat) (nx n0 i:Nat):Option Nat:=bif Nat.blt i n0 then some (oi D nx i) else none
def lu (D:List Nat) (nx n0:Nat) (h0:Tr bk):List Nat->Tr bk->Tr bk
 | [],h=>h
 |i::r,h=>lu D nx n0 h0 r (Tr.set depth h (oi D nx i) ((h0.get i).bind (bk.cx (uz D nx n0))))
def kf (D:List Nat) (st st0:St):St:={ h:=lu D st.nx st0.nx st0.h (ff 0 st0.nx) st.h,nx:=st.nx+(st0.nx - D.length),rl:=[],wl:=[] }
theorem Eu {D:List Nat} {nx i o:Nat} (h:D[i]? = some o):oi D nx i=o:=by unfold oi;rw [h]
theorem G8 {D:List Nat} {nx i:Nat} (h:D.length<=i):oi D nx i=nx+(i - D.length):=by unfold oi;rw [zzy h]
theorem aF8 {D:List Nat} {nx:Nat} (hD:D.Nodup) (hlt:∀ o ∈ D,o<nx) {i j:Nat} (h:oi D nx i=oi D nx j):i=j:=by
 rcases zyh i D.length with hi|hi<;>rcases zyh j D.length with hj|hj
 ·rw [Eu (zh hi),Eu (zh hj)] at h;exact (List.getElem_inj hD).1 h
 ·rw [Eu (zh hi),G8 hj] at h;have:=hlt _ (zyo hi);omega
 ·rw [G8 hi,Eu (zh hj)] at h;have:=hlt _ (zyo hj);omega
 ·rw [G8 hi,G8 hj] at h;omega
theorem aIs {D:List Nat} {nx n0 i:Nat} (hlt:∀ o ∈ D,o<nx) (hi:i<n0):oi D nx i<=nx+n0:=by
 rcases zyh i D.length with h|h
 ·rw [Eu (zh h)];have:=hlt _ (zyo h);omega
 ·rw [G8 h];omega
theorem Pd {D:List Nat} {nx n0:Nat} {h0:Tr bk} {o:Nat}:∀ (l:List Nat) (h:Tr bk),(∀ i ∈ l,oi D nx i<=cz)->(∀ i ∈ l,oi D nx i≠o)->(lu D nx n0 h0 l h).get o=h.get o
 | [],h,_,_=>rfl
 |i::r,h,hl,ho=>by rw [lu,Pd r _ (fun j hj=>hl j (by simp [hj])) (fun j hj=>ho j (by simp [hj])),gp _ _ _ _ (hl i (by simp)),if_neg (fun e=>ho i (by simp) e.symm)]
theorem afw {D:List Nat} {nx n0:Nat} {h0:Tr bk} (aO:∀ i j,oi D nx i=oi D nx j->i=j) {i:Nat}:∀ (l:List Nat) (h:Tr bk),(∀ j ∈ l,oi D nx j<=cz)->i ∈ l->(lu D nx n0 h0 l h).get (oi D nx i)=(h0.get i).bind (bk.cx (uz D nx n0))
 | [],_,_,hi=>by cases hi
 |j::r,h,hl,hi=>by
  rw [lu];by_cases hr:i ∈ r
  ·exact afw aO r _ (fun k hk=>hl k (by simp [hk])) hr
  ·have cJ:i=j:=by rcases zyb.1 hi with e|e;exact e;exact (hr e).elim
   subst cJ;rw [Pd r _ (fun k hk=>hl k (by simp [hk])) (fun k hk e=>hr (aO k i e ▸ hk)),gp _ _ _ _ (hl i (by simp)),if_pos rfl]
theorem aAz {n i:Nat} (h:i<n):i ∈ ff 0 n:=(qe n 0 i).2 ⟨zzb _,zO⟩
theorem Xw {n i:Nat} (h:i ∈ ff 0 n):i<n:=by have:=((qe n 0 i).1 h).2;omega
theorem aht:∀ (l:List Nat) (o i:Nat),idx l o i=none->o ∉ l
 | [],o,i,_=>by simp
 |a::l,o,i,h=>by
  rw [Pk] at h
  split at h
  ·cases h
  ·rename_i ne;have:=aht l o (i+1) h;simp only [zyb,not_or];exact ⟨fun e=>ne e.symm,this⟩
theorem ajp {D:List Nat} {g gQ:Gh} {st aS:St} {h0:Tr bk} {w w':World} {r:AV} {v:Value} (hD:D.Nodup) (hlt:∀ o ∈ D,o<st.nx) (hp:∀ o ∈ D,(st.h.get o).isSome=true)
 (aB:Ok g st.h w) (hfr:∀ o,st.nx<=o->g.inj o=none) (hk:D.length<=aS.nx) (hb:st.nx+aS.nx<=cz)
 (s0:Step (g.cx D) h0 w D.length aS.nx gQ aS.h w') (rU:Ok gQ aS.h w') (hr:Rel gQ w' r v) :
 ∃ g',st.nx<=(kf D st aS).nx/\Step g st.h w st.nx (kf D st aS).nx g' (kf D st aS).h w'/\Ok g' (kf D st aS).h w'/\Rel g' w' (r.cx (uz D st.nx aS.nx)) v:=by
 obtain ⟨n0,aL⟩:∃ n0,n0=aS.nx:=⟨_,rfl⟩;have aO:=fun i j=>aF8 (nx:=st.nx) hD hlt (i:=i) (j:=j)
 have oB:∀ i ∈ ff 0 aS.nx,oi D st.nx i<=cz:=fun i hi=>zzu (aIs hlt (Xw hi)) hb
 have hin:∀ i,i<aS.nx->(kf D st aS).h.get (oi D st.nx i)=(aS.h.get i).bind (bk.cx (uz D st.nx aS.nx)):=fun i hi=>afw aO _ _ oB (aAz hi)
 have hout:∀ o,(∀ i,i<aS.nx->oi D st.nx i≠o)->(kf D st aS).h.get o=st.h.get o:=fun o ho=>Pd _ _ oB (fun i hi=>ho i (Xw hi))
 have lK:∀ i,(g.cx D).inj i=(D[i]?).bind g.inj:=fun _=>rfl
 have hold:∀ i b base,(g.cx D).inj i=some (b,base)->∃ o ∈ D,g.inj o=some (b,base)/\(st.h.get o).isSome=true:=fun i b base hi=>by
  rw [lK] at hi;cases hd:D[i]? with
  |none=>rw [hd] at hi;cases hi
  |some o=>rw [hd] at hi;exact ⟨o,zm hd,hi,hp o (zm hd)⟩
 have hno:∀ i,aS.nx<=i->gQ.inj i=none:=fun i hi=>s0.fresh i (by rw [lK,zzy zO];rfl) zO
 let g':Gh:={ b0:=g.b0,inj:=fun o=>if o<st.nx then g.inj o else gQ.inj (D.length+(o - st.nx)),K:=gQ.K }
 have gl:∀ o,o<st.nx->g'.inj o=g.inj o:=fun o ho=>if_pos ho
 have gg:∀ o,st.nx<=o->g'.inj o=gQ.inj (D.length+(o - st.nx)):=fun o ho=>if_neg zO
 have F1:∀ i,g'.inj (oi D st.nx i)=gQ.inj i:=fun i=>by
  rcases zyh i D.length with hi|hi
  ·have hd:=zh hi;rw [Eu hd,gl _ (hlt _ (zyo hi))];have h1:(g.cx D).inj i=g.inj D[i]:=by rw [lK,hd];rfl
   cases hg:g.inj D[i] with
   |some p=>exact (s0.ext.inj i p (h1.trans hg)).symm
   |none=>exact (s0.fresh i (h1.trans hg) zO).symm
  ·rw [G8 hi,gg _ zO]
   congr 1;omega
 let N:List Nat:=(List.range (st.nx+aS.nx)).map fun o=>if o<st.nx then (idx D o 0).getD aS.nx else D.length+(o - st.nx)
 have uQ:∀ p,p<st.nx+aS.nx->N[p]? = some (if p<st.nx then (idx D p 0).getD aS.nx else D.length+(p - st.nx)):=fun p hp=>by simp only [N,zzj,zyk hp,Option.map_some]
 have tM:∀ i o,D[i]? = some o->idx D o 0=some i:=fun i o hi=>by
  cases hx:idx D o 0 with
  |some p=>
   have h1:=I4 D o p hx;obtain ⟨hi',ei⟩:=zg.1 hi;obtain ⟨hp',ep⟩:=zg.1 h1;rw [(List.getElem_inj hD).1 (ei.trans ep.symm)]
  |none=>exact absurd (zm hi) (aht D o 0 hx)
 have hτ:∀ o p,uz D st.nx aS.nx o=some p->N[p]? = some o:=fun i p h=>by
  unfold uz at h;cases hlt2:Nat.blt i aS.nx with
  |false=>rw [hlt2] at h;cases h
  |true=>
   rw [hlt2] at h;cases h;have hi:i<aS.nx:=zB hlt2;rcases zyh i D.length with bG|bG
   ·have hd:=zh bG;rw [Eu hd,uQ _ (by have:=hlt _ (zyo bG);omega),if_pos (hlt _ (zyo bG)),tM i _ hd];rfl
   ·rw [G8 bG,uQ _ zO,if_neg zO]
    congr 1;omega
 have aI:Ext (gQ.cx N) w' g' w':=by
  refine ⟨s0.ext.b0.symm,fun p q hq=>?_,fun _ _ h=>h,fun _ _ _=>rfl,fun b cs e fr h=>⟨cs,fr,h,rfl⟩,fun b l h=>⟨l,h⟩,fun _ _ _ _ _ _=>rfl⟩;have hq':(N[p]?).bind gQ.inj=some q:=hq;rcases zyh p (st.nx+aS.nx) with hpl|hpl
  ·rw [uQ p hpl,Option.bind_some] at hq';by_cases vX:p<st.nx
   ·rw [if_pos vX] at hq';cases hx:idx D p 0 with
    |none=>rw [hx,Option.getD_none,hno _ (zza _)] at hq';cases hq'
    |some i=>
     rw [hx,Option.getD_some] at hq';rw [<- Eu (nx:=st.nx) (I4 D p i hx),F1];exact hq'
   ·rw [if_neg vX] at hq';rw [gg p zO];exact hq'
  ·have:N[p]? = none:=zzy (by simp only [N,zzo,List.length_range];exact hpl);rw [this] at hq';cases hq'
 have jV:∀ o,(∃ i,i<aS.nx/\oi D st.nx i=o)\/(∀ i,i<aS.nx->oi D st.nx i≠o):=fun o=>by
  by_cases h:∃ i,i<aS.nx/\oi D st.nx i=o
  ·exact .inl h
  ·exact .inr fun i hi e=>h ⟨i,hi,e⟩
 have fk:∀ i x,i<aS.nx->(kf D st aS).h.get (oi D st.nx i)=some x->∃ y,aS.h.get i=some y/\y.cx (uz D st.nx aS.nx)=some x:=fun i x hi hx=>by
  rw [hin i hi] at hx;cases hy:aS.h.get i with
  |none=>rw [hy] at hx;cases hx
  |some y=>rw [hy] at hx;exact ⟨y,rfl,hx⟩
 have gP:∀ o b base,(∀ i,i<aS.nx->oi D st.nx i≠o)->g'.inj o=some (b,base)->o<st.nx/\o ∉ D/\g.inj o=some (b,base):=fun o b base ho hi=>by
  rcases zyh o st.nx with h1|h1
  ·refine ⟨h1,fun hd=>?_,by rw [<- gl o h1];exact hi⟩;obtain ⟨i,cA,e⟩:=List.getElem_of_mem hd;exact ho i zO (by rw [Eu (zh cA)];exact e)
  ·rw [gg o h1] at hi;rcases zyh (D.length+(o - st.nx)) aS.nx with h2|h2
   ·exact (ho _ h2 (by rw [G8 zO];omega)).elim
   ·rw [hno _ h2] at hi;cases hi
 have iD:∀ o x b base,o ∉ D->st.h.get o=some x->g.inj o=some (b,base)->b<w.heap.size->w'.heap[b]? = w.heap[b]? /\ (∀ i base',gQ.inj i=some (b,base')->(aS.h.get i).isSome=true->False)/\(∀ j,gQ.K b j->g.K b j):=fun o x b base ho hx hi bI=>by
  have lX:∀ i base',(g.cx D).inj i≠some (b,base'):=fun i base' e=>by obtain ⟨o2,hd,bG,hs2⟩:=hold i b base' e;obtain ⟨x2,hx2⟩:=zzv.1 hs2;exact aB.sep o o2 x x2 b base base' (fun e=>ho (e ▸ hd)) hx hx2 hi bG
  refine ⟨s0.frame b bI fun i base' _=>lX i base',fun i base' e hs=>?_,fun j hj=>?_⟩
  ·rcases s0.own i b base' hs e with h1|⟨o',aJ,_,h2⟩
   ·omega
   ·exact lX o' aJ h2
  ·rcases s0.o0 b j hj with h1|h1|⟨o',aJ,_,h2⟩
   ·exact h1
   ·omega
   ·exact (lX o' aJ h2).elim
 have hblk:∀ o x b base,st.h.get o=some x->g.inj o=some (b,base)->oy g w b base x:=fun o x b base hx hi=>by
  rcases aB.px o x hx with ⟨h1,_⟩|⟨b',base',h1,_,h2⟩
  ·rw [h1] at hi;cases hi
  ·rw [h1] at hi;cases hi;exact h2
 have hsz:∀ b base x,oy g w b base x->b<w.heap.size:=fun b base x hx=>by
  have hs:∃ q,w.heap[b]? = some q:=by
   cases x with
   |row cells k st et=>obtain ⟨cs,fr,h1,_⟩:=hx;exact ⟨_,h1⟩
   |map es=>obtain ⟨_,ms,clock,h1,_⟩:=hx;exact ⟨_,h1⟩
   |loop slots nt params assign body state pending=>obtain ⟨_,l,h1,_⟩:=hx;exact ⟨_,h1⟩
  obtain ⟨q,hq⟩:=hs;exact (zz1.1 hq).1
 have hE:Ext g w g' w':=by
  refine ⟨rfl,fun o p hp=>?_,fun b j h=>s0.ext.K b j h,fun b j h=>s0.ext.cell b j h,s0.ext.ju,s0.ext.lp,s0.ext.whole⟩;rcases zyh o st.nx with h1|h1
  ·rw [gl o h1];exact hp
  ·rw [hfr o h1] at hp;cases hp
 refine ⟨g',Nat.le_add_right _ _,⟨hE,s0.size,s0.os,s0.tape,s0.output,fun b bI hn=>?_,fun o ho hr2=>?_,fun o b base ho hi=>?_,fun b j hK=>?_⟩,⟨?_,fun o x hx=>?_,fun o o' x x' b base base' hne hx hx' hi hi'=>?_,rU.K⟩,(hr.cx hτ).ext aI⟩
 ·refine s0.frame b bI fun i base _ e=>?_
  obtain ⟨o,_,h1,h2⟩:=hold i b base e;exact hn o base h2 h1
 ·rcases zyh o st.nx with h1|h1
  ·rw [gl o h1];exact ho
  ·rw [gg o h1];exact hno _ (by simp only [kf] at hr2;omega)
 ·rcases jV o with ⟨i,fX,rfl⟩|ho2
  ·obtain ⟨x,hx⟩:=zzv.1 ho;obtain ⟨y,hy,_⟩:=fk i x fX hx;rw [F1] at hi;rcases s0.own i b base (by rw [hy];rfl) hi with h1|⟨o',base',_,h2⟩
   ·exact .inl h1
   ·obtain ⟨o2,_,h3,h4⟩:=hold o' b base' h2;exact .inr ⟨o2,base',h4,h3⟩
  ·obtain ⟨_,_,h3⟩:=gP o b base ho2 hi;rw [hout o ho2] at ho;exact .inr ⟨o,base,ho,h3⟩
 ·rcases s0.o0 b j hK with h1|h1|⟨o',base',_,h2⟩
  ·exact .inl h1
  ·exact .inr (.inl h1)
  ·obtain ⟨o2,_,h3,h4⟩:=hold o' b base' h2;exact .inr (.inr ⟨o2,base',h4,h3⟩)
 ·exact zzu aB.size s0.size
 ·rcases jV o with ⟨i,fX,rfl⟩|ho2
  ·obtain ⟨y,hy,rV⟩:=fk i x fX hx;refine (rU.px i y hy).imp (fun q=>⟨by rw [F1];exact q.1,by obtain ⟨s1,e1,rfl⟩:=q.2;simp only [bk.cx,AV.cx.go,Option.some.injEq] at rV;exact ⟨s1,e1,rV.symm⟩⟩) ?_;rintro ⟨b,base,q1,q2,q3⟩;refine ⟨b,base,by rw [F1];exact q1,by show g.b0<=b;have:=s0.ext.b0;have e:gQ.b0=g.b0:=this;omega,(q3.cx hτ rV).ext aI rfl (fun j hj=>hj)⟩
  ·rw [hout o ho2] at hx;cases hg:g'.inj o with
   |none=>
    refine .inl ⟨rfl,?_⟩;rcases zyh o st.nx with h1|h1
    ·rw [gl o h1] at hg;rcases aB.px o x hx with ⟨_,h2⟩|⟨b,base,h2,_⟩
     ·exact h2
     ·rw [hg] at h2;cases h2
    ·rcases aB.px o x hx with ⟨_,h2⟩|⟨b,base,h2,_⟩
     ·exact h2
     ·rw [hfr o h1] at h2;cases h2
   |some p=>
    obtain ⟨b,base⟩:=p;obtain ⟨h1,h2,h3⟩:=gP o b base ho2 hg;have vY:=hblk o x b base hx h3;obtain ⟨e1,_,e3⟩:=iD o x b base h2 hx h3 (hsz b base x vY);refine .inr ⟨b,base,rfl,?_,vY.ext hE e1 e3⟩;rcases aB.px o x hx with ⟨h4,_⟩|⟨b',base',h4,h5,_⟩
    ·rw [h4] at h3;cases h3
    ·rw [h4] at h3;cases h3;exact h5
 ·rcases jV o with ⟨i,fX,rfl⟩|ho2<;>rcases jV o' with ⟨i',pP,rfl⟩|jS
  ·obtain ⟨y,hy,_⟩:=fk i x fX hx;obtain ⟨y',hy',_⟩:=fk i' x' pP hx';rw [F1] at hi hi';exact rU.sep i i' y y' b base base' (fun e=>hne (by rw [e])) hy hy' hi hi'
  ·obtain ⟨y,hy,_⟩:=fk i x fX hx;obtain ⟨h1,h2,h3⟩:=gP o' b base' jS hi';rw [hout o' jS] at hx';rw [F1] at hi;exact (iD o' x' b base' h2 hx' h3 (hsz b base' x' (hblk o' x' b base' hx' h3))).2.1 i base hi (by rw [hy];rfl)
  ·obtain ⟨y,hy,_⟩:=fk i' x' pP hx';obtain ⟨h1,h2,h3⟩:=gP o b base ho2 hi;rw [hout o ho2] at hx;rw [F1] at hi';exact (iD o x b base h2 hx h3 (hsz b base x (hblk o x b base hx h3))).2.1 i' base' hi' (by rw [hy];rfl)
  ·obtain ⟨h1,h2,h3⟩:=gP o b base ho2 hi;obtain ⟨h1',h2',jZ⟩:=gP o' b base' jS hi';rw [hout o ho2] at hx;rw [hout o' jS] at hx';exact aB.sep o o' x x' b base base' hne hx hx' h3 jZ
theorem akl {P:Program} [KP P] {f:Nat} {args:List AV} {st:St} {R:AV->St->Prop} (D:List Nat) (hD:D.Nodup) (hlt:∀ o ∈ D,o<st.nx) (hp:∀ o ∈ D,(st.h.get o).isSome=true) (hl:D.length<=cz)
 (h:iz P f (AV.cx.go (fun o=>idx D o 0) args) (ay (ky st.h (fun o=>idx D o 0) D)) (fun r st'=>(D.length<=st'.nx/\st.nx+st'.nx<=cz)/\R (r.cx (uz D st.nx st'.nx)) (kf D st st'))):iz P f args st R:=by
 intro g w vs aB hfr hrel;have hτ:∀ o p,(fun o=>idx D o 0) o=some p->D[p]? = some o:=fun o p h=>I4 _ o p h
 have bN:(ay (ky st.h (fun o=>idx D o 0) D)).nx=D.length:=by simp only [ay,kb]
 have aO:∀ i o,D[i]? = some o->(g.cx D).inj i=g.inj o:=fun i o h=>by simp [Gh.cx,h]
 have fk:∀ i x,(ay (ky st.h (fun o=>idx D o 0) D)).h.get i=some x->∃ o y,D[i]? = some o/\st.h.get o=some y/\y.cx (fun o=>idx D o 0)=some x:=by
  intro i x hx;simp only [ay] at hx;rw [wo _ _ _ (by rw [kb];omega),if_pos (zzb _),Nat.sub_zero,yj] at hx;cases hi:D[i]? with
  |none=>rw [hi] at hx;cases hx
  |some o=>
   rw [hi] at hx;simp only [Option.map_some,Option.join_some] at hx;cases hy:st.h.get o with
   |none=>rw [hy] at hx;cases hx
   |some y=>rw [hy] at hx;exact ⟨o,y,rfl,hy,hx⟩
 have lU:Ok (g.cx D) (ay (ky st.h (fun o=>idx D o 0) D)).h w:=by
  refine ⟨aB.size,fun i x hx=>?_,fun i j x y b base base' cJ hx hy hb hb'=>?_,aB.K⟩
  ·obtain ⟨o,y,h1,h2,h3⟩:=fk i x hx;refine (aB.px o y h2).imp (fun q=>⟨by rw [aO i o h1];exact q.1,by obtain ⟨s0,e0,rfl⟩:=q.2;simp only [bk.cx,AV.cx.go,Option.some.injEq] at h3;exact ⟨s0,e0,h3.symm⟩⟩) ?_;rintro ⟨b,base,q1,q2,q3⟩;exact ⟨b,base,by rw [aO i o h1];exact q1,q2,q3.cx hτ h3⟩
  ·obtain ⟨o,y1,h1,h2,_⟩:=fk i x hx;obtain ⟨o',y2,h1',h2',_⟩:=fk j y hy;rw [aO i o h1] at hb;rw [aO j o' h1'] at hb';have hne:o≠o':=by
    intro e;subst e;obtain ⟨hi,ei⟩:=zg.1 h1;obtain ⟨hj,ej⟩:=zg.1 h1';exact cJ ((List.getElem_inj hD).1 (ei.trans ej.symm))
   exact aB.sep o o' _ _ b base base' hne h2 h2' hb hb'
 have hfr0:∀ o,(ay (ky st.h (fun o=>idx D o 0) D)).nx<=o->(g.cx D).inj o=none:=fun o ho=>by rw [bN] at ho;simp [Gh.cx,zzy ho]
 have oO:bz (g.cx D) w (AV.cx.go (fun o=>idx D o 0) args) vs:=by
  rw [kr];refine ⟨by rw [zzo];exact hrel.1,fun i a v ha hv=>?_⟩;rw [zzj] at ha;cases hx:args[i]? with
  |none=>rw [hx] at ha;cases ha
  |some a0=>rw [hx] at ha;cases ha;exact (hrel.2 i a0 v hx hv).cx hτ
 rcases h (g.cx D) w vs lU hfr0 oO with ⟨v,w',g',r,st',q1,q2,q3,q4,q5,q6⟩|⟨q1,q2⟩
 ·rw [bN] at q4;obtain ⟨g'',p1,p2,p3,p4⟩:=ajp hD hlt hp aB hfr q2.1.1 q2.1.2 q4 q5 q6;exact .inl ⟨v,w',g'',_,_,q1,q2.2,p1,p2,p3,p4⟩
 ·refine .inr ⟨q1,q2.mono ?_⟩;rintro e w' ⟨v,g',r,st',rfl,q2,q3,q4,q5,q6⟩;rw [bN] at q4;obtain ⟨g'',p1,p2,p3,p4⟩:=ajp hD hlt hp aB hfr q2.1.1 q2.1.2 q4 q5 q6;exact ⟨v,g'',_,_,rfl,q2.2,p1,p2,p3,p4⟩
theorem n6 {P:Program} [KP P] {f:Nat} {args:List AV} {st:St} {R:AV->St->Prop} (D:List Nat) {kY:List AV} {kB:List (Option bk)} {r0:AV} {eD:List (Option bk)}
 (hc:iz P f kY (ay kB) (fun r st'=>r=r0/\st'=ay eD)) (hD:D.Nodup)
 (hlt:(D.all fun o=>Nat.blt o st.nx)=true) (hp:(D.all fun o=>(st.h.get o).isSome)=true) (hl:D.length<=cz)
 (ha:AV.cx.go (fun o=>idx D o 0) args=kY) (hs:ky st.h (fun o=>idx D o 0) D=kB) (hb:D.length<=eD.length/\st.nx+eD.length<=cz)
 (h:R (r0.cx (uz D st.nx eD.length)) (kf D st (ay eD))):iz P f args st R:=by
 refine akl D hD (fun o ho=>zB (zz9.1 hlt o ho)) (fun o ho=>zz9.1 hp o ho) hl ?_;rw [ha,hs];intro g w vs aB hfr hrel;rcases hc g w vs aB hfr hrel with ⟨v,w',g',r,st',q1,⟨rfl,rfl⟩,q3⟩|⟨q1,q2⟩
 ·exact .inl ⟨v,w',g',_,_,q1,⟨hb,h⟩,q3⟩
 ·refine .inr ⟨q1,q2.mono ?_⟩;rintro e w' ⟨v,g',r,st',e1,⟨rfl,rfl⟩,q3⟩;exact ⟨v,g',_,_,e1,⟨hb,h⟩,q3⟩
end
variable [TK]
noncomputable section
section code
variable (P : Program) (T : fp) (bg : Nat) (Q : QL) (L : SL) (st : St)
theorem ar6:wl P T bg .skip Q L st=Q .normal L st:=id rfl
theorem adr (i ops d):wl P T bg (.region i ops d) Q L st=I1 P T ops d (Q .normal) L st:=id rfl
theorem ay7 (a b):wl P T bg (.seq a b) Q L st=wl P T bg a (Ma (wl P T bg b) Q) L st:=id rfl
theorem arx (c a b):wl P T bg (.cond c a b) Q L st=Ao (eu L c) (wl P T bg a Q) (wl P T bg b Q) L st:=id rfl
theorem ake (i b):wl P T bg (.block i b) Q L st=wl P T bg b (Ob i Q) L st:=id rfl
theorem ar2 (b):wl P T bg (.loop b) Q L st=xn bg (wl P T bg b) Q L st:=id rfl
theorem arn (i):wl P T bg (.exit i) Q L st=Q (.exit i) L st:=id rfl
theorem azi:wl P T bg .ret Q L st=Q .ret L st:=id rfl
theorem aw0 (W):Ma W Q .normal L st=W Q L st:=id rfl
theorem az5 (W i):Ma W Q (.exit i) L st=Q (.exit i) L st:=id rfl
theorem azg (W):Ma W Q .ret L st=Q .ret L st:=id rfl
theorem awt (i):Ob i Q .normal L st=Q .normal L st:=id rfl
theorem awm (i):Ob i Q .ret L st=Q .ret L st:=id rfl
theorem axp (i j):Ob i Q (.exit j) L st=bif Nat.beq j i then Q .normal L st else Q (.exit j) L st:=id rfl
theorem aqu (keep X):ou bg keep X Q .normal L st=X (dq bg keep L st) (gk bg keep L st):=id rfl
theorem aqn (keep X i):ou bg keep X Q (.exit i) L st=Q (.exit i) L st:=id rfl
theorem aq1 (keep X):ou bg keep X Q .ret L st=Q .ret L st:=id rfl
theorem azy (rs R):di P rs R .normal L st=Mc (xt P L st rs) R st:=id rfl
theorem awg (rs R):di P rs R .ret L st=Mc (xt P L st rs) R st:=id rfl
theorem aev (ops K):I1 P T ops false K L st=opsL P T ops ops.toList K L st:=id rfl
theorem am9 (ops K):opsL P T ops [] K L st=K L st:=id rfl
theorem adz (ops o r K):opsL P T ops (o::r) K L st=Cu ops o.guard (Pf P T o (opsL P T ops r K)) (Mw o.dst (opsL P T ops r K)) L st:=id rfl
theorem ahp (ops K recs):Jx P T ops [] K recs L st=(eh (Region.before ops) 0 recs=true/\K L st):=id rfl
theorem afc (ops o r K recs):Jx P T ops (o::r) K recs L st=Cu ops o.guard (iy P T o recs (Jx P T ops r K)) (Mw o.dst (Jx P T ops r K (recs++[⟨[],[]⟩]))) L st:=id rfl
theorem aaj (ops X Y):Cu ops none X Y L st=X L st:=id rfl
theorem Zj (ops j c X Y):Cu ops (some (j,c)) X Y L st=J7 (lk L (yr ops j)) c X Y L st:=id rfl
theorem alo (b:Bool) (X Y:SL->St->Prop):J7 (.sc (.bool b)) true X Y L st=Ao (.sc (.bool b)) X Y L st:=by cases b<;>simp [J7,Dx,G1,K7,Ao,u9,AV.bool,AV.exact,ti]
theorem alu (b:Bool) (X Y:SL->St->Prop):J7 (.sc (.bool b)) false X Y L st=Ao (.sc (.bool b)) Y X L st:=by cases b<;>simp [J7,Dx,G1,K7,Ao,u9,AV.bool,AV.exact,ti]
theorem amv (c:Bool) (X Y:SL->St->Prop):J7 (.sc undef) c X Y L st=Y L st:=by simp [J7,Dx,G1,K7,AV.exact,undef]
theorem apz (o K):Pf P T o K L st=En (il P T o (eu L) st) P o L st K:=id rfl
theorem ah2 (v o K st'):En (some (v,st')) P o L st K=K (l8 o.dst v L) st':=id rfl
theorem anf (K d r):dm K d L r st=K (l8 d r L) st:=id rfl
theorem ajj (ro F o recs K v fg):Jl ro F o recs K L st (some (v,fg))=((K8 st.nx F=true/\Nat.ble fg.nx cz=true)/\same (vr st.h F) fg.h (bif ro then F else []) /\
 K (recs++[⟨F,(bif ro then [] else F)++ff st.nx (fg.nx - st.nx)⟩]) (l8 o.dst v L) { h:=zz fg.h (F++ff st.nx (fg.nx - st.nx)) st.h,nx:=fg.nx,rl:=[],wl:=[] }):=id rfl
theorem afv (d K):Mw d K L st=K (l8 d (.sc undef) L) st:=id rfl
theorem dv (b X Y):Ao (.sc (.bool b)) X Y L st=((b=true->X L st)/\(b=false->Y L st)):=id rfl
theorem Mu (X Y):Ao (.sc (.bool true)) X Y L st=X L st:=by simp [Ao,u9,AV.bool,AV.exact,ti]
theorem Nw (X Y):Ao (.sc (.bool false)) X Y L st=Y L st:=by simp [Ao,u9,AV.bool,AV.exact,ti]
theorem adj (v d K):Nv (some (v,st)) d L K=K (l8 d v L) st:=id rfl
theorem afa (d v):l8 (some d) v L=(d,v)::L:=id rfl
theorem aec (v):l8 none v L=L:=id rfl
theorem axb (l R):Mc (some l) R st=R (pack l) st:=id rfl
theorem ayt (d v):lk ((d,v)::L) d=v:=by simp [lk]
theorem ara (d t v) (h:(d == t)=false):lk ((d,v)::L) t=lk L t:=by
 have e:d≠t:=by simpa using h
 rw [pq,if_neg e]
theorem aEq (t):eu L (.tmp t)=lk L t:=id rfl
theorem aEh (v):eu L (.const v) = .sc v:=id rfl
theorem aEb (f):eu L (.func f) = .sc (.func (.func f) #[] #[]):=id rfl
theorem axo:xt P L st []=some []:=id rfl
theorem ay2 (t r):xt P L st (.tmp t::r)=(xt P L st r).map (lk L t :: ·):=id rfl
theorem awe (a t r):xt P L st (.cell a t::r)=match wx P t (lk L a) st with|some (v,_)=>(xt P L st r).map (v :: ·)|none=>none:=id rfl
end code
section ops
variable (P : Program) (T : fp) (ρ : Operand -> AV) (d : Option Tmp) (ty : TypeId) (pos : String) (af : Array Edge) (gd : Option (Nat × Bool))
theorem Ot (x):il P T ⟨d,.move x,ty,pos,af,gd⟩ ρ=mono (M.pure (ρ x)):=id rfl
theorem Jv (x):il P T ⟨d,.assign x,ty,pos,af,gd⟩ ρ=mono (M.pure (ρ x)):=id rfl
theorem Od (t a):il P T ⟨d,.load t a,ty,pos,af,gd⟩ ρ=mono (wx P t (ρ a)):=id rfl
theorem Ds (s x f):il P T ⟨d,.fieldAddr s x f,ty,pos,af,gd⟩ ρ=mono (xf P s (ρ x) f):=id rfl
theorem Vs (op t x y u):il P T ⟨d,.binOp op t x y u,ty,pos,af,gd⟩ ρ=mono (On P ρ ⟨d,.binOp op t x y u,ty,pos,af,gd⟩ op t x y):=id rfl
theorem Oo (c a b):il P T ⟨d,.pick c a b,ty,pos,af,gd⟩ ρ=mono (Jj (ρ c) (ρ a) (ρ b)):=id rfl
theorem Mh (t a x):il P T ⟨d,.store t a x,ty,pos,af,gd⟩ ρ=mono (Bt P t (ρ a) (ρ x)):=id rfl
theorem P9 (t i):il P T ⟨d,.extract t i,ty,pos,af,gd⟩ ρ=mono (Dh (ρ t) i):=id rfl
theorem Ei (t x i):il P T ⟨d,.indexAddr t x i,ty,pos,af,gd⟩ ρ=mono (xg P t (ρ x) (ρ i)):=id rfl
theorem F3 (x):il P T ⟨d,.nilCheck x,ty,pos,af,gd⟩ ρ=mono (uo (ρ x)):=id rfl
theorem V9 (t):il P T ⟨d,.alloc t,ty,pos,af,gd⟩ ρ=mono (Gn P t):=id rfl
theorem af7 (t x):il P T ⟨d,.box t x,ty,pos,af,gd⟩ ρ=mono (Pg t (ρ x)):=id rfl
theorem Mk (t ps):il P T ⟨d,.build t ps,ty,pos,af,gd⟩ ρ=mono (C7 P t (ps.toList.map fun p=>(p.1,ρ p.2))):=id rfl
theorem Cm (t n ps):il P T ⟨d,.buildSlice t n ps,ty,pos,af,gd⟩ ρ=mono (tg P t n (ps.toList.map fun p=>(p.1,ρ p.2))):=id rfl
theorem Ll (t l c):il P T ⟨d,.makeSlice t l c,ty,pos,af,gd⟩ ρ=mono (qx P t (ρ l) (ρ c)):=id rfl
theorem Qn (t r):il P T ⟨d,.makeMap t r,ty,pos,af,gd⟩ ρ=mono (Lk r):=id rfl
theorem N2 (f a b):il P T ⟨d,.makeFunc f a b,ty,pos,af,gd⟩ ρ=mono (M.pure (.fn f (a.toList.map ρ) (b.toList.map ρ))):=id rfl
theorem H0 (s u x):il P T ⟨d,.convert s u x,ty,pos,af,gd⟩ ρ=mono (A4 P ρ ⟨d,.convert s u x,ty,pos,af,gd⟩ s u (ρ x)):=id rfl
theorem Wr (s x f):il P T ⟨d,.field s x f,ty,pos,af,gd⟩ ρ=mono (Jb P s (ρ x) f):=id rfl
theorem Vf (t x i):il P T ⟨d,.index t x i,ty,pos,af,gd⟩ ρ=mono (Fb P ρ ⟨d,.index t x i,ty,pos,af,gd⟩ t x i):=id rfl
theorem V4 (t x l h m):il P T ⟨d,.slice t x l h m,ty,pos,af,gd⟩ ρ=mono (F4 P ρ ⟨d,.slice t x l h m,ty,pos,af,gd⟩ t x l h m):=id rfl
theorem Rr (t x i ok):il P T ⟨d,.lookup t x i ok,ty,pos,af,gd⟩ ρ=mono (Fy P t (ρ x) (ρ i) ok):=id rfl
theorem Ld (t m k x):il P T ⟨d,.mapUpdate t m k x,ty,pos,af,gd⟩ ρ=mono (Gf P t (ρ m) (ρ k) (ρ x)):=id rfl
theorem Qw (x ts):il P T ⟨d,.call { callee:=.builtin .len,args:=#[x],argTypes:=ts },ty,pos,af,gd⟩ ρ=mono (Ar ((ts[0]?).bind P.underlying) (ρ x)):=id rfl
theorem Jo (s x ts):il P T ⟨d,.call { callee:=.builtin .append,args:=#[s,x],argTypes:=ts },ty,pos,af,gd⟩ ρ=mono (vi P ts[0]? ((ts[1]?).bind P.underlying) (ρ s) (ρ x)):=id rfl
theorem Yz (s x ts):il P T ⟨d,.call { callee:=.builtin .copy,args:=#[s,x],argTypes:=ts },ty,pos,af,gd⟩ ρ=mono (M6 P ts[0]? (ρ s) (ρ x)):=id rfl
theorem aae (f args ts):il P T ⟨d,.call { callee:=.value f,args,argTypes:=ts },ty,pos,af,gd⟩ ρ=Bs T (ρ f) (args.toList.map ρ):=id rfl
end ops
section monad
variable {α β : Type} (s : St)
theorem aEr (m:M α):mono m s=match m s with|none=>none|some (a,s')=>bif decide (s.nx<=s'.nx) then some (a,s') else none:=by
 have:∀ a b,Nat.ble a b=decide (a<=b):=fun a b=>by rw [zyc];simp
 unfold mono;cases m s with
 |none=>rfl
 |some p=>simp only [this]
theorem aEn (m:M α) (f : α->M β):(m.bind f) s=match m s with|none=>none|some (a,s')=>f a s':=id rfl
theorem aD8 (a : α):(M.pure a) s=some (a,s):=id rfl
theorem aDv:(M.fail:M α) s=none:=id rfl
theorem aDr (a : α):(M.of (some a)) s=some (a,s):=id rfl
theorem aDs (b:Bool) (m m':M α):(bif b then m else m') s=bif b then m s else m' s:=by cases b<;>rfl
theorem aEs (o:Nat):fk o s=match s.h.get o with|some x=>some (x,{ s with rl:=o::s.rl })|none=>none:=id rfl
theorem aDz (x:bk):lq x s=bif decide (s.nx<=cz) then some (s.nx,{ s with h:=s.h.set depth s.nx (some x),nx:=s.nx+1,wl:=s.nx::s.wl }) else none:=by
 have:Nat.ble s.nx cz=decide (s.nx<=cz):=by rw [zyc];simp
 unfold lq;rw [this]
theorem aEe (o:Nat) (x:bk):ki o x s=match s.h.get o with|some _=>bif decide (o<=cz) then some ((),{ s with h:=s.h.set depth o (some x),wl:=o::s.wl }) else none|none=>none:=by
 have:Nat.ble o cz=decide (o<=cz):=by rw [zyc];simp
 unfold ki;rw [this];rfl
theorem aEf (o:Nat):Oi o s=match s.h.get o with|some _=>bif decide (o<=cz) then some ((),{ s with h:=s.h.set depth o none,wl:=o::s.wl }) else none|none=>none:=by
 have:Nat.ble o cz=decide (o<=cz):=by rw [zyc];simp
 unfold Oi;rw [this];rfl
theorem ajr (t:Tr bk) (n m:Nat) (x:Option bk) (h:n<=16777214):(Tr.set depth t n x).get m=if m=n then x else t.get m:=gp t n m x h
theorem am7 (n:Nat):(Tr.nil:Tr bk).get n=none:=id rfl
theorem aAv (a b:Nat):Nat.ble a b=decide (a<=b):=by rw [zyc];simp
theorem aIe (a b:Nat):Nat.blt a b=decide (a<b):=by rw [zyc];simp
theorem asr (a b:Nat):Nat.beq a b=decide (a=b):=by rw [zyc];simp
end monad
theorem Ws {a:AV} {x y x' y':Prop} (h1:x->x') (h2:y->y') (h:u9 a x y):u9 a x' y':=by
 unfold u9 at *
 split at h
 ·exact ⟨fun e=>h1 (h.1 e),fun e=>h2 (h.2 e)⟩
 ·exact h.elim
theorem D4 {ops L gd} {x y x' y':Prop} (h1:x->x') (h2:y->y') (h:guarded ops L gd x y):guarded ops L gd x' y':=by
 unfold guarded at *
 split at h
 ·exact h1 h
 ·unfold Dx at *
  split at h
  ·exact ⟨fun e=>h1 (h.1 e),fun e=>h2 (h.2 e)⟩
  ·exact h.elim
theorem iz.mono {P f args st} {R R':AV->St->Prop} (h:∀ r st,R r st->R' r st) (hc:iz P f args st R):iz P f args st R':=by
 intro g w vs h1 h2 h3;rcases hc g w vs h1 h2 h3 with ⟨v,w',g',r,st',q1,q2,q3⟩|⟨q1,q2⟩
 ·exact .inl ⟨v,w',g',r,st',q1,h _ _ q2,q3⟩
 ·refine .inr ⟨q1,q2.mono ?_⟩;rintro e w' ⟨v,g',r,st',p1,p2,p3⟩;exact ⟨v,g',r,st',p1,h _ _ p2,p3⟩
theorem atu {P o L st} {K K':SL->St->Prop} (h:∀ L st,K L st->K' L st) (hc:Uv P o L st K):Uv P o L st K':=by
 unfold Uv au8 at *
 split at hc
 ·split at hc
  ·exact iz.mono (fun r st hk=>h _ _ hk) hc
  ·exact hc.elim
 ·exact hc.elim
theorem Lq {P T ops} {K K':SL->St->Prop} (h:∀ L st,K L st->K' L st):∀ (l:List Oper) (L:SL) (st:St),opsL P T ops l K L st->opsL P T ops l K' L st
 | [],L,st,hh=>h L st hh
 |o::r,L,st,hh=>D4 (fun q=>by
  unfold Pf En at *
  split at q
  ·exact Lq h r _ _ q
  ·exact atu (fun L st=>Lq h r L st) q) (fun q=>Lq h r _ _ q) hh
theorem K9 {P T ops} {K K':SL->St->Prop} (h:∀ L st,K L st->K' L st):∀ (l:List Oper) (recs:List Rec) (L:SL) (st:St),Jx P T ops l K recs L st->Jx P T ops l K' recs L st
 | [],recs,L,st,hh=>⟨hh.1,h L st hh.2⟩
 |o::r,recs,L,st,hh=>D4 (fun q=>by
  unfold iy mq Jl at *
  split at q
  ·exact ⟨q.1,q.2.1,K9 h r _ _ _ q.2.2⟩
  ·exact q.elim) (fun q=>K9 h r _ _ _ q) hh
theorem Lb {P T ops} {K K':SL->St->Prop} (h:∀ L st,K L st->K' L st):∀ (l:List Oper) (recs:List Rec) (L:SL) (st:St),Sn P T ops l K recs L st->Sn P T ops l K' recs L st
 | [],recs,L,st,hh=>⟨hh.1,h L st hh.2⟩
 |o::r,recs,L,st,hh=>D4 (fun q=>Zv (fun _ _ _ k=>Lb h r _ _ _ k) q) (fun q=>Lb h r _ _ _ q) hh
theorem Df {P T l bg ops} {R:My} (hR:∀ p args (X X':Ex->St->Prop) st,(∀ e st,X e st->X' e st)->R p args X st->R p args X' st) {K K':Option Ex->SL->St->Prop} (h:∀ pe L st,K pe L st->K' pe L st) :
 ∀ (ls:List Oper) (pe:Option Ex) (L:SL) (st:St),Kd P T l R bg ops ls K pe L st->Kd P T l R bg ops ls K' pe L st
 | [],pe,L,st,hh=>h pe L st hh
 |o::r,pe,L,st,hh=>D4 (fun q=>by
  unfold opI acm at *
  split at q
  ·unfold Nv at *
   split at q
   ·exact Df hR h r _ _ _ q
   ·exact q.elim
  ·obtain ⟨h0,keep,q⟩:=q;refine ⟨h0,keep,hR _ _ _ _ _ (fun e st q=>?_) q⟩;cases e with
   |normal=>exact Df hR h r _ _ _ q
   |ret=>exact Df hR h r _ _ _ q
   |exit id=>exact Df hR h r _ _ _ q) (fun q=>Df hR h r _ _ _ q) hh
theorem Wv {P:Program} {T:fp} {l bg:Nat} {R:My} (hR:∀ p args (X X':Ex->St->Prop) st,(∀ e st,X e st->X' e st)->R p args X st->R p args X' st) :
 ∀ (c:Code) (Q Q':QI),(∀ e pe L st,Q e pe L st->Q' e pe L st)->∀ pe L st,ui P T l R bg c Q pe L st->ui P T l R bg c Q' pe L st:=by
 intro c
 induction c with
 |skip=>intro Q Q' h pe L st hh;exact h _ _ _ _ hh
 |label l=>intro Q Q' h pe L st hh;exact h _ _ _ _ hh
 |exit i=>intro Q Q' h pe L st hh;exact h _ _ _ _ hh
 |ret=>intro Q Q' h pe L st hh;exact h _ _ _ _ hh
 |region i ops draw=>
  intro Q Q' h pe L st hh;cases draw with
  |false=>exact Df hR (h _) _ _ _ _ hh
  |true=>exact ⟨hh.1,hh.2.imp (K9 (h _ _) _ _ _ _) (Lb (h _ _) _ _ _ _)⟩
 |seq a b eY eX=>
  intro Q Q' h pe L st hh;refine eY _ _ ?_ pe L st hh;intro e pe L st q;cases e with
  |normal=>exact eX _ _ h pe L st q
  |_=>exact h _ _ _ _ q
 |cond c a b eY eX=>intro Q Q' h pe L st hh;exact Ws (eY _ _ h pe L st) (eX _ _ h pe L st) hh
 |block i b ih=>
  intro Q Q' h pe L st hh;refine ih _ _ ?_ pe L st hh;intro e pe L st q;cases e with
  |exit j=>
   simp only [Ww] at *;cases hb:Nat.beq j i with
   |true=>rw [hb] at q;exact h _ _ _ _ q
   |false=>rw [hb] at q;exact h _ _ _ _ q
  |_=>exact h _ _ _ _ q
 |loop b ih=>
  intro Q Q' h pe L st hh;obtain ⟨h0,keep,hh⟩:=hh;refine ⟨h0,keep,fun X hX=>hh X fun vs os q=>hX vs os (ih _ _ ?_ _ _ _ q)⟩;intro e pe L st q;cases e with
  |normal=>exact q
  |_=>exact h _ _ _ _ q
 |scope b ih=>intro _ _ _ _ _ _ hh;exact hh.elim
 |rangeFunc=>intro _ _ _ _ _ _ hh;exact hh.elim
 |goto=>intro _ _ _ _ _ _ hh;exact hh.elim
 |refuse=>intro _ _ _ _ _ _ hh;exact hh.elim
theorem aC4 {P:Program} {T:fp}:∀ (c:Code) (bg:Nat) (Q Q':QL),(∀ e L st,Q e L st->Q' e L st)->∀ L st,wl P T bg c Q L st->wl P T bg c Q' L st:=by
 intro c
 induction c with
 |skip=>intro bg Q Q' h L st hh;exact h _ _ _ hh
 |label l=>intro bg Q Q' h L st hh;exact h _ _ _ hh
 |exit i=>intro bg Q Q' h L st hh;exact h _ _ _ hh
 |ret=>intro bg Q Q' h L st hh;exact h _ _ _ hh
 |region i ops draw=>
  intro bg Q Q' h L st hh;cases draw with
  |false=>exact Lq (h _) _ _ _ hh
  |true=>exact ⟨hh.1,hh.2.imp (K9 (h _) _ _ _ _) (Lb (h _) _ _ _ _)⟩
 |seq a b eY eX=>
  intro bg Q Q' h L st hh;refine eY _ _ _ ?_ L st hh;intro e L st q;cases e with
  |normal=>exact eX _ _ _ h L st q
  |_=>exact h _ _ _ q
 |cond c a b eY eX=>intro bg Q Q' h L st hh;exact Ws (eY _ _ _ h L st) (eX _ _ _ h L st) hh
 |block i b ih=>
  intro bg Q Q' h L st hh;refine ih _ _ _ ?_ L st hh;intro e L st q;cases e with
  |exit j=>
   simp only [Ob] at *;cases hb:Nat.beq j i with
   |true=>rw [hb] at q;exact h _ _ _ q
   |false=>rw [hb] at q;exact h _ _ _ q
  |_=>exact h _ _ _ q
 |loop b ih=>
  intro bg Q Q' h L st hh;obtain ⟨keep,hh⟩:=hh;refine ⟨keep,fun X hX=>hh X fun vs os q=>hX vs os (ih _ _ _ ?_ _ _ q)⟩;intro e L st q;cases e with
  |normal=>exact q
  |_=>exact h _ _ _ q
 |scope b ih=>intro bg Q Q' h L st hh;exact ih _ _ _ h L st hh
 |rangeFunc f ps a b eY eX=>
  intro bg Q Q' h L st hh;obtain ⟨keep,h0,hh⟩:=hh;refine ⟨keep,h0,?_⟩;unfold Rk at *
  split at hh
  ·unfold S3 at *
   split at hh
   ·refine ⟨hh.1,fun l=>Wv (fun p args X X' st hX hr=>⟨hr.1,hr.2.1,eY _ _ _ (fun e L st q=>(by
     cases e with
     |normal=>exact eX _ _ _ (fun e _ st q=>hX e st q) _ _ q
     |_=>exact q.elim)) _ _ hr.2.2⟩) _ _ _ (fun e pe L st q=>(by
     cases e with
     |exit id=>exact q.elim
     |normal=>
      cases pe with
      |none=>exact h _ _ _ q
      |some e=>exact h _ _ _ q
     |ret=>
      cases pe with
      |none=>exact h _ _ _ q
      |some e=>exact h _ _ _ q)) _ _ _ (hh.2 l)⟩
   ·exact hh.elim
  ·exact hh.elim
 |goto=>intro _ _ _ _ _ _ hh;exact hh.elim
 |refuse=>intro _ _ _ _ _ _ hh;exact hh.elim
theorem Fv {P:Program} {T:fp} {bg:Nat} (c:Code) (Q Q':QL) (h:∀ e L st,Q e L st->Q' e L st) (L:SL) (st:St) (hh:wl P T bg c Q L st):wl P T bg c Q' L st:=aC4 c bg Q Q' h L st hh
theorem da {α:Type} {P:Program} {T:fp} {bg:Nat} {b:Code} {Q:QL} {L:SL} {st:St} (keep:List Nat) (V : α->List AV) (O : α->List (Option bk)) (I : α->Prop) (μ : α->Nat) (x : α) (hx:I x)
 (hv:dq bg keep L st=V x) (ho:gk bg keep L st=O x)
 (step:∀ x,I x->wl P T bg b (ou bg keep (fun vs os=>∃ y,I y /\ μ y < μ x/\vs=V y/\os=O y) Q) (fm keep (V x)) (ay (O x))):xn bg (wl P T bg b) Q L st:=
 xn.of keep V O I μ x hx hv ho (fun _ _ h=>Fv b _ _ h) step
section cods
theorem nv {α:Type} (C:er α) (l:Bool) (xs:List α):(bw C).val l xs = .vl l C.sz (xs.map (C.val l)):=id rfl
theorem Gl {α:Type} (C:er α):(bw C).sz=1:=id rfl
theorem ad2:ah.sz=1:=id rfl
theorem amg:bt.sz=1:=id rfl
theorem K4:ct.sz=1:=id rfl
theorem De:cy.sz=1:=id rfl
theorem C0 (k:IntKind):(bh k).sz=1:=id rfl
theorem It:bq.sz=1:=id rfl
theorem Hm (l:Bool) (x:UInt8):bt.val l x = .sc (.int .u8 x.toNat):=id rfl
theorem Z7 (l:Bool) (x:UInt16):ct.val l x = .sc (.int .u16 x.toNat):=id rfl
theorem Y2 (l:Bool) (x:UInt32):cy.val l x = .sc (.int .u32 x.toNat):=id rfl
theorem Yk (k:IntKind) (l:Bool) (x:Int):(bh k).val l x = .sc (.int k x):=id rfl
theorem Ve (l:Bool) (x:Bool):bq.val l x = .sc (.bool x):=id rfl
theorem ary (o i:Nat):idx [] o i=none:=id rfl
theorem al9 {α:Type} (C:er α) (τ:Nat->Option Nat) (l:Bool):AV.cx τ ∘ C.val l=C.val l:=by funext x;exact I0 C τ l x
theorem aay (l:Bool) (x:ByteArray):ah.val l x = .sc (.string x):=id rfl
theorem Cn {α:Type} (C:er α) (fr:Bool) (h:Tr bk) (a:AV) (h1:a.known=true) (h2:a.isAgg=C.agg):C.j9 fr h a=C.dec fr h a.cells:=by unfold er.j9;rw [h1,h2];simp
theorem aet (fr:Bool) (h:Tr bk) (n:UInt32):cy.j9 fr h (.sc (.int .u32 n.toNat))=some n:=cy.Pz fr h true n (fun _=>rfl)
theorem aeb (fr:Bool) (h:Tr bk) (n:UInt16):ct.j9 fr h (.sc (.int .u16 n.toNat))=some n:=ct.Pz fr h true n (fun _=>rfl)
theorem Yo (k:IntKind) (fr:Bool) (h:Tr bk) (n:Int):(bh k).j9 fr h (.sc (.int k n))=some n:=(bh k).Pz fr h true n (fun _=>rfl)
theorem U7 (fr:Bool) (h:Tr bk) (b:Bool):bq.j9 fr h (.sc (.bool b))=some b:=bq.Pz fr h true b (fun _=>rfl)
theorem aap (fr:Bool) (h:Tr bk) (s:ByteArray):ah.j9 fr h (.sc (.string s))=some s:=ah.Pz fr h true s (fun _=>rfl)
theorem F6 {α:Type} (C:er α) (fr:Bool) (h:Tr bk) (a:AV) (h1:a.known=true) (h2:a.isAgg=false) (h3:a.cells=[a]):(bw C).j9 fr h a=kl C fr h a:=by rw [Cn _ _ _ _ h1 h2,h3];rfl
theorem aG9 {α:Type} (C:er α) (fr:Bool) (h:Tr bk) (l:Bool) (xs:List α) (hl:(l || !fr)=true):(bw C).j9 fr h (.vl l C.sz (xs.map (C.val l)))=some xs:=by refine (bw C).Pz fr h l xs ?_;cases fr<;>simp_all
theorem ajw {α:Type} (C:er α) (fr:Bool) (h:Tr bk):kl C fr h (.sc (.slice none 0 0))=some []:=id rfl
theorem Ah {α:Type} (C:er α) (fr:Bool) (h:Tr bk) (l:Bool) (xs:List α) (n:Nat) (hn:n=C.sz) (hl:(l || !fr)=true):kl C fr h (.vl l n (xs.map (C.val l)))=some xs:=by
 subst hn;have:(bw C).j9 fr h (.vl l C.sz (xs.map (C.val l)))=some xs:=aG9 C fr h l xs hl
 rwa [F6 C fr h _ rfl rfl rfl] at this
theorem aqp {α:Type} (C:er α) (fr:Bool) (h:Tr bk) (o off len n:Nat):kl C fr h (.sl o off len n)=bif decide (n=C.sz) then (h.get o).bind (lg C fr h off len) else none:=by show (bif Nat.beq n C.sz then _ else _)=_;rw [asr]
theorem Ya {α:Type} (C:er α) (fr:Bool) (h:Tr bk) (off len:Nat) (cells:List AV) (k s:Nat) (e:TypeId) :
 lg C fr h off len (.row cells k s e)=bif decide (off+len * C.sz<=cells.length) && Ck fr C.sz C.kd s off cells.length len e then B3 C fr h len ((cells.drop off).take (len * C.sz)) else none:=by
 show (bif Nat.ble _ _ && _ then _ else _)=_;rw [aAv]
theorem aqg (sz kd st off len n et):Ck false sz kd st off len n et=true:=id rfl
theorem azj {α:Type} (C:er α) (fr:Bool) (h:Tr bk) (n:Nat) (l:List AV):B3 C fr h (n+1) l=match C.dec fr h (l.take C.sz),B3 C fr h n (l.drop C.sz) with|some x,some xs=>some (x::xs)|_,_=>none:=id rfl
theorem ax9 {α:Type} (C:er α) (fr:Bool) (h:Tr bk) (l:List AV):B3 C fr h 0 l=some []:=id rfl
theorem abc (fr:Bool) (h:Tr bk) (n:Int) (h0 : 0<=n) (h1:n<256):bt.dec fr h [.sc (.int .u8 n)]=some (UInt8.ofNat n.toNat):=by show u8V (.int .u8 n)=_;simp [u8V,h0,h1]
theorem aI0 {α β:Type} (A:er α) (B:er β) (l:Bool) (p : α × β):(r2 A B).E l p = .gj [A.val l p.1,B.val l p.2]:=id rfl
theorem aIo {α:Type} (A:er α) (l:Bool) (x : α):(r1 A).E l x=A.val l x:=id rfl
theorem alm (T:fp) (g:Nat) (a b:Array Value) (args:List AV):Bs T (.sc (.func (.func g) a b)) args=Ay T g (a.toList.map .sc++args++b.toList.map .sc):=id rfl
theorem amw (T:fp) (g:Nat) (a b:List AV) (args:List AV):Bs T (.fn (.func g) a b) args=Ay T g (a++args++b):=id rfl
theorem ae1 (f:Nat) (b:Bool) (m:List AV->M AV) (T:fp) (args:List AV):Ay ((f,b,m)::T) f args=mono (m args):=by simp [Ay,fp.find]
theorem Y4 (f g:Nat) (b:Bool) (m:List AV->M AV) (T:fp) (args:List AV) (h:(f == g)=false):Ay ((f,b,m)::T) g args=Ay T g args:=by
 have:f≠g:=by simpa using h
 simp [Ay,fp.find,uk this]
theorem ajn {α:Type} (A:AC α) (F : α->Option AV) (args:List AV) (st:St):dg A F args st=match A.get .nil args with|some x=>(F x).map fun r=>(r,st)|none=>match A.get st.h args with|some x=>(match F x with|some r=>bif r.fresh then some (r,st) else some (r,{ st with h:=.nil })|none=>none)|none=>none:=id rfl
theorem aI2 {α β:Type} (A:er α) (B:er β) (fr:Bool) (h:Tr bk) (a b:AV):(r2 A B).get fr h (.gj [a,b])=match A.j9 fr h a,B.j9 fr h b with|some x,some y=>some (x,y)|_,_=>none:=id rfl
theorem aHr (h:Tr bk):a0.get h []=some ():=id rfl
theorem aIi {α β:Type} (C:er α) (R:AC β) (h:Tr bk) (a:AV) (r:List AV):(aC C R).get h (a::r)=match C.j9 false h a,R.get h r with|some x,some y=>some (x,y)|_,_=>none:=id rfl
theorem aJs {α:Type} (A:er α) (fr:Bool) (h:Tr bk) (a:AV):(r1 A).get fr h a=A.j9 fr h a:=id rfl
end cods
section
variable (P : Program)
theorem ae6 (pl:Nat->Option (Nat × Nat)) (cells:List AV):Aw pl cells []=some cells:=id rfl
theorem Zk (pl:Nat->Option (Nat × Nat)) (cells:List AV) (i:Nat) (v:AV) (rest:List (Nat × AV)):Aw pl cells ((i,v)::rest)=match pl i with
 |none=>none
 |some (off,size)=>bif !v.known || !(Nat.beq v.cells.length size) || !(Nat.ble (off+size) cells.length) then none else Aw pl (cells.take off++v.cells++cells.drop (off+size)) rest:=id rfl
def Bc (t:TypeId):Option (List AV × List (Nat × Nat)):=
 match ic P t,P.underlying t with
 |some z,some (.struct fields)=>(Nl P fields).map fun pl=>(z.cells.toList.map .sc,pl)
 |_,_=>none
theorem Zu (t:TypeId) (ps:List (Nat × AV)):C7 P t ps=match Bc P t with
 |some (z,pl)=>.of ((Aw (fun i=>pl[i]?) z ps).map .agg)
 |none=>C7 P t ps:=by
 cases hb:Bc P t with
 |none=>rfl
 |some q=>
  obtain ⟨z,pl⟩:=q;simp only [Bc] at hb
  split at hb
  ·rename_i z' fs hz hu;cases hp:Nl P fs with
   |none=>simp [hp] at hb
   |some DN=>
    simp [hp] at hb;obtain ⟨rfl,rfl⟩:=hb;simp [C7,hz,hu,hp]
  ·cases hb
def Gd (t:TypeId):Option (TypeId × Nat × List AV):=
 match tc P t with
 |none=>none
 |some e=>
  match fc P e,ic P e with
  |some sz,some z=>bif Nat.beq z.cells.size sz then some (e,sz,z.cells.toList.map .sc) else none
  |_,_=>none
theorem Kz (t:TypeId) (len:Nat) (ps:List (Nat × AV)):tg P t len ps=match Gd P t with
 |some (e,sz,z)=>
  match Aw (fun i=>some (i * sz,sz)) (List.replicate len z).flatten ps with
  |some cells=>bif Nat.ble (len * sz) 16777216 && Nat.ble len 16777216 then yz e sz len cells else .fail
  |none=>.fail
 |none=>tg P t len ps:=by
 cases hb:Gd P t with
 |none=>rfl
 |some q=>
  obtain ⟨e,sz,z⟩:=q;simp only [Gd] at hb
  split at hb
  ·cases hb
  ·rename_i e' he
   split at hb
   ·rename_i bQ z' hs hz;cases hq:Nat.beq z'.cells.size bQ with
    |false=>simp [hq] at hb
    |true=>
     simp [hq] at hb;obtain ⟨rfl,rfl,rfl⟩:=hb;simp only [tg,he,hs,hz,hq,Bool.and_true];rfl
   ·cases hb
end
section ranges
variable (P : Program) (T : fp) (l bg : Nat) (R : My) (Q : QI) (pe : Option Ex) (L : SL) (st : St)
theorem aj8 (f:Operand) (ps:Array Tmp) (a b:Code) (Q:QL):wl P T bg (.rangeFunc f ps a b) Q L st=aw1 P T f ps.toList (fun p=>wl P T p a) (fun p=>wl P T p b) bg Q L st:=id rfl
theorem ah9:ui P T l R bg .skip Q pe L st=Q .normal pe L st:=id rfl
theorem aad (i:Nat) (ops:Array Oper):ui P T l R bg (.region i ops false) Q pe L st=Kd P T l R bg ops ops.toList (Q .normal) pe L st:=id rfl
theorem aqx (a b:Code):ui P T l R bg (.seq a b) Q pe L st=ui P T l R bg a (aho (ui P T l R bg b) Q) pe L st:=id rfl
theorem aj1 (c:Operand) (a b:Code):ui P T l R bg (.cond c a b) Q pe L st=Gv (eu L c) (ui P T l R bg a Q) (ui P T l R bg b Q) pe L st:=id rfl
theorem ael (i:Nat) (a:Code):ui P T l R bg (.block i a) Q pe L st=ui P T l R bg a (Ww i Q) pe L st:=id rfl
theorem al8 (i:Nat):ui P T l R bg (.exit i) Q pe L st=Q (.exit i) pe L st:=id rfl
theorem ar1:ui P T l R bg .ret Q pe L st=Q .ret pe L st:=id rfl
theorem aw9 (W:QI->Option Ex->SL->St->Prop):aho W Q .normal pe L st=W Q pe L st:=id rfl
theorem azx (W:QI->Option Ex->SL->St->Prop) (i:Nat):aho W Q (.exit i) pe L st=Q (.exit i) pe L st:=id rfl
theorem av8 (W:QI->Option Ex->SL->St->Prop):aho W Q .ret pe L st=Q .ret pe L st:=id rfl
theorem avz (i:Nat):Ww i Q .normal pe L st=Q .normal pe L st:=id rfl
theorem ax1 (i:Nat):Ww i Q .ret pe L st=Q .ret pe L st:=id rfl
theorem ax7 (i j:Nat):Ww i Q (.exit j) pe L st=if j=i then Q .normal pe L st else Q (.exit j) pe L st:=by show (bif Nat.beq j i then _ else _)=_;rw [asr];by_cases h:j=i<;>simp [h]
theorem aq5 (Q':QL):Ew Q' Q .normal pe L st=(pe=none/\Q' .normal L st):=id rfl
theorem aqe (Q':QL) (i:Nat):Ew Q' Q (.exit i) pe L st=Q (.exit i) pe L st:=id rfl
theorem art (Q':QL):Ew Q' Q .ret pe L st=Q .ret pe L st:=id rfl
theorem aq4 (Q:QL) (L0:SL):amf Q L0 .normal none L st=Q .normal L0 st:=id rfl
theorem arb (Q:QL) (L0:SL) (e:Ex):amf Q L0 .ret (some e) L st=Q e L0 st:=id rfl
theorem amq (ops:Array Oper) (K:Option Ex->SL->St->Prop):Kd P T l R bg ops [] K pe L st=K pe L st:=id rfl
theorem afm (ops:Array Oper) (o:Oper) (r:List Oper) (K:Option Ex->SL->St->Prop):Kd P T l R bg ops (o::r) K pe L st=O0 ops o.guard (opI P T l R bg o (Kd P T l R bg ops r K)) (abq o.dst (Kd P T l R bg ops r K)) pe L st:=id rfl
theorem aa1 (ops:Array Oper) (X Y:Option Ex->SL->St->Prop):O0 ops none X Y pe L st=X pe L st:=id rfl
theorem Yh (ops:Array Oper) (j:Nat) (c:Bool) (X Y:Option Ex->SL->St->Prop):O0 ops (some (j,c)) X Y pe L st=ahs (lk L (yr ops j)) c X Y pe L st:=id rfl
theorem alh (b:Bool) (X Y:Option Ex->SL->St->Prop):ahs (.sc (.bool b)) true X Y pe L st=Gv (.sc (.bool b)) X Y pe L st:=by cases b<;>simp [ahs,Dx,G1,K7,Gv,u9,AV.bool,AV.exact,ti]
theorem aqj (X Y:Option Ex->SL->St->Prop):Gv (.sc (.bool true)) X Y pe L st=X pe L st:=by simp [Gv,u9,AV.bool,AV.exact,ti]
theorem aqz (X Y:Option Ex->SL->St->Prop):Gv (.sc (.bool false)) X Y pe L st=Y pe L st:=by simp [Gv,u9,AV.bool,AV.exact,ti]
theorem Bo (b:Bool) (X Y:Option Ex->SL->St->Prop):Gv (.sc (.bool b)) X Y pe L st=((b=true->X pe L st)/\(b=false->Y pe L st)):=by simp [Gv,u9,AV.bool,AV.exact,ti]
theorem Xr (d:Option Tmp) (K:Option Ex->SL->St->Prop):abq d K pe L st=K pe (l8 d (.sc undef) L) st:=id rfl
theorem az4 (o:Oper) (K:Option Ex->SL->St->Prop):opI P T l R bg o K pe L st=acm P T R bg o K pe L st (yieldOf l o L):=id rfl
theorem ayq (o:Oper) (K:Option Ex->SL->St->Prop):acm P T R bg o K pe L st none=Nv (il P T o (eu L) st) o.dst L (K pe):=id rfl
theorem ajl (d:Option Tmp) (K:Option Ex->SL->St->Prop):ahv d L K .normal st=K none (l8 d (.sc (.bool true)) L) st:=id rfl
theorem al0 (d:Option Tmp) (K:Option Ex->SL->St->Prop):ahv d L K .ret st=K (some .ret) (l8 d (.sc (.bool false)) L) st:=id rfl
theorem aq9 (B:QL->SL->St->Prop) (X:Ex->St->Prop):aDx B X .normal L st=B (fun e _ st=>X e st) L st:=id rfl
theorem aef (k:Nat) (va vb:Array Value):Fj l (.sc (.func (.yield k) va vb))=(Nat.beq k l && Nat.beq va.size 0 && Nat.beq vb.size 0):=id rfl
theorem Vb:F8 [] [] L=L:=id rfl
theorem Sx (t:Nat) (ts:List Nat) (v:AV) (vs:List AV):F8 (t::ts) (v::vs) L=F8 ts vs ((t,v)::L):=id rfl
theorem aCc {α:Type} {b:Code} (keep:List Nat) (V : α->List AV) (O : α->List (Option bk)) (I : α->Prop) (μ : α->Nat) (x : α) (hx:I x) (hR:∀ p args (X X':Ex->St->Prop) st,(∀ e st,X e st->X' e st)->R p args X st->R p args X' st)
 (hv:dq bg keep L st=V x) (ho:gk bg keep L st=O x)
 (step:∀ x,I x->ui P T l R bg b (Ew (ou bg keep (fun vs os=>∃ y,I y /\ μ y < μ x/\vs=V y/\os=O y) (fun _ _ _=>False)) Q) none (fm keep (V x)) (ay (O x))):ui P T l R bg (.loop b) Q none L st:=
 ⟨rfl,xn.of (B:=fun Q' L st=>ui P T l R bg b (Ew Q' Q) none L st) keep V O I μ x hx hv ho (fun Q1 Q2 h L st hh=>Wv hR b _ _ (fun e pe L st q=>by
  cases e with
  |normal=>exact ⟨q.1,h _ _ _ q.2⟩
  |ret=>exact q
  |exit i=>exact q) none L st hh) step⟩
theorem Vd {ps:List Tmp} {a b:Code} {L0:SL}:∀ p args (X X':Ex->St->Prop) st,(∀ e st,X e st->X' e st)->sm ps (fun p=>wl P T p a) (fun p=>wl P T p b) L0 p args X st->sm ps (fun p=>wl P T p a) (fun p=>wl P T p b) L0 p args X' st:=
 fun p args X X' st hX hr=>⟨hr.1,hr.2.1,Fv _ _ _ (fun e L st q=>by
  cases e with
  |normal=>exact Fv _ _ _ (fun e _ st q=>hX e st q) _ _ q
  |_=>exact q.elim) _ _ hr.2.2⟩
end ranges
section yields
variable {lp : Nat} {L : SL} {d : Option Tmp} {ty : TypeId} {pos : String} {af : Array Edge} {gd : Option (Nat × Bool)}
theorem Re (x):yieldOf lp ⟨d,.move x,ty,pos,af,gd⟩ L=none:=id rfl
theorem Na (x):yieldOf lp ⟨d,.assign x,ty,pos,af,gd⟩ L=none:=id rfl
theorem Rq (t a):yieldOf lp ⟨d,.load t a,ty,pos,af,gd⟩ L=none:=id rfl
theorem Ie (s x f):yieldOf lp ⟨d,.fieldAddr s x f,ty,pos,af,gd⟩ L=none:=id rfl
theorem P8 (op t x y u):yieldOf lp ⟨d,.binOp op t x y u,ty,pos,af,gd⟩ L=none:=id rfl
theorem S8 (c a b):yieldOf lp ⟨d,.pick c a b,ty,pos,af,gd⟩ L=none:=id rfl
theorem Qj (t a x):yieldOf lp ⟨d,.store t a x,ty,pos,af,gd⟩ L=none:=id rfl
theorem Ib (t x i):yieldOf lp ⟨d,.indexAddr t x i,ty,pos,af,gd⟩ L=none:=id rfl
theorem Qf (t):yieldOf lp ⟨d,.alloc t,ty,pos,af,gd⟩ L=none:=id rfl
theorem S2 (op t x):yieldOf lp ⟨d,.unOp op t x,ty,pos,af,gd⟩ L=none:=id rfl
theorem Wh (x ts):yieldOf lp ⟨d,.call { callee:=.builtin .len,args:=#[x],argTypes:=ts },ty,pos,af,gd⟩ L=none:=id rfl
theorem Ss (f:Operand) (args:Array Operand) (ts:Array TypeId):yieldOf lp ⟨d,.call { callee:=.value f,args:=args,argTypes:=ts },ty,pos,af,gd⟩ L=bif Fj lp (eu L f) then some args else none:=id rfl
end yields
end
variable [TK]
noncomputable section
abbrev Name:=List ByteArray
structure bp where
 names:List Name
 nums:List UInt32
 texts:List ByteArray
 raw:List UInt8
def mkD (a:List Name) (b:List UInt32) (c:List ByteArray) (e:List UInt8):bp:=⟨a,b,c,e⟩
theorem ap1 (d:bp):mkD d.names d.nums d.texts d.raw=d:=id rfl
noncomputable def au:er Name:=bw ah
noncomputable def ai:er bp:=Em (mi (bw au) (mi (bw cy) (mi au (bw bt)))) (fun d=>(d.names,d.nums,d.texts,d.raw)) (fun p=>⟨p.1,p.2.1,p.2.2.1,p.2.2.2⟩) (fun _=>rfl) (fun _=>rfl)
theorem cr (l:Bool) (n:Name):au.val l n = .vl l 1 (n.map (ah.val l)):=id rfl
theorem zk:au.sz=1:=id rfl
theorem N9:ai.sz=4:=id rfl
theorem jn (l:Bool) (d:bp):ai.val l d = .agg [.vl l 1 (d.names.map (au.val l)),.vl l 1 (d.nums.map (cy.val l)),.vl l 1 (d.texts.map (ah.val l)),.vl l 1 (d.raw.map (bt.val l))]:=id rfl
theorem V2 (fr:Bool) (h:Tr bk) (x1 x2 x3 x4:AV) :
 ai.j9 fr h (.agg [x1,x2,x3,x4])=match kl au fr h x1,kl cy fr h x2,kl ah fr h x3,kl bt fr h x4 with
  |some a,some b,some c,some e=>some (mkD a b c e)
  |_,_,_,_=>none:=by
 rw [Cn _ _ _ _ rfl rfl];have h1:ai.dec fr h (AV.agg [x1,x2,x3,x4]).cells=Option.map (fun p=>(⟨p.1,p.2.1,p.2.2.1,p.2.2.2⟩:bp)) ((mi (bw au) (mi (bw cy) (mi au (bw bt)))).dec fr h [x1,x2,x3,x4]):=rfl;have d2:∀ {α β:Type} (A:er α) (B:er β) (l:List AV),(mi A B).dec fr h l=match A.dec fr h (l.take A.sz),B.dec fr h (l.drop A.sz) with|some x,some y=>some (x,y)|_,_=>none:=fun _ _ _=>rfl
 have l1:∀ {α:Type} (C:er α) (x:AV),(bw C).dec fr h [x]=kl C fr h x:=fun _ _=>rfl
 have n1:∀ x,au.dec fr h [x]=kl ah fr h x:=fun _=>rfl
 rw [h1];simp only [d2,Gl,zk,List.take_succ_cons,List.take_zero,List.drop_succ_cons,List.drop_zero,l1,n1];cases kl au fr h x1<;>cases kl cy fr h x2<;>cases kl ah fr h x3<;>cases kl bt fr h x4<;>rfl
theorem Rc {α:Type} (C:er α) (fr:Bool) (h:Tr bk) (l:Bool) (n:Nat) (es:List AV):(bw C).j9 fr h (.vl l n es)=kl C fr h (.vl l n es):=F6 C fr h _ rfl rfl rfl
theorem Qy {α:Type} (C:er α) (fr:Bool) (h:Tr bk) (o off len n:Nat):(bw C).j9 fr h (.sl o off len n)=kl C fr h (.sl o off len n):=F6 C fr h _ rfl rfl rfl
theorem Hx {α:Type} (C:er α) (fr:Bool) (h:Tr bk):(bw C).j9 fr h (.sc (.slice none 0 0))=some []:=by rw [F6 C fr h _ rfl rfl rfl];rfl
theorem Kw (fr:Bool) (h:Tr bk) (l:Bool) (n:Nat) (es:List AV):au.j9 fr h (.vl l n es)=kl ah fr h (.vl l n es):=F6 ah fr h _ rfl rfl rfl
theorem K2 (fr:Bool) (h:Tr bk) (o off len n:Nat):au.j9 fr h (.sl o off len n)=kl ah fr h (.sl o off len n):=F6 ah fr h _ rfl rfl rfl
theorem Jd (fr:Bool) (h:Tr bk):au.j9 fr h (.sc (.slice none 0 0))=some []:=Hx ah fr h
theorem Ki (l:List UInt8):l.map Fa=l.map (bt.val false):=id rfl
theorem S1 {α:Type} (C:er α) (b:Bool) (l:List α):AV.names.go (l.map (C.val b))=[]:=Mp (fun c hc=>by obtain ⟨x,_,rfl⟩:=zyl.1 hc;exact Sg C b x)
theorem Ce:∀ (l:List UInt8) (b:Bool),bytesOf (l.map (bt.val b))=some l
 | [],_=>rfl
 |c::l,b=>by rw [List.map_cons,Hm,bytesOf,Ce l b];simp
end
end Go.Vm
section
namespace Go.Vm.Cx
open Go.Vm
variable [TK]
noncomputable section
theorem Hb {P:Program} (w:World):∀ (ns:List Int) (a:Addr) (i:Nat) (acc:ByteArray),(∀ (j:Nat) x,ns[j]? = some x->(load (a.add (i+j))).run P w = .ok (.int .u8 x) w) ->
 (Extern.Bytes.loadBytes (a.add i) ns.length acc).run P w = .ok ⟨acc.data++(ns.map fun n=>UInt8.ofNat n.toNat).toArray⟩ w
 | [],a,i,acc,_=>by simp [Extern.Bytes.loadBytes]
 |x::l,a,i,acc,h=>by
  have h0:=h 0 x rfl;rw [Nat.add_zero] at h0;have e:(a.add i).add 1=a.add (i+1):=by
   unfold Addr.add;by_cases hj:i=0
   ·subst hj;simp
   ·simp [hj];omega
  have ih:=Hb (P:=P) w l a (i+1) (acc.push x.toNat.toUInt8) (fun j y hy=>by have:=h (j+1) y (by simpa using hy);rw [show i+1+j=i+(j+1) from by omega];exact this)
  simp only [List.length_cons,Extern.Bytes.loadBytes,Sem.run_bind,h0,Result.andThen];rw [e,ih]
  congr 1
  apply ByteArray.ext;simp [ByteArray.push,Nat.toUInt8]
theorem abn {l:List Int} {l':List Value} (h:l'=l.map (Value.int .u8)) (j:Nat) (x:Int) (hx:l[j]? = some x):l'[j]? = some (.int .u8 x):=by rw [h,zzj,hx];rfl
theorem Hs {P:Program} {g st fg w} {a:AV} {v:Value} {l:List AV} {bs:List UInt8} (aB:Ok g st.h w) (hr:Rel g w a v) (h:cellsIn 1 a st=some (l,fg)) (hb:bytesOf l=some bs) :
 (Extern.Bytes.bytesOf v).run P w = .ok ⟨bs.toArray⟩ w:=by
 obtain ⟨_,_,n,news,cF,hrl⟩:=By (P:=P) aB hr h;obtain ⟨ns,e1,e2⟩:=Ig _ _ _ hrl hb;obtain ⟨r1,r2⟩:=cF.run w rfl;cases v with
 |slice p len cap=>
  have hn:n=len:=by simp [Builtin.lenOf] at r1;exact r1.symm
  subst hn;cases p with
  |none=>
   have:news=[]:=by simpa [Builtin.firstCells] using r2
   subst this;have:ns=[]:=by simpa using e1.symm
   subst this;subst e2;rfl
  |some a=>
   simp only [Builtin.firstCells,Nat.mul_one] at r2;unfold loadCells at r2;obtain ⟨l',q1,q2,q3⟩:=loadCellsFrom_ok a n 0 #[] _ _ r2;have hl':l'=news:=by simpa using q2.symm
   subst hl';have hlen:ns.length=n:=by rw [<- q1,e1,zzo]
   have:=Hb (P:=P) w ns a 0 .empty (fun j x hx=>by exact q3 j _ (abn e1 j x hx))
   rw [hlen] at this;have e0:a.add 0=a:=by simp [Addr.add]
   rw [e0] at this;show (Extern.Bytes.loadBytes a n .empty).run P w=_;rw [this,e2]
   congr 2
   simp [ByteArray.empty,ByteArray.emptyWithCapacity];rfl
 |string s=>
  have hn:n=s.size:=by simp [Builtin.lenOf] at r1;exact r1.symm
  subst hn;simp only [Builtin.firstCells,Sem.run_pure,Result.ok.injEq,and_true] at r2;have h1:=congrArg Array.toList r2;rw [e1] at h1;show Result.ok s w=_
  congr 1
  apply ByteArray.ext;apply Array.ext';rw [e2];have h2:=congrArg (List.map fun v:Value=>match v with|.int _ n=>UInt8.ofNat n.toNat|_=>0) h1;simp only [List.map_map,Array.toList_map] at h2;have h3:(s.extract 0 s.size).data.toList=s.data.toList:=by simp
  rw [h3] at h2;have h4:(List.map ((fun v:Value=>match v with|.int _ n=>UInt8.ofNat n.toNat|_=>0) ∘ fun b:UInt8=>Value.int .u8 (b.toNat:Int)) s.data.toList)=s.data.toList:=by rw [show ((fun v:Value=>match v with|.int _ n=>UInt8.ofNat n.toNat|_=>0) ∘ fun b:UInt8=>Value.int .u8 (b.toNat:Int))=id from by funext b;simp];simp
  rw [h4] at h2;rw [h2];simp
 |_=>simp [Builtin.lenOf,stuck] at r1
def Um (args:List AV):M AV:=
 match args with
 | [a]=>.pure a
 |_=>.fail
def oh (args:List AV):M AV:=
 match args with
 | [a,b]=>(cellsIn 1 a).bind fun x=>(cellsIn 1 b).bind fun y=>
  match bytesOf x with
  |some x=>
   match bytesOf y with
   |some y=>.pure (.sc (goInt (Lib.compareBytes x y)))
   |none=>.fail
  |none=>.fail
 |_=>.fail
def gi {α:Type} (m:M α):Prop:=∀ st v fg,m st=some (v,fg)->fg.h=st.h/\fg.nx=st.nx
theorem gi.pure {α:Type} (a : α):gi (M.pure a):=fun st v fg h=>by cases h;exact ⟨rfl,rfl⟩
theorem gi.fail {α:Type}:gi (M.fail:M α):=fun st v fg h=>by cases h
theorem gi.bind {α β:Type} {m:M α} {f : α->M β} (hm:gi m) (h:∀ x,gi (f x)):gi (m.bind f):=fun st v fg hb=>by obtain ⟨x,s1,h1,h2⟩:=bind_some hb;have h3:=hm _ _ _ h1;have h4:=h x _ _ _ h2;exact ⟨h4.1.trans h3.1,h4.2.trans h3.2⟩
theorem gi.fk (id:Nat):gi (Vm.fk id):=fun CU _v vC h=>(jz h).2
theorem gi.cond {α:Type} {b:Bool} {x y:M α} (hx:gi x) (hy:gi y):gi (bif b then x else y):=by cases b<;>assumption
theorem gi.cellsIn (sz:Nat) (v:AV):gi (Vm.cellsIn sz v):=by
 unfold Vm.cellsIn J4
 repeat' (first|exact gi.pure _|exact gi.fail|apply gi.cond|(refine gi.bind (gi.fk _) fun x=>?_)|split)
theorem Fo (args:List AV):gi (oh args):=by
 unfold oh;split
 ·exact gi.bind (gi.cellsIn _ _) fun x=>gi.bind (gi.cellsIn _ _) fun y=>by
   split
   ·split
    ·exact gi.pure _
    ·exact gi.fail
   ·exact gi.fail
 ·exact gi.fail
theorem Kb {P:Program} {f:Nat} {fn:Func} (hf:P.funcs[f]? = some fn) (h1:(fn.name == "runtime.NumGoroutine")=false) (h2:fn.body.isNone=true) (h3:Extern.findNext fn=none) (h4:Extern.find fn=some Extern.BytealgCompare.compare) (args:List AV) :
 Dz P f args (oh args):=by
 intro g st w vs r st' aB cB hrel hm;refine .inl ?_;have hst:=Fo _ _ _ _ hm;unfold oh at hm
 split at hm
 ·rename_i a c;obtain ⟨x,s1,e1,hm⟩:=bind_some hm;obtain ⟨y,s2,e2,hm⟩:=bind_some hm;cases hx:bytesOf x with
  |none=>rw [hx] at hm;cases hm
  |some bx=>
  cases hy:bytesOf y with
  |none=>rw [hx,hy] at hm;cases hm
  |some yb=>
  rw [hx,hy] at hm;cases hm;have hh:=gi.cellsIn _ _ _ _ _ e1
  match vs,hrel with
  | [v,u],hrel=>
   have r1:=Hs (P:=P) aB hrel.head e1 hx;have r2:=Hs (P:=P) (st:=s1) (by rw [hh.1];exact aB) hrel.tail.head e2 hy;refine ⟨goInt (Lib.compareBytes bx yb),w,g,?_,?_,?_,.sc _⟩
   ·rw [run_callFunc_extern hf h1 h2 h3 h4];have:(Extern.BytealgCompare.compare #[v,u]).run P w = .ok (goInt (Lib.compareBytes bx yb)) w:=by
     change Sem.run P (do pure (goInt (Extern.BytealgCompare.cmp (<- Extern.Bytes.bytesOf v) (<- Extern.Bytes.bytesOf u)))) w=_;simp only [Sem.run_bind,r1,r2,Result.andThen,Sem.run_pure];rw [Lib.cmp_eq]
    show ((Extern.BytealgCompare.compare #[v,u]).run P w).andThen _=_;rw [this];rfl
   ·rw [hst.1,hst.2];exact .refl _ _ _ _ _
   ·rw [hst.1];exact aB
  | [],hrel=>have:=hrel.1;simp at this
  | [v],hrel=>have:=hrel.1;simp at this
  |_::_::_::_,hrel=>have:=hrel.1;simp at this
 ·cases hm
end
end Go.Vm.Cx
end
section
set_option linter.unnecessarySimpa false
namespace Go.Vm
variable [TK]
noncomputable section
def roT (o:Option (Bool × (List AV->M AV))):Bool:=match o with|some (b,_)=>b|none=>false
theorem aDy (b m):roT (some (b,m))=b:=id rfl
theorem ga {o:Oper} {L:SL} {x:Operand} (h:x ∈ o.op.operands):eg o L x=eu L x:=by
 cases x with
 |tmp t=>
  show (bif o.op.operands.any (fun x=>match x with|.tmp u=>Nat.beq u t|_=>false) then lk L t else .bad)=lk L t;have:o.op.operands.any (fun x=>match x with|.tmp u=>Nat.beq u t|_=>false)=true:=by rw [Array.any_eq_true'];exact ⟨_,h,by simp⟩
  rw [this];rfl
 |const v=>rfl
 |global g=>rfl
 |func f=>rfl
theorem jj {o:Oper} {L:SL} {l:List Operand} (h:∀ x ∈ l,x ∈ o.op.operands):l.map (eg o L)=l.map (eu L):=List.map_congr_left fun x hx=>ga (h x hx)
theorem Wc {o:Oper} {L:SL} {l:List (Nat × Operand)} (h:∀ x ∈ l,x.2 ∈ o.op.operands):l.map (fun p=>(p.1,eg o L p.2))=l.map (fun p=>(p.1,eu L p.2)):=List.map_congr_left fun x hx=>by rw [ga (h x hx)]
def gv (ro:Bool) (F:List Nat) (o:Oper) (recs:List Rec) (K:List Rec->SL->St->Prop) (L:SL) (st:St) (m:M AV):Prop:=Jl ro F o recs K L st (m { h:=vr st.h F,nx:=st.nx,rl:=[],wl:=[] })
theorem agc (ro F o recs K L st m):gv ro F o recs K L st m=Jl ro F o recs K L st (m { h:=vr st.h F,nx:=st.nx,rl:=[],wl:=[] }):=id rfl
section ops
variable (P : Program) (T : fp) (L : SL) (st : St) (recs : List Rec) (K : List Rec -> SL -> St -> Prop) (d : Option Tmp) (ty : TypeId) (pos : String) (af : Array Edge) (gd : Option (Nat × Bool))
theorem ai6 (x):iy P T ⟨d,.move x,ty,pos,af,gd⟩ recs K L st=gv (true) ([]) ⟨d,.move x,ty,pos,af,gd⟩ recs K L st (mono (M.pure (eu L x))):=by
 unfold iy mq n7 gv;simp only [kp,cond_true];have hm:∀ y,y ∈ ([x]:List Operand)->eg ⟨d,.move x,ty,pos,af,gd⟩ L y=eu L y:=fun y hy=>ga (by simpa [Op.operands,Call.operands] using hy)
 have hmap:([x]:List Operand).map (eg ⟨d,.move x,ty,pos,af,gd⟩ L)=([x]:List Operand).map (eu L):=jj (fun y hy=>by simpa [Op.operands,Call.operands] using hy);have ho:(⟨d,.move x,ty,pos,af,gd⟩:Oper).op.operands.toList=[x]:=by simp [Op.operands,Call.operands]
 rw [Ot,hm x (by simp)];rfl
theorem Zb (x):iy P T ⟨d,.assign x,ty,pos,af,gd⟩ recs K L st=gv (true) ([]) ⟨d,.assign x,ty,pos,af,gd⟩ recs K L st (mono (M.pure (eu L x))):=by
 unfold iy mq n7 gv;simp only [kp,cond_true];have hm:∀ y,y ∈ ([x]:List Operand)->eg ⟨d,.assign x,ty,pos,af,gd⟩ L y=eu L y:=fun y hy=>ga (by simpa [Op.operands,Call.operands] using hy)
 have hmap:([x]:List Operand).map (eg ⟨d,.assign x,ty,pos,af,gd⟩ L)=([x]:List Operand).map (eu L):=jj (fun y hy=>by simpa [Op.operands,Call.operands] using hy);have ho:(⟨d,.assign x,ty,pos,af,gd⟩:Oper).op.operands.toList=[x]:=by simp [Op.operands,Call.operands]
 rw [Jv,hm x (by simp)];rfl
theorem amm (t a):iy P T ⟨d,.load t a,ty,pos,af,gd⟩ recs K L st=gv (true) ((eu L a).names) ⟨d,.load t a,ty,pos,af,gd⟩ recs K L st (mono (wx P t (eu L a))):=by
 unfold iy mq n7 gv;simp only [kp,cond_false];have hm:∀ y,y ∈ ([a]:List Operand)->eg ⟨d,.load t a,ty,pos,af,gd⟩ L y=eu L y:=fun y hy=>ga (by simpa [Op.operands,Call.operands] using hy)
 have hmap:([a]:List Operand).map (eg ⟨d,.load t a,ty,pos,af,gd⟩ L)=([a]:List Operand).map (eu L):=jj (fun y hy=>by simpa [Op.operands,Call.operands] using hy);have ho:(⟨d,.load t a,ty,pos,af,gd⟩:Oper).op.operands.toList=[a]:=by simp [Op.operands,Call.operands]
 rw [Od,hm a (by simp)];rfl
theorem Pv (s x f):iy P T ⟨d,.fieldAddr s x f,ty,pos,af,gd⟩ recs K L st=gv (true) ([]) ⟨d,.fieldAddr s x f,ty,pos,af,gd⟩ recs K L st (mono (xf P s (eu L x) f)):=by
 unfold iy mq n7 gv;simp only [kp,cond_true];have hm:∀ y,y ∈ ([x]:List Operand)->eg ⟨d,.fieldAddr s x f,ty,pos,af,gd⟩ L y=eu L y:=fun y hy=>ga (by simpa [Op.operands,Call.operands] using hy)
 have hmap:([x]:List Operand).map (eg ⟨d,.fieldAddr s x f,ty,pos,af,gd⟩ L)=([x]:List Operand).map (eu L):=jj (fun y hy=>by simpa [Op.operands,Call.operands] using hy);have ho:(⟨d,.fieldAddr s x f,ty,pos,af,gd⟩:Oper).op.operands.toList=[x]:=by simp [Op.operands,Call.operands]
 rw [Ds,hm x (by simp)];rfl
theorem adx (op t x y u):iy P T ⟨d,.binOp op t x y u,ty,pos,af,gd⟩ recs K L st=gv (true) ([]) ⟨d,.binOp op t x y u,ty,pos,af,gd⟩ recs K L st (mono (On P (eg ⟨d,.binOp op t x y u,ty,pos,af,gd⟩ L) ⟨d,.binOp op t x y u,ty,pos,af,gd⟩ op t x y)):=by
 unfold iy mq n7 gv;simp only [kp,cond_true];have hm:∀ y,y ∈ ([x,y]:List Operand)->eg ⟨d,.binOp op t x y u,ty,pos,af,gd⟩ L y=eu L y:=fun y hy=>ga (by simpa [Op.operands,Call.operands] using hy)
 have hmap:([x,y]:List Operand).map (eg ⟨d,.binOp op t x y u,ty,pos,af,gd⟩ L)=([x,y]:List Operand).map (eu L):=jj (fun y hy=>by simpa [Op.operands,Call.operands] using hy);have ho:(⟨d,.binOp op t x y u,ty,pos,af,gd⟩:Oper).op.operands.toList=[x,y]:=by simp [Op.operands,Call.operands]
 rfl
theorem aif (c a b):iy P T ⟨d,.pick c a b,ty,pos,af,gd⟩ recs K L st=gv (true) ([]) ⟨d,.pick c a b,ty,pos,af,gd⟩ recs K L st (mono (Jj (eu L c) (eu L a) (eu L b))):=by
 unfold iy mq n7 gv;simp only [kp,cond_true];have hm:∀ y,y ∈ ([c,a,b]:List Operand)->eg ⟨d,.pick c a b,ty,pos,af,gd⟩ L y=eu L y:=fun y hy=>ga (by simpa [Op.operands,Call.operands] using hy)
 have hmap:([c,a,b]:List Operand).map (eg ⟨d,.pick c a b,ty,pos,af,gd⟩ L)=([c,a,b]:List Operand).map (eu L):=jj (fun y hy=>by simpa [Op.operands,Call.operands] using hy);have ho:(⟨d,.pick c a b,ty,pos,af,gd⟩:Oper).op.operands.toList=[c,a,b]:=by simp [Op.operands,Call.operands]
 rw [Oo,hm c (by simp),hm a (by simp),hm b (by simp)];rfl
theorem aey (t a x):iy P T ⟨d,.store t a x,ty,pos,af,gd⟩ recs K L st=gv (false) ((eu L a).names) ⟨d,.store t a x,ty,pos,af,gd⟩ recs K L st (mono (Bt P t (eu L a) (eu L x))):=by
 unfold iy mq n7 gv;simp only [kp,cond_false];have hm:∀ y,y ∈ ([a,x]:List Operand)->eg ⟨d,.store t a x,ty,pos,af,gd⟩ L y=eu L y:=fun y hy=>ga (by simpa [Op.operands,Call.operands] using hy)
 have hmap:([a,x]:List Operand).map (eg ⟨d,.store t a x,ty,pos,af,gd⟩ L)=([a,x]:List Operand).map (eu L):=jj (fun y hy=>by simpa [Op.operands,Call.operands] using hy);have ho:(⟨d,.store t a x,ty,pos,af,gd⟩:Oper).op.operands.toList=[a,x]:=by simp [Op.operands,Call.operands]
 rw [Mh,hm a (by simp),hm x (by simp)];rfl
theorem Qm (t x i):iy P T ⟨d,.indexAddr t x i,ty,pos,af,gd⟩ recs K L st=gv (true) ([]) ⟨d,.indexAddr t x i,ty,pos,af,gd⟩ recs K L st (mono (xg P t (eu L x) (eu L i))):=by
 unfold iy mq n7 gv;simp only [kp,cond_true];have hm:∀ y,y ∈ ([x,i]:List Operand)->eg ⟨d,.indexAddr t x i,ty,pos,af,gd⟩ L y=eu L y:=fun y hy=>ga (by simpa [Op.operands,Call.operands] using hy)
 have hmap:([x,i]:List Operand).map (eg ⟨d,.indexAddr t x i,ty,pos,af,gd⟩ L)=([x,i]:List Operand).map (eu L):=jj (fun y hy=>by simpa [Op.operands,Call.operands] using hy);have ho:(⟨d,.indexAddr t x i,ty,pos,af,gd⟩:Oper).op.operands.toList=[x,i]:=by simp [Op.operands,Call.operands]
 rw [Ei,hm x (by simp),hm i (by simp)];rfl
theorem Rb (x):iy P T ⟨d,.nilCheck x,ty,pos,af,gd⟩ recs K L st=gv (true) ([]) ⟨d,.nilCheck x,ty,pos,af,gd⟩ recs K L st (mono (uo (eu L x))):=by
 unfold iy mq n7 gv;simp only [kp,cond_true];have hm:∀ y,y ∈ ([x]:List Operand)->eg ⟨d,.nilCheck x,ty,pos,af,gd⟩ L y=eu L y:=fun y hy=>ga (by simpa [Op.operands,Call.operands] using hy)
 have hmap:([x]:List Operand).map (eg ⟨d,.nilCheck x,ty,pos,af,gd⟩ L)=([x]:List Operand).map (eu L):=jj (fun y hy=>by simpa [Op.operands,Call.operands] using hy);have ho:(⟨d,.nilCheck x,ty,pos,af,gd⟩:Oper).op.operands.toList=[x]:=by simp [Op.operands,Call.operands]
 rw [F3,hm x (by simp)];rfl
theorem af6 (t):iy P T ⟨d,.alloc t,ty,pos,af,gd⟩ recs K L st=gv (true) (reach st.h gu [] []) ⟨d,.alloc t,ty,pos,af,gd⟩ recs K L st (mono (Gn P t)):=by
 unfold iy mq n7 gv;simp only [kp,cond_false];have hm:∀ y,y ∈ ([]:List Operand)->eg ⟨d,.alloc t,ty,pos,af,gd⟩ L y=eu L y:=fun y hy=>ga (by simpa [Op.operands,Call.operands] using hy)
 have hmap:([]:List Operand).map (eg ⟨d,.alloc t,ty,pos,af,gd⟩ L)=([]:List Operand).map (eu L):=jj (fun y hy=>by simpa [Op.operands,Call.operands] using hy);have ho:(⟨d,.alloc t,ty,pos,af,gd⟩:Oper).op.operands.toList=[]:=by simp [Op.operands,Call.operands]
 rw [ho,hmap];rfl
theorem aew (t ps):iy P T ⟨d,.build t ps,ty,pos,af,gd⟩ recs K L st=gv (true) (reach st.h gu (AV.names.go ((ps.toList.map (·.2)).map (eu L))) []) ⟨d,.build t ps,ty,pos,af,gd⟩ recs K L st (mono (C7 P t (ps.toList.map fun p=>(p.1,eu L p.2)))):=by
 unfold iy mq n7 gv;simp only [kp,cond_false];have hm:∀ y,y ∈ ((ps.toList.map (·.2)):List Operand)->eg ⟨d,.build t ps,ty,pos,af,gd⟩ L y=eu L y:=fun y hy=>ga (by simpa [Op.operands,Call.operands] using hy)
 have hmap:((ps.toList.map (·.2)):List Operand).map (eg ⟨d,.build t ps,ty,pos,af,gd⟩ L)=((ps.toList.map (·.2)):List Operand).map (eu L):=jj (fun y hy=>by simpa [Op.operands,Call.operands] using hy);have ho:(⟨d,.build t ps,ty,pos,af,gd⟩:Oper).op.operands.toList=(ps.toList.map (·.2)):=by simp [Op.operands,Call.operands]
 rw [ho,hmap];rw [Mk,Wc (fun x hx=>by simp [Op.operands];exact ⟨_,by simpa using hx⟩)];rfl
theorem M8 (t n ps):iy P T ⟨d,.buildSlice t n ps,ty,pos,af,gd⟩ recs K L st=gv (true) (reach st.h gu (AV.names.go ((ps.toList.map (·.2)).map (eu L))) []) ⟨d,.buildSlice t n ps,ty,pos,af,gd⟩ recs K L st (mono (tg P t n (ps.toList.map fun p=>(p.1,eu L p.2)))):=by
 unfold iy mq n7 gv;simp only [kp,cond_false];have hm:∀ y,y ∈ ((ps.toList.map (·.2)):List Operand)->eg ⟨d,.buildSlice t n ps,ty,pos,af,gd⟩ L y=eu L y:=fun y hy=>ga (by simpa [Op.operands,Call.operands] using hy)
 have hmap:((ps.toList.map (·.2)):List Operand).map (eg ⟨d,.buildSlice t n ps,ty,pos,af,gd⟩ L)=((ps.toList.map (·.2)):List Operand).map (eu L):=jj (fun y hy=>by simpa [Op.operands,Call.operands] using hy);have ho:(⟨d,.buildSlice t n ps,ty,pos,af,gd⟩:Oper).op.operands.toList=(ps.toList.map (·.2)):=by simp [Op.operands,Call.operands]
 rw [ho,hmap];rw [Cm,Wc (fun x hx=>by simp [Op.operands];exact ⟨_,by simpa using hx⟩)];rfl
theorem Wj (s u x):iy P T ⟨d,.convert s u x,ty,pos,af,gd⟩ recs K L st=gv (true) (reach st.h gu (AV.names.go ([x].map (eu L))) []) ⟨d,.convert s u x,ty,pos,af,gd⟩ recs K L st (mono (A4 P (eg ⟨d,.convert s u x,ty,pos,af,gd⟩ L) ⟨d,.convert s u x,ty,pos,af,gd⟩ s u (eu L x))):=by
 unfold iy mq n7 gv;simp only [kp,cond_false];have hm:∀ y,y ∈ ([x]:List Operand)->eg ⟨d,.convert s u x,ty,pos,af,gd⟩ L y=eu L y:=fun y hy=>ga (by simpa [Op.operands,Call.operands] using hy)
 have hmap:([x]:List Operand).map (eg ⟨d,.convert s u x,ty,pos,af,gd⟩ L)=([x]:List Operand).map (eu L):=jj (fun y hy=>by simpa [Op.operands,Call.operands] using hy);have ho:(⟨d,.convert s u x,ty,pos,af,gd⟩:Oper).op.operands.toList=[x]:=by simp [Op.operands,Call.operands]
 rw [ho,hmap];rw [H0,hm x (by simp)];rfl
theorem adt (t x i):iy P T ⟨d,.index t x i,ty,pos,af,gd⟩ recs K L st=gv (true) (reach st.h gu (AV.names.go ([x,i].map (eu L))) []) ⟨d,.index t x i,ty,pos,af,gd⟩ recs K L st (mono (Fb P (eg ⟨d,.index t x i,ty,pos,af,gd⟩ L) ⟨d,.index t x i,ty,pos,af,gd⟩ t x i)):=by
 unfold iy mq n7 gv;simp only [kp,cond_false];have hm:∀ y,y ∈ ([x,i]:List Operand)->eg ⟨d,.index t x i,ty,pos,af,gd⟩ L y=eu L y:=fun y hy=>ga (by simpa [Op.operands,Call.operands] using hy)
 have hmap:([x,i]:List Operand).map (eg ⟨d,.index t x i,ty,pos,af,gd⟩ L)=([x,i]:List Operand).map (eu L):=jj (fun y hy=>by simpa [Op.operands,Call.operands] using hy);have ho:(⟨d,.index t x i,ty,pos,af,gd⟩:Oper).op.operands.toList=[x,i]:=by simp [Op.operands,Call.operands]
 rw [ho,hmap];rfl
theorem af1 (t x l h m):iy P T ⟨d,.slice t x l h m,ty,pos,af,gd⟩ recs K L st=gv (true) (reach st.h gu (AV.names.go ((#[x]++l.toArray++h.toArray++m.toArray).toList.map (eu L))) []) ⟨d,.slice t x l h m,ty,pos,af,gd⟩ recs K L st (mono (F4 P (eg ⟨d,.slice t x l h m,ty,pos,af,gd⟩ L) ⟨d,.slice t x l h m,ty,pos,af,gd⟩ t x l h m)):=by
 unfold iy mq n7 gv;simp only [kp,cond_false];have hm:∀ y,y ∈ ((#[x]++l.toArray++h.toArray++m.toArray).toList:List Operand)->eg ⟨d,.slice t x l h m,ty,pos,af,gd⟩ L y=eu L y:=fun y hy=>ga (by simpa [Op.operands,Call.operands] using hy)
 have hmap:((#[x]++l.toArray++h.toArray++m.toArray).toList:List Operand).map (eg ⟨d,.slice t x l h m,ty,pos,af,gd⟩ L)=((#[x]++l.toArray++h.toArray++m.toArray).toList:List Operand).map (eu L):=jj (fun y hy=>by simpa [Op.operands,Call.operands] using hy);have ho:(⟨d,.slice t x l h m,ty,pos,af,gd⟩:Oper).op.operands.toList=(#[x]++l.toArray++h.toArray++m.toArray).toList:=by simp [Op.operands,Call.operands]
 rw [ho,hmap];rfl
theorem aBx (op t x):iy P T ⟨d,.unOp op t x,ty,pos,af,gd⟩ recs K L st=gv (true) (reach st.h gu (AV.names.go ([x].map (eu L))) []) ⟨d,.unOp op t x,ty,pos,af,gd⟩ recs K L st (mono (mo P (eg ⟨d,.unOp op t x,ty,pos,af,gd⟩ L) ⟨d,.unOp op t x,ty,pos,af,gd⟩ [x])):=by
 unfold iy mq n7 gv;simp only [kp,cond_false];have hm:∀ y,y ∈ ([x]:List Operand)->eg ⟨d,.unOp op t x,ty,pos,af,gd⟩ L y=eu L y:=fun y hy=>ga (by simpa [Op.operands,Call.operands] using hy)
 have hmap:([x]:List Operand).map (eg ⟨d,.unOp op t x,ty,pos,af,gd⟩ L)=([x]:List Operand).map (eu L):=jj (fun y hy=>by simpa [Op.operands,Call.operands] using hy);have ho:(⟨d,.unOp op t x,ty,pos,af,gd⟩:Oper).op.operands.toList=[x]:=by simp [Op.operands,Call.operands]
 rw [ho,hmap];rfl
theorem ap7 (x ts):iy P T ⟨d,.call { callee:=.builtin .len,args:=#[x],argTypes:=ts },ty,pos,af,gd⟩ recs K L st=gv (true) ([]) ⟨d,.call { callee:=.builtin .len,args:=#[x],argTypes:=ts },ty,pos,af,gd⟩ recs K L st (mono (Ar ((ts[0]?).bind P.underlying) (eu L x))):=by
 unfold iy mq n7 gv;simp only [kp,cond_true];have hm:∀ y,y ∈ ([x]:List Operand)->eg ⟨d,.call { callee:=.builtin .len,args:=#[x],argTypes:=ts },ty,pos,af,gd⟩ L y=eu L y:=fun y hy=>ga (by simpa [Op.operands,Call.operands] using hy)
 have hmap:([x]:List Operand).map (eg ⟨d,.call { callee:=.builtin .len,args:=#[x],argTypes:=ts },ty,pos,af,gd⟩ L)=([x]:List Operand).map (eu L):=jj (fun y hy=>by simpa [Op.operands,Call.operands] using hy);have ho:(⟨d,.call { callee:=.builtin .len,args:=#[x],argTypes:=ts },ty,pos,af,gd⟩:Oper).op.operands.toList=[x]:=by simp [Op.operands,Call.operands]
 rw [Qw,hm x (by simp)];rfl
theorem aa8 (s x ts):iy P T ⟨d,.call { callee:=.builtin .append,args:=#[s,x],argTypes:=ts },ty,pos,af,gd⟩ recs K L st=gv (false) (reach st.h gu (AV.names.go ([s,x].map (eu L))) []) ⟨d,.call { callee:=.builtin .append,args:=#[s,x],argTypes:=ts },ty,pos,af,gd⟩ recs K L st (mono (vi P ts[0]? ((ts[1]?).bind P.underlying) (eu L s) (eu L x))):=by
 unfold iy mq n7 gv;simp only [kp,cond_false];have hm:∀ y,y ∈ ([s,x]:List Operand)->eg ⟨d,.call { callee:=.builtin .append,args:=#[s,x],argTypes:=ts },ty,pos,af,gd⟩ L y=eu L y:=fun y hy=>ga (by simpa [Op.operands,Call.operands] using hy)
 have hmap:([s,x]:List Operand).map (eg ⟨d,.call { callee:=.builtin .append,args:=#[s,x],argTypes:=ts },ty,pos,af,gd⟩ L)=([s,x]:List Operand).map (eu L):=jj (fun y hy=>by simpa [Op.operands,Call.operands] using hy);have ho:(⟨d,.call { callee:=.builtin .append,args:=#[s,x],argTypes:=ts },ty,pos,af,gd⟩:Oper).op.operands.toList=[s,x]:=by simp [Op.operands,Call.operands]
 rw [ho,hmap];rw [Jo,hm s (by simp),hm x (by simp)];rfl
theorem aip (f args ts):iy P T ⟨d,.call { callee:=.value f,args,argTypes:=ts },ty,pos,af,gd⟩ recs K L st=gv (tn T (eu L) ⟨d,.call { callee:=.value f,args,argTypes:=ts },ty,pos,af,gd⟩) (reach st.h gu (AV.names.go ((f::args.toList).map (eu L))) []) ⟨d,.call { callee:=.value f,args,argTypes:=ts },ty,pos,af,gd⟩ recs K L st (Bs T (eu L f) (args.toList.map (eu L))):=by
 unfold iy mq n7 gv;simp only [kp,cond_false];have h1:⟨d,.call { callee:=.value f,args,argTypes:=ts },ty,pos,af,gd⟩=(⟨d,.call { callee:=.value f,args,argTypes:=ts },ty,pos,af,gd⟩:Oper):=rfl;have hf:eg ⟨d,.call { callee:=.value f,args,argTypes:=ts },ty,pos,af,gd⟩ L f=eu L f:=ga (by simp [Op.operands,Call.operands]);have ha:args.toList.map (eg ⟨d,.call { callee:=.value f,args,argTypes:=ts },ty,pos,af,gd⟩ L)=args.toList.map (eu L):=jj (fun x hx=>by simp [Op.operands,Call.operands];exact .inr (by simpa using hx));have hr:tn T (eg ⟨d,.call { callee:=.value f,args,argTypes:=ts },ty,pos,af,gd⟩ L) ⟨d,.call { callee:=.value f,args,argTypes:=ts },ty,pos,af,gd⟩=tn T (eu L) ⟨d,.call { callee:=.value f,args,argTypes:=ts },ty,pos,af,gd⟩:=by simp only [tn,hf]
 have ho:(⟨d,.call { callee:=.value f,args,argTypes:=ts },ty,pos,af,gd⟩:Oper).op.operands.toList.map (eg ⟨d,.call { callee:=.value f,args,argTypes:=ts },ty,pos,af,gd⟩ L)=(f::args.toList).map (eu L):=by show ((#[f]++args).toList).map _=_;simp only [Array.toList_append,zzw,ha,List.map_cons,hf];rfl
 rw [hr,ho];show Jl _ _ _ _ _ _ _ (Bs T (eg _ L f) (args.toList.map (eg _ L)) _)=_;rw [hf,ha]
theorem A6 (f args ts g a b) (h:eu L f = .fn (.func g) a b):tn T (eu L) ⟨d,.call { callee:=.value f,args,argTypes:=ts },ty,pos,af,gd⟩=roT (T.find g):=by simp only [tn,h];rfl
theorem Vr (n args ts):tn T (eu L) ⟨d,.call { callee:=.value (.func n),args,argTypes:=ts },ty,pos,af,gd⟩=roT (T.find n):=by simp only [tn,eu];rfl
end ops
theorem af3 (P T ops K L st):I1 P T ops true K L st=(Tp ops=true/\(Jx P T ops ops.toList K [] L st\/Sn P T ops ops.toList K [] L st)):=id rfl
theorem aer (n):K8 n []=true:=id rfl
theorem Zf (n o r):K8 n (o::r)=(Nat.blt o n && K8 n r):=id rfl
theorem ali (h h'):same h h' []=True:=id rfl
theorem afn (h h' o r):same h h' (o::r)=(h.get o=h'.get o/\same h h' r):=id rfl
theorem adf (h):vr h [] = .nil:=id rfl
theorem Xz (h o r):vr h (o::r)=Tr.set depth (vr h r) o (h.get o):=id rfl
theorem Zd (h1 h):zz h1 [] h=h:=id rfl
theorem Vh (h1 o r h):zz h1 (o::r) h=Tr.set depth (zz h1 r h) o (h1.get o):=id rfl
theorem aex (t ts v vs):fm (t::ts) (v::vs)=(t,v)::fm ts vs:=id rfl
theorem af9 (P T f ps A B p Q L0 st0):aze P T f ps A B p Q L0 st0=(Nat.ble p 1000=true/\Rk P T ps A B p Q L0 st0 (Nt (eu L0 f))):=id rfl
theorem al1 (P T ps A B p Q L0 st0 g bW):Rk P T ps A B p Q L0 st0 (some (g,bW))=S3 P T ps A B p Q L0 st0 bW (Gs P g):=id rfl
theorem alk (P T ps A B p Q L0 st0 bW nt code):S3 P T ps A B p Q L0 st0 bW (some (nt,code))=(Nat.ble (bW.length+1) nt=true/\∀ l:Nat,ui P T l (sm ps A B L0) p code (amf Q L0) none (cj 0 (.sc (.func (.yield l) #[] #[])::bW)) st0):=id rfl
theorem ae2 (g c):Nt (.fn (.func g) [] c)=some (g,c):=id rfl
theorem Li {P:Program} {T:fp} {l:Nat} {bg:Nat} {L:SL} {st:St} {Q:QI} {ps:List Tmp} {ra rb:Code} {L0:SL} {α:Type} {b:Code} (keep:List Nat) (V : α->List AV) (O : α->List (Option bk)) (I : α->Prop) (μ : α->Nat) (x : α) (hx:I x)
 (hv:dq bg keep L st=V x) (ho:gk bg keep L st=O x)
 (step:∀ x,I x->ui P T l (sm ps (fun p=>wl P T p ra) (fun p=>wl P T p rb) L0) bg b (Ew (ou bg keep (fun vs os=>∃ y,I y /\ μ y < μ x/\vs=V y/\os=O y) (fun _ _ _=>False)) Q) none (fm keep (V x)) (ay (O x))):ui P T l (sm ps (fun p=>wl P T p ra) (fun p=>wl P T p rb) L0) bg (.loop b) Q none L st:=
 aCc (keep:=keep) (V:=V) (O:=O) (I:=I) (μ:=μ) (x:=x) (hx:=hx) (hR:=Vd P T) (hv:=hv) (ho:=ho) (step:=step)
theorem E2 {P:Program} {T:fp} {R:My} {bg:Nat} {L:SL} {st:St} {o:Oper} {K:Option Ex->SL->St->Prop} {args:Array Operand} (keep:List Nat) (h:E6 R (gk bg keep L st).length args o.dst K (fm keep (dq bg keep L st)) (ay (gk bg keep L st))):acm P T R bg o K none L st (some args):=⟨rfl,keep,h⟩
theorem Nh (P:Program):∀ s:Sem Value,ev P (do pure (Next.value (<- s)))=(ev P s).map Next.value:=by
 intro s
 induction s with
 |pure b=>rfl
 |program k ih=>exact ih P
 |choose q k ih=>
  simp only [bind,Sem.bind,ev]
  split
  ·exact ih 0
  ·rfl
 |mark m k ih=>exact ih
 |_=>rfl
def ak8 (m:M AV):M AV:=m
def ajb (a:AV) (m:M AV):M AV:=
 match a.bool with
 |some b=>M.pure (.sc (.bool (!b)))
 |none=>m
theorem av0 (b:Bool) (m:M AV):ajb (.sc (.bool b)) m=M.pure (.sc (.bool (!b))):=id rfl
theorem aGd {a:AV} {b:Bool} (h:a.bool=some b):a = .sc (.bool b):=by
 unfold AV.bool AV.exact ti at h;cases a with
 |sc v=>cases v<;>simp at h;rw [h]
 |_=>cases h
theorem aaf (P:Program) (ρ:Operand->AV) (d ty pos af gd) (t:TypeId) (x:Operand):mo P ρ ⟨d,.unOp .not t x,ty,pos,af,gd⟩ [x]=ajb (ρ x) (ak8 (mo P ρ ⟨d,.unOp .not t x,ty,pos,af,gd⟩ [x])):=by
 unfold ajb
 split
 ·rename_i b hb;have hx:=aGd hb;have h2:execOp (fun z=>((ρ z).jr).getD undef) ⟨d,.unOp .not t x,ty,pos,af,gd⟩=(do pure (Next.value (<- Op.unary .not (.bool b)))):=by
   simp only [execOp,hx,AV.jr,Option.getD_some]
  unfold mo oc vu;simp only [List.all_cons,List.all_nil,hx,AV.jr,Option.isSome_some,Bool.and_true,cond_true];rw [h2,Nh];rfl
 ·rfl
theorem ad9 (P:Program) (T:fp) (ρ:Operand->AV) (d ty pos af gd) (t:TypeId) (x:Operand):il P T ⟨d,.unOp .not t x,ty,pos,af,gd⟩ ρ=mono (ajb (ρ x) (ak8 (mo P ρ ⟨d,.unOp .not t x,ty,pos,af,gd⟩ [x]))):=by exact congrArg mono (aaf ..)
theorem aqd (P:Program) (T:fp) (L:SL) (st:St) (recs:List Rec) (K:List Rec->SL->St->Prop) (d ty pos af gd) (t x):iy P T ⟨d,.unOp .not t x,ty,pos,af,gd⟩ recs K L st=gv true (reach st.h gu (AV.names.go ([x].map (eu L))) []) ⟨d,.unOp .not t x,ty,pos,af,gd⟩ recs K L st (mono (ajb (eu L x) (ak8 (mo P (eg ⟨d,.unOp .not t x,ty,pos,af,gd⟩ L) ⟨d,.unOp .not t x,ty,pos,af,gd⟩ [x])))):=by rw [aBx];have h:=aaf P (eg ⟨d,.unOp .not t x,ty,pos,af,gd⟩ L) d ty pos af gd t x;rw [ga (by simp [Op.operands])] at h;rw [<- h]
theorem Xl (l:List UInt8):bytesOf (l.map Fa)=some l:=by rw [Ki,Ce]
theorem Wo (a b:ByteArray):Cx.oh [.sc (.string a),.sc (.string b)]=M.pure (.sc (goInt (Lib.compareBytes a.data.toList b.data.toList))):=by unfold Cx.oh cellsIn;simp only [Nat.beq_refl,cond_true];unfold M.bind M.pure;simp only [Xl];rfl
theorem Ux {α:Type} (C:er α) (f:Bool) (h:C.sz=1) (ha:C.agg=false) (l:List α):(l.map (C.val f)).flatMap AV.cells=l.map (C.val f):=by
 induction l with
 |nil=>rfl
 |cons x l ih=>
  simp only [List.map_cons,List.flatMap_cons,ih];obtain ⟨c,h1,h2,_⟩:=C.one ha f x;have:C.val f x=c:=by simp [er.val,ha,h1]
  rw [this,h2];rfl
theorem Vt (f g:Bool) (a b:List UInt8):Cx.oh [.vl f 1 (a.map (bt.val f)),.vl g 1 (b.map (bt.val g))]=M.pure (.sc (goInt (Lib.compareBytes a b))):=by unfold Cx.oh cellsIn;simp only [Nat.beq_refl,cond_true,Ux bt _ rfl rfl];unfold M.bind M.pure;simp only [Ce];rfl
theorem Vy {L:SL} {d ty pos af gd} {op t u x y}:eg ⟨d,.binOp op t x y u,ty,pos,af,gd⟩ L x=eu L x:=ga (by simp [Op.operands])
theorem Wl {L:SL} {d ty pos af gd} {op t u x y}:eg ⟨d,.binOp op t x y u,ty,pos,af,gd⟩ L y=eu L y:=ga (by simp [Op.operands])
theorem U5 {L:SL} {d ty pos af gd} {i t x}:eg ⟨d,.index t x i,ty,pos,af,gd⟩ L x=eu L x:=ga (by simp [Op.operands])
theorem Vi {L:SL} {d ty pos af gd} {i t x}:eg ⟨d,.index t x i,ty,pos,af,gd⟩ L i=eu L i:=ga (by simp [Op.operands])
theorem Z1 {L:SL} {d ty pos af gd} {h l m t x}:eg ⟨d,.slice t x l h m,ty,pos,af,gd⟩ L x=eu L x:=ga (by simp [Op.operands])
theorem X6 {L:SL} {d ty pos af gd} {h l m t x}:eg ⟨d,.slice t x l (some h) m,ty,pos,af,gd⟩ L h=eu L h:=ga (by simp [Op.operands])
def C3 (P:Program) (ρ:Operand->AV) (o:Oper) (l:List Operand):M AV:=mo P ρ o l
def amo (u:Option TypeDesc) (a ix:AV) (m:M AV):M AV:=
 match u with
 |some .string=>
  match a with
  |.sc (.string s)=>
   match ix with
   |.sc (.int _ n)=>
    match (bif decide (0<=n) then s.data.toList[n.toNat]? else none) with
    |some b=>M.pure (.sc (.int .u8 b.toNat))
    |none=>m
   |_=>m
  |_=>m
 |_=>m
theorem aky (s:ByteArray) (k:IntKind) (n:Int) (m:M AV):amo (some .string) (.sc (.string s)) (.sc (.int k n)) m=match (bif decide (0<=n) then s.data.toList[n.toNat]? else none) with|some b=>M.pure (.sc (.int .u8 b.toNat))|none=>m:=id rfl
theorem Q8 (P:Program) (ρ:Operand->AV) (d ty pos af gd) (t:TypeId) (x i:Operand):mo P ρ ⟨d,.index t x i,ty,pos,af,gd⟩ [x,i]=amo (P.underlying t) (ρ x) (ρ i) (C3 P ρ ⟨d,.index t x i,ty,pos,af,gd⟩ [x,i]):=by
 unfold amo
 split
 ·rename_i hu
  split
  ·rename_i s hx
   split
   ·rename_i k n hi
    split
    ·rename_i b hb;cases h0:decide (0<=n) with
     |false=>rw [h0] at hb;cases hb
     |true=>
     rw [h0,cond_true] at hb;have h0 : 0<=n:=by simpa using h0
     have hb':s[n.toNat]? = some b:=by obtain ⟨h1,h2⟩:=zg.1 hb;simp at h1;rw [getElem?_pos s n.toNat (by simpa using h1)];rw [<- h2];rfl
     have h2:execOp (fun z=>((ρ z).jr).getD undef) ⟨d,.index t x i,ty,pos,af,gd⟩=(do pure (Next.value (<- Instr.index t (.string s) (.int k n)))):=by simp only [execOp,hx,hi,AV.jr,Option.getD_some]
     unfold mo oc vu;simp only [List.all_cons,List.all_nil,hx,hi,AV.jr,Option.isSome_some,Bool.and_true,cond_true];rw [h2,Nh];have h3:ev P (Instr.index t (.string s) (.int k n))=some (.int .u8 b.toNat):=by simp [Instr.index,asIntOf,underlying,program,ev,hu,h0,hb',bind,Sem.bind,pure]
     rw [h3];rfl
    ·rfl
   ·rfl
  ·rfl
 ·rfl
theorem Ou (a n:Nat):(a:Int).fdiv (n:Int)=((a / n:Nat):Int):=by rw [Int.fdiv_eq_ediv_of_nonneg _ zO];rfl
theorem aIj (a:Nat):(a:Int).fdiv 2=((a / 2:Nat):Int):=Ou a 2
theorem aih (a:Nat):(a:Int).fdiv 256=((a / 256:Nat):Int):=Ou a 256
theorem aaa (a:Nat):(a:Int).fdiv 65536=((a / 65536:Nat):Int):=Ou a 65536
theorem Qb (a:Nat):(a:Int).fdiv 16777216=((a / 16777216:Nat):Int):=Ou a 16777216
theorem ahm (f:Nat) (m) (T:fp):fp.find ((f,m)::T) f=some m:=by simp [fp.find]
theorem adq (f g:Nat) (m) (T:fp) (h:(f == g)=false):fp.find ((f,m)::T) g=fp.find T g:=by
 have e:f≠g:=by simpa using h
 simp [fp.find,uk e]
end
end Go.Vm
end
namespace Go.Vm
variable [TK]
noncomputable section
def Dy (P:Program) (t:TypeId):Option (Nat × Nat × Nat):=
 match tc P t with
 |some e=>
  match fc P e,mu P e,ic P e with
  |some sz,some bytes,some z=>bif Nat.blt 0 sz && Nat.blt 0 bytes && Nat.beq z.cells.size sz then some (e,sz,bytes) else none
  |_,_,_=>none
 |none=>none
def ai2 (q:Option (Nat × Nat × Nat)) (s x:AV):M AV:=
 match q with
 |some (e,sz,bytes)=>(cellsIn sz x).bind (xq e sz bytes s)
 |none=>M.fail
theorem ay9 (e sz bytes s x):ai2 (some (e,sz,bytes)) s x=(cellsIn sz x).bind (xq e sz bytes s):=id rfl
theorem Ye (P:Program) (t e:TypeId) (s x:AV):vi P (some t) (some (.slice e)) s x=ai2 (Dy P t) s x:=by
 unfold vi ai2 Dy;simp only [Option.bind_some];cases tc P t with
 |none=>rfl
 |some e=>
  simp only;cases fc P e with
  |none=>rfl
  |some sz=>
   cases mu P e with
   |none=>rfl
   |some bytes=>
    cases ic P e with
    |none=>rfl
    |some z=>
     simp only;cases (Nat.blt 0 sz && Nat.blt 0 bytes && Nat.beq z.cells.size sz)<;>rfl
theorem Z6 (P:Program) (t:TypeId) (s x:AV):vi P (some t) (some .string) s x=ai2 (Dy P t) s x:=by
 unfold vi ai2 Dy;simp only [Option.bind_some];cases tc P t with
 |none=>rfl
 |some e=>
  simp only;cases fc P e with
  |none=>rfl
  |some sz=>
   cases mu P e with
   |none=>rfl
   |some bytes=>
    cases ic P e with
    |none=>rfl
    |some z=>
     simp only;cases (Nat.blt 0 sz && Nat.blt 0 bytes && Nat.beq z.cells.size sz)<;>rfl
theorem Wi (e sz bytes new):xq e sz bytes (.sc (.slice none 0 0)) new=bif new.isEmpty then M.pure (.sc (.slice none 0 0)) else bif Nat.ble (new.length * bytes) 140737488355328 then yz e sz (new.length / sz) new else M.fail:=id rfl
theorem Yj (e sz bytes o off len bQ new):xq e sz bytes (.sl o off len bQ) new=bif Nat.beq sz bQ then (fk o).bind (Lw e sz bytes o off len new) else M.fail:=id rfl
theorem Va (e sz bytes o off len new cells k st et):Lw e sz bytes o off len new (.row cells k st et)=(bif Nat.beq et e && new.all AV.one && Nat.ble (off+len * sz) cells.length && Nat.ble ((len * sz+new.length) * bytes) 140737488355328 then
 bif Nat.ble k (off+len * sz) then
  (Oi o).bind fun _=>(lq (.row ((cells.take (off+len * sz)).drop off++new) (k - off) (sg (pw off (len * sz) cells.length) st) et)).bind fun id=>M.pure (.sl id 0 (len+new.length / sz) sz)
 else bif new.isEmpty then M.pure (.sl o off len sz)
 else M.fail
 else M.fail):=id rfl
theorem aD9:sg true 0=0:=id rfl
theorem aq8 (n):pw 0 n n=true:=by simp [pw]
theorem arj (n m):pw 0 n m=Nat.beq n m:=id rfl
def cellsOf {α:Type} (C:er α) (f:Bool) (xs:List α):List AV:=xs.flatMap (C.cells f)
theorem U9 {α:Type} (C:er α) (f):cellsOf C f []=[]:=id rfl
theorem jq {α:Type} (C:er α) (f) (xs:List α):(cellsOf C f xs).length=xs.length * C.sz:=by
 induction xs with
 |nil=>simp [cellsOf]
 |cons x xs ih=>
  simp only [cellsOf] at ih;simp [cellsOf,C.len,ih,Nat.succ_mul];omega
theorem uy {α:Type} (C:er α) (f) (xs ys:List α):cellsOf C f (xs++ys)=cellsOf C f xs++cellsOf C f ys:=by simp [cellsOf]
theorem xd {α:Type} (C:er α) (f) (x : α):cellsOf C f [x]=C.cells f x:=by simp [cellsOf]
theorem B8 {α:Type} (C:er α) (f) (xs:List α):(cellsOf C f xs).all AV.one=true:=by rw [zz9];intro c hc;obtain ⟨x,_,hx⟩:=List.mem_flatMap.1 hc;exact (C.pl f x c hx).one
theorem Qd {α:Type} (C:er α) (f) (xs:List α):AV.names.go (cellsOf C f xs)=[]:=Mp (fun c hc=>by obtain ⟨x,_,hx⟩:=List.mem_flatMap.1 hc;exact (C.pl f x c hx).names)
theorem Mg {α:Type} (C:er α) (τ) (f) (xs:List α):(cellsOf C f xs).map (AV.cx τ)=cellsOf C f xs:=by
 rw [<- kr];exact W2 (fun c hc=>by obtain ⟨x,_,hx⟩:=List.mem_flatMap.1 hc;exact (C.pl f x c hx).cx τ)
theorem oq {α:Type} (C:er α) (τ) (f) (xs:List α):AV.cx.go τ (cellsOf C f xs)=cellsOf C f xs:=by rw [kr,Mg]
theorem Eg {α:Type} (C:er α) (f) (xs:List α) (i:Nat):(cellsOf C f xs).drop (i * C.sz)=cellsOf C f (xs.drop i):=by
 induction xs generalizing i with
 |nil=>simp [cellsOf]
 |cons x xs ih=>
  cases i with
  |zero=>simp
  |succ i=>
   have:(i+1) * C.sz=C.sz+i * C.sz:=by rw [Nat.succ_mul];omega
   rw [this,<- List.drop_drop];have h1:(cellsOf C f (x::xs)).drop C.sz=cellsOf C f xs:=by
    have h2:cellsOf C f (x::xs)=C.cells f x++cellsOf C f xs:=by simp [cellsOf]
    rw [h2,<- C.len f x,List.drop_left]
   rw [h1,ih,List.drop_succ_cons]
theorem Jw {α:Type} (C:er α) (f) (xs:List α) (i:Nat):(cellsOf C f xs).take (i * C.sz)=cellsOf C f (xs.take i):=by
 induction xs generalizing i with
 |nil=>simp [cellsOf]
 |cons x xs ih=>
  cases i with
  |zero=>simp [cellsOf]
  |succ i=>
   have h2:cellsOf C f (x::xs)=C.cells f x++cellsOf C f xs:=by simp [cellsOf]
   have:(i+1) * C.sz=(C.cells f x).length+i * C.sz:=by rw [Nat.succ_mul,C.len];omega
   rw [h2,this,List.take_length_add_append,ih,List.take_succ_cons];simp [cellsOf]
theorem Ey {α:Type} (C:er α) (f) (x : α) (xs:List α):cellsOf C f (x::xs)=C.cells f x++cellsOf C f xs:=by simp [cellsOf]
theorem F9 {α:Type} {xs:List α} {i:Nat} {x : α} (h:xs[i]? = some x):xs.drop i=x::xs.drop (i+1):=by obtain ⟨h1,h2⟩:=zg.1 h;rw [<- h2];exact zzs h1
theorem O6 {α:Type} (C:er α) (f) (xs:List α):(xs.map (C.val f)).flatMap AV.cells=cellsOf C f xs:=by rw [List.flatMap_map];congr 1;funext x;exact C.Dl f x
def yc (fr:Bool) (st sz:Nat) (kd:LK) (et:TypeId):Bool:=!fr || (Nat.beq st 0 && Ro sz kd et)
theorem aEj (st sz kd et):yc false st sz kd et=true:=id rfl
theorem aD4 (sz kd et):yc true 0 sz kd et=Ro sz kd et:=id rfl
theorem acr {fr:Bool} {st n sz:Nat} {kd:LK} {et:TypeId} (h:yc fr st sz kd et=true):Ck fr sz kd st 0 (n * sz) n et=true:=by
 cases fr with
 |false=>rfl
 |true=>
  simp only [yc,Bool.not_true,Bool.false_or,zzh] at h;simp [Ck,h.1,h.2]
theorem jy {α:Type} (C:er α) (fr:Bool) (h:Tr bk) (f:Bool) (xs:List α) (k st et) (n:Nat) (hn:n=xs.length) (hf:(f || !fr)=true) (hro:yc fr st C.sz C.kd et=true):lg C fr h 0 n (.row (cellsOf C f xs) k st et)=some xs:=by subst hn;simp only [lg,Nat.zero_add,jq,Nat.ble_self_eq_true,Bool.true_and,acr hro,cond_true,List.drop_zero];have:(cellsOf C f xs).take (xs.length * C.sz)=cellsOf C f xs:=zzp (by rw [jq];exact zza _);rw [this];exact af4 C fr h f (fun e=>by subst e;simpa using hf) xs
theorem Yq {α:Type} (C:er α) (fr h k st et) (hro:yc fr st C.sz C.kd et=true):lg C fr h 0 0 (.row [] k st et)=some []:=by
 have h0:Ck fr C.sz C.kd st 0 0 0 et=true:=by have:=acr (n:=0) hro;rwa [Nat.zero_mul] at this
 have h1:Nat.ble 0 0=true:=rfl;simp [lg,B3,h0,h1]
def vo {α:Type} (C:er α) (fr:Bool) (h:Tr bk):List AV->Option (List α)
 | []=>some []
 |a::l=>match C.dec fr h [a],vo C fr h l with
  |some x,some xs=>some (x::xs)
  |_,_=>none
def aI3 {α:Type} (a b:Option (List α)):Option (List α):=match a,b with|some x,some y=>some (x++y)|_,_=>none
def aD2 {α:Type} (a:Option α) (b:Option (List α)):Option (List α):=match a,b with|some x,some y=>some (x::y)|_,_=>none
theorem ayx {α:Type} (a b:List α):aI3 (some a) (some b)=some (a++b):=id rfl
theorem ars {α:Type} (a : α) (b:List α):aD2 (some a) (some b)=some (a::b):=id rfl
theorem W5 {α:Type} (C:er α) (fr h):vo C fr h []=some []:=id rfl
theorem Lx {α:Type} (C:er α) (fr h a l):vo C fr h (a::l)=aD2 (C.dec fr h [a]) (vo C fr h l):=id rfl
theorem Xh {α:Type} (C:er α) (fr h):∀ a b,vo C fr h (a++b)=aI3 (vo C fr h a) (vo C fr h b)
 | [],b=>by simp only [List.nil_append,W5];cases vo C fr h b<;>rfl
 |x::a,b=>by simp only [List.cons_append,Lx,Xh C fr h a b];cases C.dec fr h [x]<;>cases vo C fr h a<;>cases vo C fr h b<;>rfl
theorem ajf {α:Type} (C:er α) (hz:C.sz=1) (fr h):∀ cells:List AV,B3 C fr h cells.length cells=vo C fr h cells
 | []=>rfl
 |a::l=>by
  have h1:(a::l).take C.sz=[a]:=by rw [hz];rfl
  have h2:(a::l).drop C.sz=l:=by rw [hz];rfl
  simp only [List.length_cons,B3,h1,h2,ajf C hz fr h l];rfl
theorem Bk {α:Type} (C:er α) (hz:C.sz=1) (fr h n cells k st et) (hn:n=cells.length) (hro:yc fr st 1 C.kd et=true):lg C fr h 0 n (.row cells k st et)=vo C fr h cells:=by
 subst hn;have h0:Ck fr 1 C.kd st 0 cells.length cells.length et=true:=by have:=acr (n:=cells.length) hro;rwa [Nat.mul_one] at this
 simp only [lg,hz,Nat.mul_one,Nat.zero_add,Nat.ble_self_eq_true,Bool.true_and,h0,cond_true,List.drop_zero,zz7];exact ajf C hz fr h cells
theorem Jf {α:Type} (C:er α) (hz:C.sz=1) (ha:C.agg=false) (fr h f) (hf:fr=true->f=true):∀ l:List α,vo C fr h (l.map (C.val f))=some l
 | []=>rfl
 |x::l=>by
  obtain ⟨c,h1,_⟩:=C.one ha f x;have hv:C.val f x=c:=by simp [er.val,ha,h1]
  have hd:=C.rt fr h f x hf;rw [h1] at hd;rw [List.map_cons,Lx,Jf C hz ha fr h f hf l,hv,hd];rfl
theorem aly {α β:Type} (f : α -> β) (l:List α) (n:Nat):(l.map f).take n=(l.take n).map f:=List.map_take.symm
theorem ak6 {α β:Type} (f : α -> β) (l:List α) (n:Nat):(l.map f).drop n=(l.drop n).map f:=List.map_drop.symm
theorem Jp {α β:Type} (f : α -> β) (l:List α):(l.map f).isEmpty=l.isEmpty:=by cases l<;>rfl
theorem Kt {α:Type} (l:List α) (x : α):(l++[x]).isEmpty=false:=by cases l<;>rfl
theorem Nf (a b:List AV):AV.names.go (a++b)=AV.names.go a++AV.names.go b:=by
 induction a with
 |nil=>rfl
 |cons x a ih=>simp only [List.cons_append,AV.names.go,ih,zzc]
theorem rtT {α:Type} (C:er α) (h:Tr bk) (x : α):C.j9 true h (C.val true x)=some x:=C.Pz true h true x (fun _=>rfl)
theorem rtF {α:Type} (C:er α) (h:Tr bk) (l:Bool) (x : α):C.j9 false h (C.val l x)=some x:=C.Pz false h l x (fun e=>by cases e)
theorem amr (s:ByteArray):s.data.toList.length=s.size:=by simp
theorem ar9 {α:Type} {l:List α} {n:Nat} (h:l.length<=n):l.take n=l:=zzp h
theorem aIn {α:Type} (C:er α) (fr:Bool) (h:Tr bk) (x : α):C.j9 fr h (C.val fr x)=some x:=C.Pz fr h fr x (fun e=>e)
theorem bb {a b:Nat} (h:a<=b):decide (a<=b)=true:=by simpa using h
theorem be {a b:Nat} (h:a<b):decide (a<b)=true:=by simpa using h
theorem bc {a b:Int} (h:a<=b):decide (a<=b)=true:=by simpa using h
theorem ba {a b:Int} (h:a<b):decide (a<b)=true:=by simpa using h
theorem ag (x:Int) (h0 : -9223372036854775808<=x) (h1:x<9223372036854775808):IntKind.i64.wrap x=x:=by simp [IntKind.wrap,IntKind.bits,IntKind.signed];omega
theorem zW:type_of% @ag/\type_of% @bb/\type_of% @be/\type_of% @bc/\type_of% @ba:=⟨@ag,@bb,@be,@bc,@ba⟩
theorem aw8 (n:Nat):IntKind.u8.wrap (n:Int)=((UInt8.ofNat n).toNat:Int):=by simp [IntKind.wrap,IntKind.bits,IntKind.signed]
theorem az {p:Prop} [Decidable p] {X Y:SL->St->Prop} {L st}:Ao (.sc (.bool (decide p))) X Y L st=((p->X L st)/\(¬ p->Y L st)):=by by_cases h:p<;>simp [h,Mu,Nw]
theorem cp {a b:Int} {X Y:SL->St->Prop} {L st}:Ao (.sc (.bool (a == b))) X Y L st=(((a == b)=true/\a=b->X L st)/\((a == b)=false/\a≠b->Y L st)):=by
 by_cases h:a=b
 ·subst h;simp [Mu]
 ·have:(a == b)=false:=by simpa using h
  simp [h,this,Nw]
theorem de {a b:Int} {X Y:SL->St->Prop} {L st}:Ao (.sc (.bool (a != b))) X Y L st=(((a != b)=true/\a≠b->X L st)/\((a != b)=false/\a=b->Y L st)):=by
 by_cases h:a=b
 ·subst h;simp [Nw]
 ·have:(a != b)=true:=by simpa using h
  simp [h,this,Mu]
theorem adk (P:Program) (T:fp) (ρ:Operand->AV) (d ty pos af gd) (x ts):il P T ⟨d,.call { callee:=.builtin .cap,args:=#[x],argTypes:=ts },ty,pos,af,gd⟩ ρ=mono (Pr ((ts[0]?).bind P.underlying) (ρ x)):=id rfl
theorem ae7 (e a n c):Pr (some (.slice e)) (.sc (.slice a n c))=M.pure (.sc (goInt c)):=id rfl
def aA3 (P:Program) (q:Option (Nat × Nat × Nat)) (s x:AV):M AV:=
 match q with
 |some (e,sz,bytes)=>
  match Jc P e sz x with
  |some new=>xq e sz bytes s new
  |none=>M.fail
 |none=>M.fail
theorem axt (P:Program) (e sz bytes s x):aA3 P (some (e,sz,bytes)) s x=match Jc P e sz x with|some new=>xq e sz bytes s new|none=>M.fail:=id rfl
theorem Yy (P:Program) (t:TypeId) (k:IntKind) (s x:AV):vi P (some t) (some (.int k)) s x=aA3 P (Dy P t) s x:=by
 unfold vi aA3 Dy;simp only [Option.bind_some];cases tc P t with
 |none=>rfl
 |some e=>
  simp only;cases fc P e with
  |none=>rfl
  |some sz=>
   cases mu P e with
   |none=>rfl
   |some bytes=>
    cases ic P e with
    |none=>rfl
    |some z=>
     simp only;cases (Nat.blt 0 sz && Nat.blt 0 bytes && Nat.beq z.cells.size sz)<;>rfl
def ani (z:Option Value) (sz:Nat) (n:Int):Option (List AV):=
 match z with
 |some z=>bif decide (0<=n) && decide (n<=1073741824) && Nat.beq z.cells.size sz then some ((List.replicate n.toNat (z.cells.toList.map AV.sc)).flatten) else none
 |none=>none
theorem amt (z sz n):ani (some z) sz n=bif decide (0<=n) && decide (n<=1073741824) && Nat.beq z.cells.size sz then some ((List.replicate n.toNat (z.cells.toList.map AV.sc)).flatten) else none:=id rfl
theorem aff (P:Program) (e sz:Nat) (k:IntKind) (n:Int):Jc P e sz (.sc (.int k n))=ani (ic P e) sz n:=by simp only [Jc,ani,yh,AV.int,AV.exact,Option.bind_some,intOf,Option.map_some];cases ic P e<;>rfl
theorem aru {α:Type} (n:Nat) (x : α):(List.replicate n [x]).flatten=List.replicate n x:=by
 induction n with
 |zero=>rfl
 |succ n ih=>simp [List.replicate_succ,ih]
theorem Wq {α:Type} {n:Nat} {x : α} (h : 0<n):(List.replicate n x).isEmpty=false:=by
 cases n with
 |zero=>omega
 |succ n=>rfl
theorem nc0:((0:Nat):Int)=0:=id rfl
theorem nc1:((1:Nat):Int)=1:=id rfl
theorem av9 (n:Nat):List.replicate n (AV.sc (.int .u8 0))=(List.replicate n (0:UInt8)).map (bt.val false):=by rw [List.map_replicate];rfl
def auh (P:Program) (u:Option TypeDesc) (x hi:AV) (m:M AV):M AV:=
 match u with
 |some (.slice e)=>
  match fc P e with
  |some _=>
   match x with
   |.sc (.slice none 0 0)=>
    match hi with
    |.sc (.int .i64 0)=>M.pure (.sc (.slice none 0 0))
    |_=>m
   |_=>m
  |none=>m
 |_=>m
theorem ax8 (P:Program) (e m) (h:(fc P e).isSome=true):auh P (some (.slice e)) (.sc (.slice none 0 0)) (.sc (.int .i64 0)) m=M.pure (.sc (.slice none 0 0)):=by obtain ⟨n,hn⟩:=zzv.1 h;simp only [auh,hn]
theorem Lt (P:Program) (ρ:Operand->AV) (d ty pos af gd) (t:TypeId) (x h:Operand):mo P ρ ⟨d,.slice t x none (some h) none,ty,pos,af,gd⟩ (.slice t x none (some h) none:Op).operands.toList=auh P (P.underlying t) (ρ x) (ρ h) (C3 P ρ ⟨d,.slice t x none (some h) none,ty,pos,af,gd⟩ (.slice t x none (some h) none:Op).operands.toList):=by
 unfold auh
 split
 ·rename_i e hu
  split
  ·rename_i n hn
   split
   ·rename_i hx
    split
    ·rename_i hh;have h2:execOp (fun z=>((ρ z).jr).getD undef) ⟨d,.slice t x none (some h) none,ty,pos,af,gd⟩=(do pure (Next.value (<- Instr.sliceAt t (.slice none 0 0) none (some (.int .i64 0)) none))):=by
      simp only [execOp,hx,hh,AV.jr,Option.getD_some,Option.map_some,Option.map_none]
     have hi:∃ i,P.info? e=some i:=by
      unfold fc at hn;cases hq:P.info? e with
      |none=>rw [hq] at hn;cases hn
      |some i=>exact ⟨i,rfl⟩
     obtain ⟨i,hi⟩:=hi;have h3:ev P (Instr.sliceAt t (.slice none 0 0) none (some (.int .i64 0)) none)=some (.slice none 0 0):=by simp [Instr.sliceAt,Instr.slice,Instr.sliceBounds,Instr.sliceBound,asIntOf,underlying,program,ev,hu,sizeOf,typeInfo,hi,bind,Sem.bind,pure]
     unfold mo oc vu;simp only [Op.operands];simp [hx,hh,AV.jr];rw [h2,Nh,h3];rfl
    ·rfl
   ·rfl
  ·rfl
 ·rfl
def aC0 {α:Type} (o sz:Nat) (l:List α):AV:=bif l.isEmpty then .sc (.slice none 0 0) else .sl o 0 l.length sz
def at6 (cells:List AV) (k st:Nat) (et:TypeId):List (Option bk):=bif cells.isEmpty then [] else [some (.row cells k st et)]
theorem axj {α:Type} {o sz} {l:List α} (h:l.isEmpty=false):aC0 o sz l = .sl o 0 l.length sz:=by simp [aC0,h]
theorem aea {α:Type} (o sz) (l:List α) (c : α):aC0 o sz (l++[c]) = .sl o 0 (l.length+1) sz:=by rw [axj (Kt l c)];simp
theorem az7 {cells:List AV} {k st et} (h:cells.isEmpty=false):at6 cells k st et=[some (.row cells k st et)]:=by simp [at6,h]
theorem aC5 {α:Type} {f : α->AV} {l:List α} {k st et} (h:l.isEmpty=false):at6 (l.map f) k st et=[some (.row (l.map f) k st et)]:=az7 (by rw [Jp,h])
theorem ae9 {α:Type} (f : α->AV) (l:List α) (c : α) (k st et):at6 ((l++[c]).map f) k st et=[some (.row (l.map f++[f c]) k st et)]:=by rw [aC5 (Kt l c)];simp
theorem fi {α:Type} {l:List α} {i:Nat} (h:decide ((i:Int)<(l.length:Int))=true):∃ c,l[i]? = some c/\l.drop i=c::l.drop (i+1)/\i<l.length:=by
 have h1:i<l.length:=by simp at h;omega
 exact ⟨l[i],zh h1,zzs h1,h1⟩
theorem gz {α:Type} {l:List α} {i:Nat} (h:decide ((i:Int)<(l.length:Int))=false):l.drop i=[]:=by
 have h1:¬ i<l.length:=by simp at h;omega
 exact zzx zO
def Cg (D:List Nat):Nat->List (Option bk)->List (Option bk)
 |_,[]=>[]
 |i,x::r=>(bif Fu i D then x else none)::Cg D (i+1) r
def Eb (D:List Nat):Nat->List (Option bk)->List (Option bk)
 |_,[]=>[]
 |i,x::r=>(bif Fu i D then none else x)::Eb D (i+1) r
theorem aee (D):∀ (i:Nat) (os:List (Option bk)),(Cg D i os).length=os.length
 |_,[]=>rfl
 |i,x::r=>by simp [Cg,aee D (i+1) r]
theorem S6 (D):∀ (i:Nat) (os:List (Option bk)),(Eb D i os).length=os.length
 |_,[]=>rfl
 |i,x::r=>by simp [Eb,S6 D (i+1) r]
theorem aeo (D):∀ (os:List (Option bk)) (i j:Nat),((Cg D i os)[j]?).join=if (i+j) ∈ D then (os[j]?).join else none
 | [],i,j=>by simp [Cg]
 |x::r,i,0=>by
  simp only [Cg,List.getElem?_cons_zero,Option.join_some,Nat.add_zero];cases hb:Fu i D with
  |true=>rw [if_pos ((Cr i D).1 hb)];rfl
  |false=>rw [if_neg (fun h=>by rw [(Cr i D).2 h] at hb;cases hb)];rfl
 |x::r,i,j+1=>by simp only [Cg,List.getElem?_cons_succ];rw [aeo D r (i+1) j,show i+1+j=i+(j+1) from by omega]
theorem afg (D):∀ (os:List (Option bk)) (i j:Nat),((Eb D i os)[j]?).join=if (i+j) ∈ D then none else (os[j]?).join
 | [],i,j=>by simp [Eb]
 |x::r,i,0=>by
  simp only [Eb,List.getElem?_cons_zero,Option.join_some,Nat.add_zero];cases hb:Fu i D with
  |true=>rw [if_pos ((Cr i D).1 hb)];rfl
  |false=>rw [if_neg (fun h=>by rw [(Cr i D).2 h] at hb;cases hb)];rfl
 |x::r,i,j+1=>by simp only [Eb,List.getElem?_cons_succ];rw [afg D r (i+1) j,show i+1+j=i+(j+1) from by omega]
theorem abp (os:List (Option bk)) (h:os.length<=cz) (o:Nat):(ay os).h.get o=(os[o]?).join:=by simp only [ay];rw [wo _ _ _ zO,if_pos (zzb _),Nat.sub_zero]
inductive gn (h:Tr bk):AV->AV->Prop
 |same (a:AV):gn h a a
 |data {α:Type} (C:er α) (fr:Bool) (x : α) (a:AV) (hd:C.j9 fr h a=some x):gn h a (C.val fr x)
 |bad (a:AV):gn h a .bad
 |nil (o off sz:Nat):gn h (.sc (.slice none 0 0)) (.sl o off 0 sz)
 |qb (loc:Bool) (sz:Nat):gn h (.sc (.slice none 0 0)) (.vl loc sz [])
inductive ft (h:Tr bk):List AV->List AV->Prop
 |nil:ft h [] []
 |cons {a b:AV} {l m:List AV} (h1:gn h a b) (h2:ft h l m):ft h (a::l) (b::m)
theorem ft.len {h l m} (hl:ft h l m):m.length=l.length:=by
 induction hl with
 |nil=>rfl
 |cons _ _ ih=>simp [ih]
theorem ft.refl (h):∀ l,ft h l l
 | []=>.nil
 |a::l=>.cons (.same a) (ft.refl h l)
theorem ft.get {h l m} (hl:ft h l m):∀ (i:Nat) b,m[i]? = some b->∃ a,l[i]? = some a/\gn h a b:=by
 induction hl with
 |nil=>intro i b hb;simp at hb
 |cons h1 h2 ih=>
  intro i b hb;cases i with
  |zero=>simp at hb;subst hb;exact ⟨_,rfl,h1⟩
  |succ i=>exact ih i b (by simpa using hb)
inductive cq (h:Tr bk):List (Option bk)->List (Option bk)->Prop
 |nil:cq h [] []
 |ghost {st et m} (h2:cq h [] m):cq h [] (some (.row [] 0 st et)::m)
 |same {x l m} (h2:cq h l m):cq h (x::l) (x::m)
 |gone {x l m} (h2:cq h l m):cq h (x::l) (none::m)
 |row {cells cells' k st et l m} (h1:ft h cells cells') (h2:cq h l m):cq h (some (.row cells k st et)::l) (some (.row cells' k st et)::m)
theorem cq.refl (h):∀ l,cq h l l
 | []=>.nil
 |x::l=>.same (cq.refl h l)
theorem cq.len {h l m} (hl:cq h l m):l.length<=m.length:=by induction hl<;>simp_all
theorem cq.get {h l m} (hl:cq h l m):∀ (i:Nat) y,(m[i]?).join=some y->(l[i]?).join=some y\/(∃ cells cells' k st et,y = .row cells' k st et/\(l[i]?).join=some (.row cells k st et)/\ft h cells cells')\/(l.length<=i/\M9 y):=by
 induction hl with
 |nil=>intro i y hy;simp at hy
 | @ghost st et m h2 ih=>
  intro i y hy;cases i with
  |zero=>simp at hy;subst hy;exact .inr (.inr ⟨zza _,st,et,rfl⟩)
  |succ i=>exact .inr (.inr ⟨zzb _,(by
   rcases ih i y (by simpa using hy) with h|⟨_,_,_,_,_,_,h,_⟩|h
   ·simp at h
   ·simp at h
   ·exact h.2)⟩)
 |same h2 ih=>
  intro i y hy;cases i with
  |zero=>exact .inl hy
  |succ i=>exact (ih i y (by simpa using hy)).imp id (Or.imp id (fun h=>⟨Nat.succ_le_succ h.1,h.2⟩))
 |gone h2 ih=>
  intro i y hy;cases i with
  |zero=>simp at hy
  |succ i=>exact (ih i y (by simpa using hy)).imp id (Or.imp id (fun h=>⟨Nat.succ_le_succ h.1,h.2⟩))
 |row h1 h2 ih=>
  intro i y hy;cases i with
  |zero=>simp at hy;subst hy;exact .inr (.inl ⟨_,_,_,_,_,rfl,rfl,h1⟩)
  |succ i=>exact (ih i y (by simpa using hy)).imp id (Or.imp id (fun h=>⟨Nat.succ_le_succ h.1,h.2⟩))
theorem kh.lax {vs vs':List AV} {os os':List (Option bk)} {bg:Nat} (D:List Nat) (hlen':os'.length<=cz) (hv:ft (ay (Cg D 0 os)).h vs vs') (ho:cq (ay (Cg D 0 os)).h (Eb D 0 os) os'):kh bg vs os vs' os':=by
 have iI:os.length<=os'.length:=by have:=ho.len;rw [S6] at this;exact this
 have hlen:os.length<=cz:=zzu iI hlen';refine ⟨hv.len,fun q=>zzu q iI,fun g w us aB cB hr=>?_⟩;obtain ⟨hD,xA⟩:∃ hD,(ay (Cg D 0 os)).h=hD:=⟨_,rfl⟩;rw [xA] at hv ho;have fk:∀ o,(ay os).h.get o=(os[o]?).join:=abp os hlen;have pR:∀ o,hD.get o=if o ∈ D then (os[o]?).join else none:=fun o=>by rw [<- xA,abp _ (by rw [aee];exact hlen),aeo,Nat.zero_add]
 have iT:∀ o y,(ay os').h.get o=some y->(o ∉ D/\((ay os).h.get o=some y\/∃ cells cells' k st et,y = .row cells' k st et/\(ay os).h.get o=some (.row cells k st et)/\ft hD cells cells'))\/(os.length<=o/\M9 y):=fun o y hy=>by
  rw [abp _ hlen'] at hy;have eL:∀ z,((Eb D 0 os)[o]?).join=some z->o ∉ D/\(os[o]?).join=some z:=fun z hz=>by
   rw [afg,Nat.zero_add] at hz;by_cases hd:o ∈ D
   ·rw [if_pos hd] at hz;cases hz
   ·rw [if_neg hd] at hz;exact ⟨hd,hz⟩
  rw [fk];rcases ho.get o y hy with h1|⟨cells,cells',k,st,et,h1,h2,h3⟩|h1
  ·exact .inl ⟨(eL _ h1).1,.inl (eL _ h1).2⟩
  ·exact .inl ⟨(eL _ h2).1,.inr ⟨cells,cells',k,st,et,h1,(eL _ h2).2,h3⟩⟩
  ·rw [S6] at h1;exact .inr h1
 have bA:∀ o x,hD.get o=some x->o ∈ D/\(ay os).h.get o=some x:=fun o x hx=>by
  rw [pR] at hx;by_cases hd:o ∈ D
  ·rw [if_pos hd] at hx;rw [fk];exact ⟨hd,hx⟩
  ·rw [if_neg hd] at hx;cases hx
 have oZ:Ok g hD w:=aB.part (fun o x hx=>(bA o x hx).2);obtain ⟨K',eK⟩:∃ K':Nat->Nat->Prop,(fun b j=>g.K b j\/∃ o base cells k s e,hD.get o=some (.row cells k s e)/\g.inj o=some (b,base)/\∃ i,(s=0\/i<cells.length)/\j=base+i)=K':=⟨_,rfl⟩;have hK':∀ b j,K' b j↔(g.K b j\/∃ o base cells k s e,hD.get o=some (.row cells k s e)/\g.inj o=some (b,base)/\∃ i,(s=0\/i<cells.length)/\j=base+i):=fun b j=>by rw [<- eK]
 have pJ:Au g hD K':=⟨fun b j h=>(hK' b j).2 (.inl h),fun o cells k s e h b base hi j hj=>(hK' _ _).2 (.inr ⟨o,base,cells,k,s,e,h,hi,j,hj,rfl⟩)⟩;have pK:∀ {a b:AV} {v:Value},gn hD a b->Rel g w a v->Rel { g with K:=K' } w b v:=fun {a b v} hl hrel=>by
  have sB:Rel { g with K:=K' } w a v:=Rel.ext (g:=g) (w:=w) (g':={ g with K:=K' }) (w':=w) ⟨rfl,fun _ _ h=>h,fun b j h=>(hK' b j).2 (.inl h),fun _ _ _=>rfl,fun b cs e fr h=>⟨cs,fr,h,rfl⟩,fun b l h=>⟨l,h⟩,fun _ _ _ _ _ _=>rfl⟩ hrel;cases hl with
  |same=>exact sB
  |data C fr x a hd=>exact (C.okV oZ pJ (fun _=>zza g.b0) hrel hd).lift (zza _) (fun _ _ h=>h)
  |bad=>exact .bad _
  |nil o off sz=>obtain rfl:=sB.exact rfl;exact .uw _ _ _
  |qb loc sz=>obtain rfl:=sB.exact rfl;exact .ni _ _
 refine ⟨{ g with K:=K' },⟨aB.size,fun o y hy=>?_,fun o o' x x' b base base' hne hx hx' hb hb'=>?_,fun b j hk=>?_⟩,⟨by rw [hv.len];exact hr.1,fun i b v hb hv'=>?_⟩,rfl,fun o q=>cB o (zzu iI q),fun _ _=>rfl,fun b j h=>(hK' b j).2 (.inl h),fun o b base cQ hi'=>?_,fun b j hk=>?_⟩
 ·rcases iT o y hy with ⟨cR,hy⟩|⟨hge,rK⟩
  case inr=>exact .inl ⟨cB o hge,rK⟩
  have wU:∀ b base,g.inj o=some (b,base)->((ay os).h.get o).isSome=true->∀ j,K' b j->g.K b j:=fun b base hi hs j hk=>by
   rcases (hK' b j).1 hk with h|⟨o2,aJ,cells,k,s,e,h1,h2,_⟩
   ·exact h
   ·exfalso;obtain ⟨mM,h1'⟩:=bA o2 _ h1;obtain ⟨x,hx⟩:=zzv.1 hs;exact aB.sep o o2 x _ b base aJ (fun e=>cR (by rw [e];exact mM)) hx h1' hi h2
  have aI:Ext g w { g with K:=K' } w:=⟨rfl,fun _ _ h=>h,fun b j h=>(hK' b j).2 (.inl h),fun _ _ _=>rfl,fun b cs e fr h=>⟨cs,fr,h,rfl⟩,fun b l h=>⟨l,h⟩,fun _ _ _ _ _ _=>rfl⟩;rcases hy with hy|⟨cells,cells',k,st,et,rfl,hy,hcl⟩
  ·refine (aB.px o y hy).imp id ?_;rintro ⟨b,base,h1,h2,h3⟩;exact ⟨b,base,h1,h2,h3.ext aI rfl (fun j hj=>wU b base h1 (by rw [hy];rfl) j hj)⟩
  ·refine (aB.px o _ hy).imp (fun q=>⟨q.1,by
    obtain ⟨s0,e0,he⟩:=q.2;simp only [bk.row.injEq] at he;obtain ⟨rfl,rfl,rfl,rfl⟩:=he;cases hcl;exact ⟨_,_,rfl⟩⟩) ?_
   rintro ⟨b,base,h1,h2,cs,fr,r1,r2,r3,r4,r5,r6,r7⟩;refine ⟨b,base,h1,h2,cs,fr,r1,by rw [hcl.len];exact r2,fun j c hc=>?_,r4,fun j hj=>r5 j (wU b base h1 (by rw [hy];rfl) j hj),r6,fun e=>by rw [hcl.len];exact r7.1 e,fun e=>by rw [hcl.len];exact r7.2 e⟩;obtain ⟨a,ha,mD⟩:=hcl.get j c hc;obtain ⟨u,hu,yU⟩:=r3 j a ha;exact ⟨u,hu,pK mD yU⟩
 ·have q:∀ o y p,(ay os').h.get o=some y->g.inj o=some p->∃ z,(ay os).h.get o=some z:=fun o y p hy hp=>by
   rcases iT o y hy with ⟨_,h|⟨_,_,_,_,_,_,h,_⟩⟩|⟨h,_⟩
   ·exact ⟨_,h⟩
   ·exact ⟨_,h⟩
   ·rw [cB o h] at hp;cases hp
  obtain ⟨z,hz⟩:=q o x _ hx hb;obtain ⟨z',hz'⟩:=q o' x' _ hx' hb';exact aB.sep o o' z z' b base base' hne hz hz' hb hb'
 ·rcases (hK' b j).1 hk with h|⟨o,base,cells,k,s,e,h1,h2,_⟩
  ·exact aB.K b j h
  ·obtain ⟨b',base',h3,_,h4⟩:=oZ.obj o _ h1;rw [h2] at h3;cases h3;exact h4.lt
 ·obtain ⟨a,ha,mD⟩:=hv.get i b hb;exact pK mD (hr.2 i a v ha hv')
 ·obtain ⟨y,hy⟩:=zzv.1 cQ;rcases iT o y hy with ⟨_,h|⟨_,_,_,_,_,_,h,_⟩⟩|⟨h,_⟩
  ·exact ⟨o,base,by rw [h];rfl,hi'⟩
  ·exact ⟨o,base,by rw [h];rfl,hi'⟩
  ·have:g.inj o=some (b,base):=hi';rw [cB o h] at this;cases this
 ·rcases (hK' b j).1 hk with h|⟨o,base,cells,k,s,e,h1,h2,_⟩
  ·exact .inl h
  ·exact .inr ⟨o,base,by rw [(bA o _ h1).2];rfl,h2⟩
theorem agb {α:Type} {P:Program} {T:fp} {bg:Nat} {b:Code} {Q:QL} {L:SL} {st:St} (keep:List Nat) (V : α->List AV) (O : α->List (Option bk)) (I : α->Prop) (μ : α->Nat) (x : α) (hx:I x)
 (hv:kh bg (dq bg keep L st) (gk bg keep L st) (V x) (O x))
 (step:∀ x,I x->wl P T bg b (ou bg keep (fun vs os=>∃ y,I y /\ μ y < μ x/\kh bg vs os (V y) (O y)) Q) (fm keep (V x)) (ay (O x))):xn bg (wl P T bg b) Q L st:=
 xn.aA4 keep V O I μ x hx hv (fun _ _ h=>Fv b _ _ h) step
theorem i9 {α:Type} {P:Program} {T:fp} {bg:Nat} {b:Code} {Q:QL} {L:SL} {st:St} (keep:List Nat) (V : α->List AV) (O : α->List (Option bk)) (I : α->Prop) (μ : α->Nat) (x : α) (hx:I x)
 (hv:kh bg (dq bg keep L st) (gk bg keep L st) (V x) (O x))
 (step:∀ x,I x->wl P T bg b (ou bg keep (fun vs os=>∃ y,I y /\ μ y < μ x/\vs=V y/\os=O y) Q) (fm keep (V x)) (ay (O x))):xn bg (wl P T bg b) Q L st:=
 agb keep V O I μ x hx hv (fun x hi=>Fv b _ _ (fun e L' st' hq=>by
  cases e with
  |normal=>
   obtain ⟨y,h1,h2,h3,h4⟩:=hq;refine ⟨y,h1,h2,?_⟩;rw [h3,h4];exact .refl _ _ _
  |exit id=>exact hq
  |ret=>exact hq) _ _ (step x hi))
theorem Mm (f) (l):(List.map (ah.val f) l).flatMap AV.cells=l.map (ah.val f):=Ux ah f rfl rfl l
theorem Zh (f) (l):(List.map (ah.val f) l).all AV.one=true:=by rw [<- Mm f l,O6];exact B8 _ _ _
theorem Pw (fr h n cells k st et) (hn:n=cells.length) (hro:yc fr st 1 .str et=true):lg ah fr h 0 n (.row cells k st et)=vo ah fr h cells:=Bk ah rfl fr h n cells k st et hn hro
theorem af5:ah.kd = .str:=id rfl
theorem Vv (fr h f) (l):vo ah fr h (List.map (ah.val f) l)=some l:=by
 have e:List.map (ah.val f) l=List.map (ah.val true) l:=by cases f<;>rfl
 rw [e];exact Jf ah rfl rfl fr h true (fun _=>rfl) l
theorem O7 (f) (l):(List.map (bt.val f) l).flatMap AV.cells=l.map (bt.val f):=Ux bt f rfl rfl l
theorem ad7 (f) (l):(List.map (bt.val f) l).all AV.one=true:=by rw [<- O7 f l,O6];exact B8 _ _ _
theorem Qx (fr h n cells k st et) (hn:n=cells.length) (hro:yc fr st 1 (.int .u8) et=true):lg bt fr h 0 n (.row cells k st et)=vo bt fr h cells:=Bk bt rfl fr h n cells k st et hn hro
theorem ako:bt.kd=(.int .u8):=id rfl
theorem abg (fr h f) (l):vo bt fr h (List.map (bt.val f) l)=some l:=by
 have e:List.map (bt.val f) l=List.map (bt.val true) l:=by cases f<;>rfl
 rw [e];exact Jf bt rfl rfl fr h true (fun _=>rfl) l
theorem Mn (f) (l):(List.map (cy.val f) l).flatMap AV.cells=l.map (cy.val f):=Ux cy f rfl rfl l
theorem Yc (f) (l):(List.map (cy.val f) l).all AV.one=true:=by rw [<- Mn f l,O6];exact B8 _ _ _
theorem P4 (fr h n cells k st et) (hn:n=cells.length) (hro:yc fr st 1 (.int .u32) et=true):lg cy fr h 0 n (.row cells k st et)=vo cy fr h cells:=Bk cy rfl fr h n cells k st et hn hro
theorem ads:cy.kd=(.int .u32):=id rfl
theorem Vz (fr h f) (l):vo cy fr h (List.map (cy.val f) l)=some l:=by
 have e:List.map (cy.val f) l=List.map (cy.val true) l:=by cases f<;>rfl
 rw [e];exact Jf cy rfl rfl fr h true (fun _=>rfl) l
theorem N7 (fr h n cells k st et) (hn:n=cells.length) (hro:yc fr st 1 .no et=true):lg au fr h 0 n (.row cells k st et)=vo au fr h cells:=Bk au rfl fr h n cells k st et hn hro
theorem Q6 (fr h f) (l) (hf:(f || !fr)=true):vo au fr h (List.map (au.val f) l)=some l:=Jf au rfl rfl fr h f (fun e=>by subst e;simpa using hf) l
theorem Si (fr h l n xs) (hn:n=1) (hl:(l || !fr)=true):kl ah fr h (.vl l n (xs.map (ah.val false)))=some xs:=by
 cases l with
 |true=>exact Ah ah fr h true xs n hn hl
 |false=>exact Ah ah fr h false xs n hn hl
theorem aan:ah.val true=ah.val false:=id rfl
theorem V0 (fr h l n xs) (hn:n=1) (hl:(l || !fr)=true):kl bt fr h (.vl l n (xs.map (bt.val false)))=some xs:=by
 cases l with
 |true=>exact Ah bt fr h true xs n hn hl
 |false=>exact Ah bt fr h false xs n hn hl
theorem adh:bt.val true=bt.val false:=id rfl
theorem Tk (fr h l n xs) (hn:n=1) (hl:(l || !fr)=true):kl cy fr h (.vl l n (xs.map (cy.val false)))=some xs:=by
 cases l with
 |true=>exact Ah cy fr h true xs n hn hl
 |false=>exact Ah cy fr h false xs n hn hl
theorem Yg:cy.val true=cy.val false:=id rfl
theorem ad5 (fr h) (c:UInt8):bt.dec fr h [.sc (.int .u8 c.toNat)]=some c:=bt.rt fr h true c (fun _=>rfl)
theorem Zn (fr h) (c:UInt16):ct.dec fr h [.sc (.int .u16 c.toNat)]=some c:=ct.rt fr h true c (fun _=>rfl)
theorem Xv (fr h) (c:UInt32):cy.dec fr h [.sc (.int .u32 c.toNat)]=some c:=cy.rt fr h true c (fun _=>rfl)
theorem afp (a b:List AV):AV.fresh.go (a++b)=(AV.fresh.go a && AV.fresh.go b):=by
 induction a with
 |nil=>rfl
 |cons x a ih=>simp only [List.cons_append,AV.fresh.go,ih,Bool.and_assoc]
theorem akm (f) (l:List UInt8):AV.fresh.go (l.map (bt.val f))=true:=by
 induction l with
 |nil=>rfl
 |cons x l ih=>simp only [List.map_cons,AV.fresh.go,ih];rfl
theorem Wa (f) (c:Name):(au.val f c).one=true:=id rfl
theorem P7 (f) (c:Name):(au.val f c).cells=[au.val f c]:=id rfl
theorem agd (fr h a):(bw bt).dec fr h [a]=kl bt fr h a:=id rfl
theorem Rg (fr h n cells k st et) (hn:n=cells.length) (hro:yc fr st 1 .no et=true):lg (bw bt) fr h 0 n (.row cells k st et)=vo (bw bt) fr h cells:=Bk (bw bt) rfl fr h n cells k st et hn hro
structure ew (B:dz) (nt:NT) (L:SL) (st:St) (g:Gh) (a:Act) (w:World):Prop where
 cur:mf B g st w
 sl:kj g w nt L a.tmps
 uf:Marks B.D B.n0 st.h g w a.defers
theorem ub.n0 {B:dz} {n d g h w} (q:ub B g h w):ub { B with n0:=n,D:=d } g h w:=⟨q.b0,q.pins,q.K,q.cell,q.size,q.os,q.tape,q.output,q.frame,q.own,q.o0,q.ju,q.lp,q.whole⟩
theorem ub.aKw {B:dz} {n d g h w} (q:ub { B with n0:=n,D:=d } g h w):ub B g h w:=⟨q.b0,q.pins,q.K,q.cell,q.size,q.os,q.tape,q.output,q.frame,q.own,q.o0,q.ju,q.lp,q.whole⟩
theorem mf.n0 {B:dz} {n d g st w} (q:mf B g st w):mf { B with n0:=n,D:=d } g st w:=⟨q.ok,q.fresh,q.base.n0,q.bg⟩
theorem piece {P:Program} [KP P] {T:fp} (hT:ak P T) (hm:P.follows .mixedOrders=true) {N:Nat} {B:dz} {nt:NT} (aF:B.iw) (hp:B.bg<=1000) (aL:B.n0<=B.w.heap.size) {c:Code} (hs:fq nt c=true) {Q:QL} {L:SL} {st:St} {g:Gh} {a:Act} {w:World}
 (h:wl P T B.bg c Q L st) (hh:ew B nt L st g a w) :
 c.wpIn (fw none) N P (fun ex a' w'=>∃ e L' st' g',ex=wg e/\Q e L' st'/\ew B nt L' st' g' a' w'/\ub (lr g st.h w B.bg (fun _=>False)) g' st'.h w') a w:=by
 have hc1:mf { lr g st.h w B.bg (fun _=>False) with n0:=B.n0,D:=B.D } g st w:=(hh.cur.Vo B.bg (fun _=>False) hh.cur.bg (fun o h=>(aF o h).elim)).n0;refine wpIn_mono (ato hT hm (N:=N) (B:={ lr g st.h w B.bg (fun _=>False) with n0:=B.n0,D:=B.D }) (nt:=nt) (fun _ h=>h) hp (zzu aL hh.cur.base.size) c hs Q L st g w a h hc1 hh.sl hh.uf) ?_;rintro ex a' w' ⟨e,L',st',g',rfl,hq,hc',hr',bP⟩;have hb:=hc'.base.aKw (B:=lr g st.h w B.bg (fun _=>False));exact ⟨e,L',st',g',rfl,hq,⟨⟨hc'.ok,fun o h1 _=>hc'.fresh o h1 (fun h=>h),hh.cur.base.comp hb (zza _) (fun o h=>(aF o h).elim) (fun _ h=>h.elim),hc'.bg⟩,hr',bP⟩,hb⟩
structure L7 (g:Gh) (w:World) (g':Gh) (w':World):Prop where
 b0:g'.b0=g.b0
 K:∀ b j,g.K b j->g'.K b j
 cell:∀ b j,g.K b j->w'.cell? ⟨b,j,none⟩=w.cell? ⟨b,j,none⟩
 ju:∀ (b:Nat) (cs:Array Value) (e:TypeId) (fr:Nat × Nat),w.heap[b]? = some (Obj.cells cs e fr)->∃ (cs':Array Value) (dK:Nat × Nat),w'.heap[b]? = some (Obj.cells cs' e dK)/\cs'.size=cs.size
 lp:∀ (b:Nat) (l:Loop),w.heap[b]? = some (Obj.loop l)->∃ l',w'.heap[b]? = some (Obj.loop l')
 whole:∀ (b:Nat) (cs:Array Value) (e:TypeId) (fr:Nat × Nat),w.heap[b]? = some (Obj.cells cs e fr)->(∀ j,g.K b j)->w'.heap[b]? = w.heap[b]?
theorem L7.base {g h w p x g' h' w'} (q:ub (lr g h w p x) g' h' w'):L7 g w g' w':=⟨q.b0,q.K,q.cell,q.ju,q.lp,q.whole⟩
theorem L7.more {g g':Gh} {w:World} (h1:g'.b0=g.b0) (h2:∀ b j,g.K b j->g'.K b j):L7 g w g' w:=⟨h1,h2,fun _ _ _=>rfl,fun b cs e fr h=>⟨cs,fr,h,rfl⟩,fun b l h=>⟨l,h⟩,fun _ _ _ _ _ _=>rfl⟩
theorem Rel.plain {g g' w w' a v} (ha:a.cx (fun _=>none)=a) (h:Rel g w a v) (hl:L7 g w g' w'):Rel g' w' a v:=by have h1:=h.cx (τ:=fun _=>none) (N:=[]) (fun o p e=>by cases e);rw [ha] at h1;have hx:Ext (g.cx []) w g' w':=⟨hl.b0,fun o p e=>(by cases e),hl.K,hl.cell,hl.ju,hl.lp,hl.whole⟩;exact h1.ext hx
def jt (cells:List AV):Prop:=AV.cx.go (fun _=>none) cells=cells
theorem azu {cells:List AV} (h:jt cells) {j:Nat} {a:AV} (ha:cells[j]? = some a):a.cx (fun _=>none)=a:=by unfold jt at h;rw [kr] at h;have:=congrArg (·[j]?) h;simp only [zzj,ha,Option.map_some,Option.some.injEq] at this;exact this
theorem ae8 {g w g' w' b base cells k s et} (hcl:jt cells) (hl:L7 g w g' w') (hh:w'.heap[b]? = w.heap[b]?) (hK:∀ j,g'.K b j->g.K b j) (h:oy g w b base (.row cells k s et)):oy g' w' b base (.row cells k s et):=by obtain ⟨cs,fr,h1,h2,h3,h4,h5,h6⟩:=h;refine ⟨cs,fr,hh.trans h1,h2,fun j a ha=>?_,h4,fun j hj=>h5 j (hK j hj),h6⟩;obtain ⟨c,hc,hr⟩:=h3 j a ha;exact ⟨c,hc,hr.plain (azu hcl ha) hl⟩
structure iu (B:dz) (g:Gh) (st:St) (w:World) (cells:List AV) (et:TypeId) (n sz:Nat) (v:Value) (b:Nat):Prop where
 ge:B.w.heap.size<=b
 gb:g.b0<=b
 un:ja g st.h b
 obj:∃ base,oy g w b base (.row cells 0 0 et)/\∃ cap,v = .slice (some ⟨b,base,none⟩) n cap/\n<=cap/\cap<=maxLen/\Xe w b (base+cap * sz)
theorem iu.lt {B g st w cells et n sz v b} (h:iu B g st w cells et n sz v b):b<w.heap.size:=by obtain ⟨base,⟨cs,fr,q,_⟩,_⟩:=h.obj;exact cd q
theorem iu.move {B g st w cells et n sz v b g' st'} (hcl:jt cells) (h:iu B g st w cells et n sz v b) (h0:g'.b0=g.b0) (h1:∀ b j,g.K b j->g'.K b j) (hK:∀ j,g'.K b j->g.K b j) (hu:ja g' st'.h b):iu B g' st' w cells et n sz v b:=by obtain ⟨base,ho,hv⟩:=h.obj;exact ⟨h.ge,by rw [h0];exact h.gb,hu,base,ae8 hcl (L7.more h0 h1) rfl hK ho,hv⟩
theorem iu.keep {B g st w cells et n sz v b g' st' w' p} (hcl:jt cells) (h:iu B g st w cells et n sz v b) (hb:ub (lr g st.h w p (fun _=>False)) g' st'.h w'):iu B g' st' w' cells et n sz v b:=by
 have hlt:=h.lt;have kL:¬ (lr g st.h w p (fun _=>False)).O b:=fun hO=>by
  rcases hO with hO|⟨o,base',e1,e2⟩
  ·exact hO
  ·exact h.un o base' e1 e2
 have hfr:w'.heap[b]? = w.heap[b]? := hb.frame b hlt kL;obtain ⟨base,ho,cap,h1,h2,h3,h4⟩:=h.obj;refine ⟨h.ge,by rw [hb.b0];exact h.gb,fun o base' e1 e2=>?_,base,ae8 hcl (L7.base hb) hfr (fun j hj=>?_) ho,cap,h1,h2,h3,?_⟩
 ·rcases hb.own o b base' e1 e2 with q|q
  ·exact absurd hlt (Nat.not_lt.2 q)
  ·exact kL q
 ·rcases hb.o0 b j hj with q|q|q
  ·exact q
  ·exact absurd hlt (Nat.not_lt.2 q)
  ·exact (kL q).elim
 ·obtain ⟨cs,e,fr,q1,q2⟩:=h4;exact ⟨cs,e,fr,hfr.trans q1,q2⟩
theorem ew.canon {B:dz} {nt L st g a w} (aF:B.iw) (hp:B.bg<=1000) (keep:List Nat) (h:ew B nt L st g a w):ew B nt (fm keep (dq B.bg keep L st)) (ay (gk B.bg keep L st)) (g.cx (jx B.bg keep L st)) a w:=
 ⟨(Jh aF hp keep h.cur h.sl).1,(Jh aF hp keep h.cur h.sl).2,Ag hp keep h.uf⟩
theorem iu.canon {B:dz} {g st w cells et n sz v b} (hp:B.bg<=1000) (hcl:jt cells) (keep:List Nat) (L:SL) (h:iu B g st w cells et n sz v b):iu B (g.cx (jx B.bg keep L st)) (ay (gk B.bg keep L st)) w cells et n sz v b:=
 h.move hcl rfl (fun _ _ h=>h) (fun _ h=>h) (Ch hp keep h.un)
def aqs (g:Gh) (w:World) (o:Nat) (pa:List Value):Prop:=∃ b base cs et fr,g.inj o=some (b,base)/\w.heap[b]? = some (.cells cs et fr)/\∀ (j:Nat) v,pa[j]? = some v->cs[base+j]? = some v
theorem ew.pa {B:dz} {nt L st g a w o cells k s et} (h:ew B nt L st g a w) (ho:st.h.get o=some (.row cells k s et)) (hi:∃ p,g.inj o=some p):∃ pa,aqs g w o pa/\bz g w cells pa:=by
 obtain ⟨b,base,h1,h2,cs,fr,h3,h4,h5,h6⟩:=h.cur.ok.obj o _ ho hi;refine ⟨(List.range cells.length).map fun j=>cs.getD (base+j) undef,⟨b,base,cs,et,fr,h1,h3,fun j v hv=>?_⟩,by simp,fun j x v hx hv=>?_⟩
 ·rw [zzj,zzk] at hv;obtain ⟨i,hi,rfl⟩:=hv;obtain ⟨hl,rfl⟩:=zg.1 hi;simp only [List.length_range] at hl;simp only [List.getElem_range];rw [zze,zz3 zO];rfl
 ·rw [zzj,zzk] at hv;obtain ⟨i,hi,rfl⟩:=hv;obtain ⟨hl,rfl⟩:=zg.1 hi;simp only [List.getElem_range];obtain ⟨c,hc,hr⟩:=h5 j x hx;rw [zze,hc];exact hr
theorem ew.G7 {B:dz} {nt L st g a w o cells cells' k s et pa} (h:ew B nt L st g a w) (aD:o<=cz) (ho:st.h.get o=some (.row cells k s et)) (hv:aqs g w o pa) (hr:bz g w cells pa) (hr':bz g w cells' pa) :
 ew B nt L { st with h:=Tr.set depth st.h o (some (.row cells' k s et)) } g a w:=by
 obtain ⟨b,base,cs,CH,fr,v1,v2,v3⟩:=hv;have hlen:cells'.length=cells.length:=by rw [<- hr.1,hr'.1]
 have hsome:∀ p,((Tr.set depth st.h o (some (bk.row cells' k s et))).get p).isSome=true->(st.h.get p).isSome=true:=fun p hp=>by
  rw [gp _ _ _ _ aD] at hp;by_cases e:p=o
  ·subst e;rw [ho];rfl
  ·rwa [if_neg e] at hp
 have hb:=h.cur.base;refine ⟨⟨⟨h.cur.ok.size,fun p x hx=>?_,fun p p' x x' b1 aG aJ hne hx hx'=>?_,h.cur.ok.K⟩,h.cur.fresh,⟨hb.b0,hb.pins,hb.K,hb.cell,hb.size,hb.os,hb.tape,hb.output,hb.frame,fun p b1 aG hp hj=>hb.own p b1 aG (hsome p hp) hj,hb.o0,hb.ju,hb.lp,hb.whole⟩,h.cur.bg⟩,h.sl,?_⟩
 ·simp only [gp _ _ _ _ aD] at hx;by_cases e:p=o
  ·subst e;rw [if_pos rfl] at hx;cases hx;obtain ⟨b',base',h1,h2,cs',dK,h3,h4,h5,h6,h7,h8,h9⟩:=h.cur.ok.obj p _ ho ⟨_,v1⟩;rw [v1] at h1;cases h1;rw [v2] at h3;cases h3;refine .inr ⟨b,base,v1,h2,cs,fr,v2,by rw [hlen];exact h4,fun j x hx=>?_,h6,h7,h8,fun q=>by rw [hlen];exact h9.1 q,fun q=>by rw [hlen];exact h9.2 q⟩;have hj:j<pa.length:=by rw [hr'.1];exact (zg.1 hx).1
   exact ⟨pa[j],v3 j _ (zh hj),hr'.2 j x _ hx (zh hj)⟩
  ·rw [if_neg e] at hx;exact h.cur.ok.px p x hx
 ·simp only [gp _ _ _ _ aD] at hx hx';have f:∀ q y,(if q=o then some (bk.row cells' k s et) else st.h.get q)=some y->∃ z,st.h.get q=some z:=fun q y hq=>by
   by_cases e:q=o
   ·subst e;exact ⟨_,ho⟩
   ·rw [if_neg e] at hq;exact ⟨_,hq⟩
  obtain ⟨z,hz⟩:=f p x hx;obtain ⟨z',hz'⟩:=f p' x' hx';exact h.cur.ok.sep p p' z z' b1 aG aJ hne hz hz'
 ·obtain ⟨bs,m1,m2,m3⟩:=h.uf;exact ⟨bs,m1,m2,fun b hb=>⟨(m3 b hb).1,(m3 b hb).2.1,fun p aG hp=>(m3 b hb).2.2 p aG (hsome p hp)⟩⟩
theorem iu.G7 {B g st w cs et n sz v b o x y} (aD:o<=cz) (ho:st.h.get o=some x) (h:iu B g st w cs et n sz v b):iu B g { st with h:=Tr.set depth st.h o (some y) } w cs et n sz v b:=
 ⟨h.ge,h.gb,fun p aG hp=>h.un p aG (by
  rw [gp _ _ _ _ aD] at hp;by_cases e:p=o
  ·subst e;rw [ho];rfl
  ·rwa [if_neg e] at hp),h.obj⟩
def St.more (st:St) (x:bk):St:={ h:=Tr.set depth st.h st.nx (some x),nx:=st.nx+1,rl:=st.rl,wl:=st.wl }
theorem ew.focus {B:dz} {nt L st g a w cells et n sz v b} (aF:B.iw) (aD:st.nx<=cz) (hh:ew B nt L st g a w) (ho:iu B g st w cells et n sz v b) :
 ∃ g',ew B nt L (st.more (.row cells 0 0 et)) g' a w/\Rel g' w (.sl st.nx 0 n sz) v/\Ext g w g' w/\(∀ b j,g'.K b j->g.K b j)/\(∀ b',ja g st.h b'->b'≠b->ja g' (st.more (.row cells 0 0 et)).h b')/\(∀ o,o≠st.nx->g'.inj o=g.inj o):=by
 obtain ⟨base,jR,cap,hv,hn,hc,hroom⟩:=ho.obj;have hno:g.inj st.nx=none:=hh.cur.fresh _ (zza _) (aF _);have hx:Ext g w (g.with st.nx b base) w:=⟨rfl,fun o p h=>by rw [Gh.gq (by intro e;subst e;rw [hno] at h;cases h)];exact h,fun _ _ h=>h,fun _ _ _=>rfl,fun b cs e fr h=>⟨cs,fr,h,rfl⟩,fun b l h=>⟨l,h⟩,fun _ _ _ _ _ _=>rfl⟩
 have fk:∀ o,(st.more (.row cells 0 0 et)).h.get o=if o=st.nx then some (.row cells 0 0 et) else st.h.get o:=fun o=>gp _ _ _ _ aD
 have hb:=hh.cur.base;have hO:∀ o y,st.h.get o=some y->∀ b1 aG,g.inj o=some (b1,aG)->b1≠b:=fun o y hy b1 aG hi e=>by subst e;exact ho.un o aG (by rw [hy];rfl) hi
 refine ⟨g.with st.nx b base,⟨⟨⟨hh.cur.ok.size,fun o y hy=>?_,fun o o' y y' b1 aG aJ hne hy hy' hi hi'=>?_,hh.cur.ok.K⟩,fun o h1 h2=>?_,⟨hb.b0,fun o h1=>?_,hb.K,hb.cell,hb.size,hb.os,hb.tape,hb.output,hb.frame,fun o b1 aG h1 h2=>?_,hb.o0,hb.ju,hb.lp,hb.whole⟩,Nat.le_succ_of_le hh.cur.bg⟩,hh.sl.ext hx,?_⟩,?_,hx,fun _ _ h=>h,fun b' hu hne o aG h1 h2=>?_,fun o h=>Gh.gq h⟩
 ·rw [fk] at hy;by_cases e:o=st.nx
  ·subst e;rw [if_pos rfl] at hy;cases hy;exact .inr ⟨b,base,Gh.lz,ho.gb,jR.ext hx rfl (fun _ h=>h)⟩
  ·rw [if_neg e] at hy;refine (hh.cur.ok.px o y hy).imp (fun q=>⟨by rw [Gh.gq e];exact q.1,q.2⟩) ?_;rintro ⟨b1,aG,h1,h2,h3⟩;exact ⟨b1,aG,by rw [Gh.gq e];exact h1,h2,h3.ext hx rfl (fun _ h=>h)⟩
 ·rw [fk] at hy hy';by_cases e:o=st.nx
  ·subst e;rw [Gh.lz] at hi;cases hi;rw [if_neg (Ne.symm hne)] at hy';rw [Gh.gq (Ne.symm hne)] at hi';exact hO o' y' hy' _ _ hi' rfl
  ·rw [if_neg e] at hy;rw [Gh.gq e] at hi;by_cases e':o'=st.nx
   ·subst e';rw [Gh.lz] at hi';cases hi';exact hO o y hy _ _ hi rfl
   ·rw [if_neg e'] at hy';rw [Gh.gq e'] at hi';exact hh.cur.ok.sep o o' y y' b1 aG aJ hne hy hy' hi hi'
 ·have h1:st.nx+1<=o:=h1;rw [Gh.gq zO];exact hh.cur.fresh o zO h2
 ·have hp:=hh.cur.bg;have h1':o<B.bg:=h1.resolve_right (aF o);rw [Gh.gq zO];exact hb.pins o h1
 ·rw [fk] at h1;by_cases e:o=st.nx
  ·subst e;rw [Gh.lz] at h2;cases h2;exact .inl ho.ge
  ·rw [if_neg e] at h1;rw [Gh.gq e] at h2;exact hb.own o b1 aG h1 h2
 ·obtain ⟨bs,m1,m2,m3⟩:=hh.uf;refine ⟨bs,m1,m2,fun c hc=>⟨(m3 c hc).1,(m3 c hc).2.1,fun o aG h1 h2=>?_⟩⟩;rw [fk] at h1;by_cases e:o=st.nx
  ·subst e;rw [Gh.lz] at h2;cases h2;obtain ⟨cs,fr,q,_⟩:=jR;rw [(m3 _ hc).2.1] at q;cases q
  ·rw [if_neg e] at h1;rw [Gh.gq e] at h2;exact (m3 c hc).2.2 o aG h1 h2
 ·rw [hv];exact .sl st.nx 0 n sz b base cap Gh.lz hn hc hroom
 ·rw [fk] at h1;by_cases e:o=st.nx
  ·subst e;rw [Gh.lz] at h2;cases h2;exact hne rfl
  ·rw [if_neg e] at h1;rw [Gh.gq e] at h2;exact hu o aG h1 h2
def St.less (st:St) (o:Nat):St:={ st with h:=Tr.set depth st.h o none }
theorem ew.release {B:dz} {nt L st g a w o cells et n sz v} (hO:∀ b,¬ B.O b) (aD:o<=cz) (hh:ew B nt L st g a w) (ho:st.h.get o=some (.row cells 0 0 et)) (hn : 0<n) (hr:Rel g w (.sl o 0 n sz) v) :
 ∃ b,ew B nt L (st.less o) g a w/\iu B g (st.less o) w cells et n sz v b/\∀ b',ja g st.h b'->b'≠b/\ja g (st.less o).h b':=by
 have fk:∀ p,(st.less o).h.get p=if p=o then none else st.h.get p:=fun p=>gp _ _ _ _ aD
 have bA:∀ p x,(st.less o).h.get p=some x->p≠o/\st.h.get p=some x:=fun p x hx=>by
  rw [fk] at hx;by_cases e:p=o
  ·rw [if_pos e] at hx;cases hx
  ·rw [if_neg e] at hx;exact ⟨e,hx⟩
 have hsome:∀ p,((st.less o).h.get p).isSome=true->p≠o/\(st.h.get p).isSome=true:=fun p hp=>by obtain ⟨x,hx⟩:=zzv.1 hp;exact ⟨(bA p x hx).1,by rw [(bA p x hx).2];rfl⟩
 have key:∃ b base cap,g.inj o=some (b,base)/\v = .slice (some ⟨b,base,none⟩) n cap/\n<=cap/\cap<=maxLen/\Xe w b (base+cap * sz):=by
  cases hr with
  |sl _ _ _ _ b base cap hi hc hm hroom=>exact ⟨b,base,cap,hi,rfl,hc,hm,hroom⟩
  |ug=>omega
  |uw=>omega
 obtain ⟨b,base,cap,hi,hv,h1,h2,h3⟩:=key;obtain ⟨b',base',e1,e2,e3⟩:=hh.cur.ok.obj o _ ho ⟨_,hi⟩;rw [hi] at e1;cases e1;have hb:=hh.cur.base;refine ⟨b,⟨⟨hh.cur.ok.part (fun p x hx=>(bA p x hx).2),hh.cur.fresh,⟨hb.b0,hb.pins,hb.K,hb.cell,hb.size,hb.os,hb.tape,hb.output,hb.frame,fun p b1 aG q1 q2=>hb.own p b1 aG (hsome p q1).2 q2,hb.o0,hb.ju,hb.lp,hb.whole⟩,hh.cur.bg⟩,hh.sl,?_⟩,⟨?_,e2,fun p aG q1 q2=>?_,base,e3,cap,hv,h1,h2,h3⟩,fun b' hu=>⟨fun e=>?_,fun p aG q1 q2=>hu p aG (hsome p q1).2 q2⟩⟩
 ·obtain ⟨bs,m1,m2,m3⟩:=hh.uf;exact ⟨bs,m1,m2,fun c hc=>⟨(m3 c hc).1,(m3 c hc).2.1,fun p aG q1 q2=>(m3 c hc).2.2 p aG (hsome p q1).2 q2⟩⟩
 ·rcases hb.own o b base (by rw [ho];rfl) hi with q|q
  ·exact q
  ·exact (hO b q).elim
 ·obtain ⟨x,hx⟩:=zzv.1 q1;exact hh.cur.ok.sep p o x _ b aG base (bA p x hx).1 (bA p x hx).2 ho q2 hi
 ·subst e;exact hu o base (by rw [ho];rfl) hi
def qz (m:Nat) (o:Nat):Option Nat:=bif Nat.blt o m then some o else none
theorem ew.cut {B:dz} {nt L st g a w} {m:Nat} (aF:B.iw) (hm:m<=st.nx) (hp:B.bg<=m) (hh:ew B nt L st g a w) (hL:∀ t,(lk L t).cx (qz m)=lk L t) (jR:∀ o x,st.h.get o=some x->o<m/\x.cx (qz m)=some x) :
 ew B nt L { st with nx:=m } (g.cx (ff 0 m)) a w/\∀ b,ja g st.h b->ja (g.cx (ff 0 m)) st.h b:=by
 have aO:∀ o,o<m->(g.cx (ff 0 m)).inj o=g.inj o:=fun o ho=>by
  have:(ff 0 m)[o]? = some o:=by rw [Bl _ _ _ ho,Nat.zero_add]
  simp [Gh.cx,this]
 have eO:∀ o p,(g.cx (ff 0 m)).inj o=some p->g.inj o=some p:=fun o p h=>by
  by_cases ho:o<m
  ·rw [aO o ho] at h;exact h
  ·have:(ff 0 m)[o]? = none:=zzy (by rw [j8];omega);simp [Gh.cx,this] at h
 have hτ:∀ o p,qz m o=some p->(ff 0 m)[p]? = some o:=fun o p h=>by
  unfold qz at h;cases hb:Nat.blt o m with
  |false=>rw [hb] at h;cases h
  |true=>rw [hb] at h;cases h;rw [Bl _ _ _ (zB hb),Nat.zero_add]
 have hb:=hh.cur.base;refine ⟨⟨⟨⟨hh.cur.ok.size,fun o x hx=>?_,fun o o' x x' b1 aG aJ hne hx hx' hi hi'=>hh.cur.ok.sep o o' x x' b1 aG aJ hne hx hx' (eO _ _ hi) (eO _ _ hi'),hh.cur.ok.K⟩,fun o h1 h2=>?_,⟨hb.b0,fun o h1=>?_,hb.K,hb.cell,hb.size,hb.os,hb.tape,hb.output,hb.frame,fun o b1 aG h1 h2=>hb.own o b1 aG h1 (eO _ _ h2),hb.o0,hb.ju,hb.lp,hb.whole⟩,hp⟩,⟨hh.sl.1,fun t=>?_⟩,?_⟩,fun b hu o base h1 h2=>hu o base h1 (eO _ _ h2)⟩
 ·obtain ⟨h1,h2⟩:=jR o x hx;refine (hh.cur.ok.px o x hx).imp (fun q=>⟨by rw [aO o h1];exact q.1,q.2⟩) ?_;rintro ⟨b,base,q1,q2,q3⟩;exact ⟨b,base,by rw [aO o h1];exact q1,q2,q3.cx hτ h2⟩
 ·have h1:m<=o:=h1;have:(ff 0 m)[o]? = none:=zzy (by rw [j8];omega);simp [Gh.cx,this]
 ·have h1':o<B.bg:=h1.resolve_right (aF o);rw [aO o zO];exact hb.pins o h1
 ·rw [<- hL t];exact (hh.sl.2 t).cx hτ
 ·obtain ⟨bs,m1,m2,m3⟩:=hh.uf;exact ⟨bs,m1,m2,fun c hc=>⟨(m3 c hc).1,(m3 c hc).2.1,fun o aG h1 h2=>(m3 c hc).2.2 o aG h1 (eO _ _ h2)⟩⟩
theorem ew.congr {B:dz} {nt L st g a w} {st':St} (hh:ew B nt L st g a w) (hn:st'.nx=st.nx) (hg:∀ o,st'.h.get o=st.h.get o):ew B nt L st' g a w:=by have hb:=hh.cur.base;refine ⟨⟨⟨hh.cur.ok.size,fun o x hx=>hh.cur.ok.px o x (by rw [<- hg];exact hx),fun o o' x x' b1 aG aJ hne hx hx'=>hh.cur.ok.sep o o' x x' b1 aG aJ hne (by rw [<- hg];exact hx) (by rw [<- hg];exact hx'),hh.cur.ok.K⟩,by rw [hn];exact hh.cur.fresh,⟨hb.b0,hb.pins,hb.K,hb.cell,hb.size,hb.os,hb.tape,hb.output,hb.frame,fun o b1 aG h1=>hb.own o b1 aG (by rw [<- hg];exact h1),hb.o0,hb.ju,hb.lp,hb.whole⟩,by rw [hn];exact hh.cur.bg⟩,hh.sl,?_⟩;obtain ⟨bs,m1,m2,m3⟩:=hh.uf;exact ⟨bs,m1,m2,fun c hc=>⟨(m3 c hc).1,(m3 c hc).2.1,fun o aG h1=>(m3 c hc).2.2 o aG (by rw [<- hg];exact h1)⟩⟩
theorem iu.congr {B g st w cs et n sz v b} {st':St} (h:iu B g st w cs et n sz v b) (hg:∀ o,st'.h.get o=st.h.get o):iu B g st' w cs et n sz v b:=
 ⟨h.ge,h.gb,fun o aG h1=>h.un o aG (by rw [<- hg];exact h1),h.obj⟩
theorem ew.freeze {B:dz} {nt L st g a w et n sz v b} {es:List AV} (lF:TK.sz et=some sz) (hz1:sz≠1) (hcl:jt (es.flatMap AV.cells)) (hsz:∀ e ∈ es,e.cells.length=sz) (hn:es.length=n) (hh:ew B nt L st g a w) (ho:iu B g st w (es.flatMap AV.cells) et n sz v b) :
 ∃ g',ew B nt L st g' a w/\Rel g' w (.vl true sz es) v/\Ext g w g' w/\g'.inj=g.inj/\(∀ b' j,b'≠b->g'.K b' j->g.K b' j):=by
 obtain ⟨base,⟨cs,fr,o1,o2,o3,o4,o5,o6,o7,o8⟩,cap,hv,hc,hm,hroom⟩:=ho.obj
 let g':Gh:={ g with K:=fun c _j=>g.K c _j\/c=b }
 have hx:Ext g w g' w:=⟨rfl,fun _ _ h=>h,fun _ _ h=>.inl h,fun _ _ _=>rfl,fun b cs e fr h=>⟨cs,fr,h,rfl⟩,fun b l h=>⟨l,h⟩,fun _ _ _ _ _ _=>rfl⟩;have hb:=hh.cur.base;have hK:∀ b' j,b'≠b->g'.K b' j->g.K b' j:=fun b' j hne hk=>hk.resolve_right (fun q=>hne q)
 refine ⟨g',⟨⟨⟨hh.cur.ok.size,fun o x hx'=>?_,hh.cur.ok.sep,fun c j hk=>?_⟩,hh.cur.fresh,⟨hb.b0,hb.pins,fun c j hk=>.inl (hb.K c j hk),hb.cell,hb.size,hb.os,hb.tape,hb.output,hb.frame,hb.own,fun c j hk=>?_,hb.ju,hb.lp,hb.whole⟩,hh.cur.bg⟩,hh.sl.ext hx,hh.uf⟩,?_,hx,rfl,hK⟩
 ·refine (hh.cur.ok.px o x hx').imp id ?_;rintro ⟨b1,aG,q1,q2,q3⟩;have hne:b1≠b:=fun e=>by subst e;exact ho.un o aG (by rw [hx'];rfl) q1
  exact ⟨b1,aG,q1,q2,q3.ext hx rfl (fun j hj=>hK b1 j hne hj)⟩
 ·rcases hk with hk|rfl
  ·exact hh.cur.ok.K c j hk
  ·exact cd o1
 ·rcases hk with hk|rfl
  ·exact hb.o0 c j hk
  ·exact .inr (.inl ho.ge)
 ·rw [hv,<- hn];have hcell:∀ (j:Nat) x,(es.flatMap AV.cells)[j]? = some x->∃ c,cs[base+j]? = some c/\Rel g w x c:=o3;refine .vl true sz es b base cap (fun j=>cs.getD (base+j) undef) hsz (fun _=>ho.gb) zO (fun j x hx'=>?_) (fun j x hx'=>?_) (fun _=>?_)
  ·obtain ⟨c,q1,q2⟩:=hcell j x hx';have hj:=(zg.1 hx').1;refine ⟨.inr rfl,?_⟩;rw [kz o1,zze,q1];rfl
  ·obtain ⟨c,q1,q2⟩:=hcell j x hx';rw [zze,q1];exact q2.ext hx
  ·have hf:=o6 (by decide);subst hf;obtain ⟨p1,_,_⟩:=o8 rfl;subst p1;obtain ⟨cs1,e1,kA,t1,t2⟩:=hroom;rw [o1] at t1;cases t1;exact ⟨fun j=>.inr rfl,⟨cs,et,o1,zO,lF,by simp,fun e=>absurd e hz1⟩,fun e=>absurd e hz1,hm⟩
theorem Pe {P:Program} [KP P] {N:Nat} {F:Fence} {c:Code} {Q:Exit->Act->World->Prop} {α:Type} (I : α->Act->World->Prop) (μ : α->Nat)
 (h:∀ x a w,I x a w->c.wpIn F N P (Exit.then (fun a' w'=>∃ y,μ y < μ x/\I y a' w') Q) a w) (x : α) (a:Act) (w:World) (hi:I x a w):(Code.loop c).wpIn F N P Q a w:=by
 refine D1 fun X hX=>?_
 have key:∀ n x a w,μ x=n->I x a w->X a w:=by
  intro n
  induction n using Nat.strongRecOn with
  |_ n ih=>
   intro x a w hn hi;refine hX a w (wpIn_mono (h x a w hi) ?_);intro ex a' w' hq;cases ex with
   |normal=>
    obtain ⟨y,h1,h2⟩:=hq;exact ih (μ y) zO y a' w' rfl h2
   |exit id=>exact hq
   |goto l=>exact hq
   |ret=>exact hq
   |panic ch=>exact hq
   |outgrown=>exact hq
 exact key _ x a w rfl hi
theorem yp {P:Program} [KP P] {f:Nat} {fn:Func} {body:Code} (hf:P.funcs[f]? = some fn) (hb:fn.body=some body) (he:qk P f=true)
 {args:List AV} (hl:args.length<=fn.ntmps) {ρ:Type} (R:RC ρ) (fr:Bool) (x : ρ)
 (h:∀ (B:dz) (g:Gh) (a:Act) (w:World),B.iw->B.bg=0->(∀ b,¬ B.O b)->B.n0<=B.w.heap.size->ew B fn.ntmps (cj 0 args) (ay []) g a w->body.wpIn (fw none) 0 P (Fin B fn.ntmps (di P fn.results.toList (fun r st=>R.get fr st.h r=some x))) a w):bo P f args (R.E fr x):=by
 intro K w vs hK hrel;refine .inr ⟨ur he _ _,yy (ro:=none) (n:=0) (callsIn_of_wp_marks hf hb trivial ?_)⟩
 let B:dz:={ b0:=w.heap.size,w,K,O:=fun _=>False,bg:=0,pb:=fun _=>none,n0:=w.heap.size }
 have bE:mf B (gK w.heap.size K) (ay []) w:=by
  refine ⟨⟨zza _,fun o x hx=>?_,fun o o' x x' b base base' _ hx=>?_,hK⟩,fun o _ _=>rfl,⟨rfl,(fun o ho=>(by rcases ho with ho|ho;cases ho;exact ho.elim)),fun _ _ h=>h,fun _ _ _=>rfl,zza _,rfl,rfl,rfl,fun _ _ _=>rfl,fun o b base ho=>?_,fun _ _ h=>.inl h,fun b cs e fr h=>⟨cs,fr,h,rfl⟩,fun b l h=>⟨l,h⟩,fun _ _ _ _ _ _=>rfl⟩,zzb _⟩
  ·simp [ay,ov,Tr.get_nil] at hx
  ·simp [ay,ov,Tr.get_nil] at hx
  ·simp [ay,ov,Tr.get_nil] at ho
 refine wpIn_mono (h B (gK w.heap.size K) _ w (fun _ h=>h) rfl (fun _ h=>h) (zza _) ⟨bE,Ek hrel hl,Marks.nil _ _ _ _⟩) ?_;rintro ex a w' ⟨e,L,st,g,rfl,hq,hc,hr,hd⟩;have fin:Mc (xt P L st fn.results.toList) (fun r st=>R.get fr st.h r=some x) st->bodyPostM (fw none) 0 P fn (fun e w'=>∃ v,e = .returned v/\ta w w'/\Rel (gK w.heap.size (Pc K w w')) w' (R.E fr x) v) .ret a w':=by
  intro hq;show LeavesInM (fw none) 0 P fn a.tmps _ a.defers .returning w';unfold Mc at hq;cases hres:xt P L st fn.results.toList with
  |none=>rw [hres] at hq;exact hq.elim
  |some l=>
   rw [hres] at hq;have bI:=hc.base;obtain ⟨bs,e1,e2,e3⟩:=hd;have e1:=e1.trans (zzn _);rw [e1];refine G4 (Good:=fun u=>Ok g st.h u/\ta w u/\(∀ a v,Rel g w' a v->Rel g u a v)/\u.heap.size=w'.heap.size) (S:=fun b=>w.heap.size<=b/\ja g st.h b) ?_ ?_ bs w'
    ⟨hc.ok,⟨bI.size,fun b hlt=>bI.frame b hlt (fun h=>h),bI.os,bI.tape,bI.output⟩,fun _ _ h=>h,rfl⟩ e2 (fun b hb=>⟨⟨(e3 b hb).1,(e3 b hb).2.2⟩,(e3 b hb).2.1⟩)
   ·rintro u b ⟨g1,g2,g3,g4⟩ ⟨hb1,hb2⟩ hb3;have hput:=Ok.Mj (ds':=none) g1 hb3 hb2;exact ⟨hput.1,⟨by rw [pd];exact g2.size,fun c hc=>(gm u _ zO).trans (g2.heap c hc),g2.os,g2.tape,g2.output⟩,fun a v h=>hput.2 a v (g3 a v h),by rw [pd];exact g4⟩
   ·rintro u ⟨g1,g2,g3,g4⟩;obtain ⟨us,h1,h2⟩:=ac4 (P:=P) g1 ⟨hr.1,fun t=>g3 _ _ (hr.2 t)⟩ fn.results.toList l hres;obtain ⟨v,h3,h4⟩:=abu h1 h2;refine ⟨v,h3,v,rfl,g2,?_⟩;refine R.ok g1 ⟨fun b j hk=>?_,fun o cells k s e ho b base hi j hj=>?_⟩ (fun _=>?_) h4 hq
    ·rcases bI.o0 b j hk with h5|h5|h5
     ·exact .inl h5
     ·exact .inr ⟨h5,g1.K b j hk⟩
     ·exact h5.elim
    ·obtain ⟨b',base',h5,_,h6⟩:=g1.obj o _ ho;rw [hi] at h5;cases h5;rcases bI.own o b base (by rw [ho];rfl) hi with h7|h7
     ·exact .inr ⟨h7,h6.lt⟩
     ·exact h7.elim
    ·rw [bI.b0];exact zza _
 cases e with
 |normal=>exact fin hq
 |ret=>exact fin hq
 |exit id=>exact hq.elim
theorem iu.Dc {B g st w cs et n sz v b o x y} {st':St} (aD:o<=cz) (ho:st.h.get o=some x) (hs:st' = { st with h:=Tr.set depth st.h o (some y) }) (h:iu B g st w cs et n sz v b):iu B g st' w cs et n sz v b:=by subst hs;exact h.G7 aD ho
theorem si (os:List (Option bk)) (o:Nat) (h:os.length<=cz):(ay os).h.get o=(os[o]?).join:=by show (ov 0 os).get o=_;rw [wo _ _ _ zO,if_pos (zzb _),Nat.sub_zero]
theorem F0 {g w} {vs:List Value} {X Y:List AV} {a a':AV} (h:bz g w (X++a::Y) vs) (hv:∀ v,vs[X.length]? = some v->Rel g w a' v):bz g w (X++a'::Y) vs:=by
 refine ⟨by rw [h.1];simp,fun j x v hx wF=>?_⟩;by_cases e:j=X.length
 ·subst e;rw [zzd (zza _),Nat.sub_self] at hx;cases hx;exact hv v wF
 ·refine h.2 j x v ?_ wF;rw [<- hx];rcases Nat.lt_or_gt_of_ne e with q|q
  ·rw [zzi q,zzi q]
  ·rw [zzd zO,zzd zO];obtain ⟨k,hk⟩:∃ k,j - X.length=k+1:=⟨j - X.length - 1,zO⟩;rw [hk];rfl
theorem aL2 {B:dz} {nt L g a w} {M:bk} {X Y:List AV} {cells:List AV} {et ey:TypeId} {n sz m z t0:Nat} (aF:B.iw) (hO:∀ b,¬ B.O b) (hp:B.bg=0) (hn : 0<n) (hcl:jt cells) (cM:lk L t0 = .sl 1 0 m z) (hm : 0<m) (hM:M.cx (qz 2)=some M)
 (hX:X.map (AV.cx (qz 2))=X) (hY:Y.map (AV.cx (qz 2))=Y) (hL:∀ t,(lk L t).cx (qz 2)=lk L t)
 (hh:ew B nt L (ay [some M,some (.row (X++AV.sl 2 0 n sz::Y) 0 0 et),some (.row cells 0 0 ey)]) g a w) :
 ∃ v b g',ew B nt L (ay [some M,some (.row (X++AV.sc v::Y) 0 0 et)]) g' a w/\iu B g' (ay [some M,some (.row (X++AV.sc v::Y) 0 0 et)]) w cells ey n sz v b /\
  ∀ cs e2 n2 cE v2 b2,jt cs->iu B g (ay [some M,some (.row (X++AV.sl 2 0 n sz::Y) 0 0 et),some (.row cells 0 0 ey)]) w cs e2 n2 cE v2 b2->b2≠b/\iu B g' (ay [some M,some (.row (X++AV.sc v::Y) 0 0 et)]) w cs e2 n2 cE v2 b2:=by
 have hlen:∀ x y z:Option bk,[x,y,z].length<=cz:=fun x y z=>by simp [cz]
 obtain ⟨st,hst⟩:∃ st,st=ay [some M,some (.row (X++AV.sl 2 0 n sz::Y) 0 0 et),some (.row cells 0 0 ey)]:=⟨_,rfl⟩;have g1:st.h.get 1=some (.row (X++AV.sl 2 0 n sz::Y) 0 0 et):=by rw [hst,si _ _ (hlen _ _ _)];rfl
 have g2:st.h.get 2=some (.row cells 0 0 ey):=by rw [hst,si _ _ (hlen _ _ _)];rfl
 have gx:∀ o,st.h.get o=if o=0 then some M else if o=1 then some (.row (X++AV.sl 2 0 n sz::Y) 0 0 et) else if o=2 then some (.row cells 0 0 ey) else none:=fun o=>by
  rw [hst,si _ _ (hlen _ _ _)]
  match o with
  |0=>rfl
  |1=>rfl
  |2=>rfl
  |o+3=>simp
 have bN:st.nx=3:=by rw [hst];rfl
 rw [<- hst] at hh ⊢;have hi:∃ p,g.inj 1=some p:=by
  have:=hh.sl.2 t0;rw [cM] at this;generalize a.tmps.getD t0 undef=u at this;cases this with
  |sl _ _ _ _ b base cap hi=>exact ⟨_,hi⟩
  |ug=>omega
  |uw=>omega
 have l1 : 1<=cz:=by simp [cz]
 have l2 : 2<=cz:=by simp [cz]
 obtain ⟨pa,gZ,hv2⟩:=hh.pa g1 hi;have aV:X.length<pa.length:=by rw [hv2.1];simp
 obtain ⟨v,hv⟩:∃ v,pa[X.length]? = some v:=⟨_,zh aV⟩;have sI:Rel g w (.sl 2 0 n sz) v:=hv2.2 X.length _ v (by rw [zzd (zza _),Nat.sub_self];rfl) hv;have hv3:bz g w (X++AV.sc v::Y) pa:=F0 hv2 (fun u hu=>by rw [hv] at hu;cases hu;exact .sc _);have H1:=hh.G7 l1 g1 gZ hv2 hv3;obtain ⟨fg,bM⟩:∃ fg,fg = { st with h:=Tr.set depth st.h 1 (some (bk.row (X++AV.sc v::Y) 0 0 et)) }:=⟨_,rfl⟩;rw [<- bM] at H1;have jA:∀ o,fg.h.get o=if o=1 then some (.row (X++AV.sc v::Y) 0 0 et) else st.h.get o:=fun o=>by rw [bM];exact gp _ _ _ _ l1
 have uW:fg.h.get 2=some (.row cells 0 0 ey):=by rw [jA,if_neg zO,g2]
 obtain ⟨b,H2,O2,vF⟩:=H1.release hO l2 uW hn sI;have fO:∀ o,(fg.less 2).h.get o=if o=2 then none else fg.h.get o:=fun o=>gp _ _ _ _ l2
 have mU:∀ o,(fg.less 2).h.get o=(ay [some M,some (.row (X++AV.sc v::Y) 0 0 et)]).h.get o:=fun o=>by
  rw [fO,jA,gx,si _ _ (by simp [cz])]
  match o with
  |0=>rfl
  |1=>rfl
  |2=>rfl
  |o+3=>simp
 have lW:(fg.less 2).nx=3:=by rw [show (fg.less 2).nx=fg.nx from rfl,bM];exact bN
 obtain ⟨H3,vE⟩:=H2.cut (m:=2) aF (by rw [lW];omega) zO hL (fun o x hx=>by
  rw [mU,si _ _ (by simp [cz])] at hx
  match o with
  |0=>
   have:some M=some x:=hx;cases this;exact ⟨zO,hM⟩
  |1=>
   have:some (bk.row (X++AV.sc v::Y) 0 0 et)=some x:=hx;cases this;refine ⟨zO,?_⟩;simp only [bk.cx,kr,zzw,List.map_cons,hX,hY];rfl
  |o+2=>simp at hx)
 have H4:=H3.congr (st':=ay [some M,some (.row (X++AV.sc v::Y) 0 0 et)]) rfl (fun o=>(mU o).symm);have gW:∀ {cs e2 n2 cE v2 b2},jt cs->iu B g (fg.less 2) w cs e2 n2 cE v2 b2->iu B (g.cx (ff 0 2)) (ay [some M,some (.row (X++AV.sc v::Y) 0 0 et)]) w cs e2 n2 cE v2 b2:=fun hc ho=>by have h1:=ho.move (g':=g.cx (ff 0 2)) (st':=fg.less 2) hc rfl (fun _ _ h=>h) (fun _ h=>h) (vE _ ho.un);exact h1.congr (fun o=>(mU o).symm)
 refine ⟨v,b,_,H4,?_,fun cs e2 n2 cE v2 b2 hc ho=>?_⟩
 ·exact gW hcl O2
 ·have hu:=(vF b2 (ho.Dc l1 g1 bM).un);have ho1:iu B g (fg.less 2) w cs e2 n2 cE v2 b2:=(ho.Dc l1 g1 bM).move hc rfl (fun _ _ h=>h) (fun _ h=>h) hu.2;exact ⟨hu.1,gW hc ho1⟩
theorem aHn {B:dz} {nt L g a w} {M:bk} {X Y:List AV} {cells:List AV} {et ey:TypeId} {n sz m z t0:Nat} {v:Value} {b:Nat} (aF:B.iw) (cM:lk L t0 = .sl 1 0 m z) (hm : 0<m)
 (hh:ew B nt L (ay [some M,some (.row (X++AV.sc v::Y) 0 0 et)]) g a w) (ho:iu B g (ay [some M,some (.row (X++AV.sc v::Y) 0 0 et)]) w cells ey n sz v b) :
 ∃ g',ew B nt L (ay [some M,some (.row (X++AV.sl 2 0 n sz::Y) 0 0 et),some (.row cells 0 0 ey)]) g' a w /\
  ∀ cs e2 n2 cE v2 b2,jt cs->b2≠b->iu B g (ay [some M,some (.row (X++AV.sc v::Y) 0 0 et)]) w cs e2 n2 cE v2 b2->iu B g' (ay [some M,some (.row (X++AV.sl 2 0 n sz::Y) 0 0 et),some (.row cells 0 0 ey)]) w cs e2 n2 cE v2 b2:=by
 obtain ⟨st,hst⟩:∃ st,st=ay [some M,some (.row (X++AV.sc v::Y) 0 0 et)]:=⟨_,rfl⟩;have gx:∀ o,st.h.get o=if o=0 then some M else if o=1 then some (.row (X++AV.sc v::Y) 0 0 et) else none:=fun o=>by
  rw [hst,si _ _ (by simp [cz])]
  match o with
  |0=>rfl
  |1=>rfl
  |o+2=>simp
 have bN:st.nx=2:=by rw [hst];rfl
 have l1 : 1<=cz:=by simp [cz]
 have l2 : 2<=cz:=by simp [cz]
 rw [<- hst] at hh ho ⊢;obtain ⟨g',H1,hr,hx,hK,hu,aO⟩:=hh.focus aF (by rw [bN];exact l2) ho;have hi:∃ p,g'.inj 1=some p:=by
  have:=H1.sl.2 t0;rw [cM] at this;generalize a.tmps.getD t0 undef=u at this;cases this with
  |sl _ _ _ _ b base cap hi=>exact ⟨_,hi⟩
  |ug=>omega
  |uw=>omega
 obtain ⟨fg,bM⟩:∃ fg,fg=st.more (.row cells 0 0 ey):=⟨_,rfl⟩;rw [<- bM] at H1 hu;rw [bN] at hr;have jA:∀ o,fg.h.get o=if o=2 then some (.row cells 0 0 ey) else st.h.get o:=fun o=>by rw [bM];show (Tr.set depth st.h st.nx _).get o=_;rw [bN];exact gp _ _ _ _ l2
 have g1:fg.h.get 1=some (.row (X++AV.sc v::Y) 0 0 et):=by rw [jA,gx];rfl
 obtain ⟨pa,gZ,hv2⟩:=H1.pa g1 hi;have hv3:bz g' w (X++AV.sl 2 0 n sz::Y) pa:=F0 hv2 (fun u hu=>by have:=hv2.2 X.length _ u (by rw [zzd (zza _),Nat.sub_self];rfl) hu;have:=this.exact (x:=v) rfl;subst this;exact hr)
 have H2:=H1.G7 l1 g1 gZ hv2 hv3;obtain ⟨cO,bL⟩:∃ cO,cO = { fg with h:=Tr.set depth fg.h 1 (some (bk.row (X++AV.sl 2 0 n sz::Y) 0 0 et)) }:=⟨_,rfl⟩;rw [<- bL] at H2;have fO:∀ o,(ay [some M,some (.row (X++AV.sl 2 0 n sz::Y) 0 0 et),some (.row cells 0 0 ey)]).h.get o=cO.h.get o:=fun o=>by
  have:cO.h.get o=if o=1 then some (.row (X++AV.sl 2 0 n sz::Y) 0 0 et) else fg.h.get o:=by rw [bL];exact gp _ _ _ _ l1
  rw [this,jA,gx,si _ _ (by simp [cz])]
  match o with
  |0=>rfl
  |1=>rfl
  |2=>rfl
  |o+3=>simp
 have fA:cO.nx=3:=by rw [bL];show fg.nx=3;rw [bM];show st.nx+1=3;rw [bN]
 refine ⟨g',H2.congr fA.symm fO,fun cs e2 n2 cE v2 b2 hc hne h2=>?_⟩;have q1:=h2.move (g':=g') (st':=fg) hc hx.b0 hx.K (fun j hj=>hK _ j hj) (hu b2 h2.un hne);exact (q1.Dc l1 g1 bL).congr fO
theorem aKq {B:dz} {nt L g a w} {M:bk} {X Y es:List AV} {et ey:TypeId} {n sz m z t0:Nat} {v:Value} {b:Nat} (lF:TK.sz ey=some sz) (hz1:sz≠1) (cM:lk L t0 = .sl 1 0 m z) (hm : 0<m) (hcl:jt (es.flatMap AV.cells)) (hsz:∀ e ∈ es,e.cells.length=sz) (hn:es.length=n)
 (hh:ew B nt L (ay [some M,some (.row (X++AV.sc v::Y) 0 0 et)]) g a w) (ho:iu B g (ay [some M,some (.row (X++AV.sc v::Y) 0 0 et)]) w (es.flatMap AV.cells) ey n sz v b) :
 ∃ g',ew B nt L (ay [some M,some (.row (X++AV.vl true sz es::Y) 0 0 et)]) g' a w /\
  ∀ cs e2 n2 cE v2 b2,jt cs->b2≠b->iu B g (ay [some M,some (.row (X++AV.sc v::Y) 0 0 et)]) w cs e2 n2 cE v2 b2->iu B g' (ay [some M,some (.row (X++AV.vl true sz es::Y) 0 0 et)]) w cs e2 n2 cE v2 b2:=by
 obtain ⟨st,hst⟩:∃ st,st=ay [some M,some (.row (X++AV.sc v::Y) 0 0 et)]:=⟨_,rfl⟩;have gx:∀ o,st.h.get o=if o=0 then some M else if o=1 then some (.row (X++AV.sc v::Y) 0 0 et) else none:=fun o=>by
  rw [hst,si _ _ (by simp [cz])]
  match o with
  |0=>rfl
  |1=>rfl
  |o+2=>simp
 have bN:st.nx=2:=by rw [hst];rfl
 have l1 : 1<=cz:=by simp [cz]
 rw [<- hst] at hh ho ⊢;obtain ⟨g',H1,hr,hx,aO,hK⟩:=hh.freeze lF hz1 hcl hsz hn ho;have hi:∃ p,g'.inj 1=some p:=by
  have:=H1.sl.2 t0;rw [cM] at this;generalize a.tmps.getD t0 undef=u at this;cases this with
  |sl _ _ _ _ b base cap hi=>exact ⟨_,hi⟩
  |ug=>omega
  |uw=>omega
 have g1:st.h.get 1=some (.row (X++AV.sc v::Y) 0 0 et):=by rw [gx];rfl
 obtain ⟨pa,gZ,hv2⟩:=H1.pa g1 hi;have hv3:bz g' w (X++AV.vl true sz es::Y) pa:=F0 hv2 (fun u hu=>by have:=hv2.2 X.length _ u (by rw [zzd (zza _),Nat.sub_self];rfl) hu;have:=this.exact (x:=v) rfl;subst this;exact hr)
 have H2:=H1.G7 l1 g1 gZ hv2 hv3;obtain ⟨cO,bL⟩:∃ cO,cO = { st with h:=Tr.set depth st.h 1 (some (bk.row (X++AV.vl true sz es::Y) 0 0 et)) }:=⟨_,rfl⟩;rw [<- bL] at H2;have fO:∀ o,(ay [some M,some (.row (X++AV.vl true sz es::Y) 0 0 et)]).h.get o=cO.h.get o:=fun o=>by
  have:cO.h.get o=if o=1 then some (.row (X++AV.vl true sz es::Y) 0 0 et) else st.h.get o:=by rw [bL];exact gp _ _ _ _ l1
  rw [this,gx,si _ _ (by simp [cz])]
  match o with
  |0=>rfl
  |1=>rfl
  |o+2=>simp
 have fA:cO.nx=2:=by rw [bL];exact bN
 refine ⟨g',H2.congr fA.symm fO,fun cs e2 n2 cE v2 b2 hc hne h2=>?_⟩;have q1:=h2.move (g':=g') (st':=st) hc hx.b0 hx.K (fun j hj=>hK _ j hne hj) (fun o base h3 h4=>h2.un o base h3 (by rw [<- aO];exact h4));exact (q1.Dc l1 g1 bL).congr fO
def rz (S:Nat->Prop) (M:Nat) (w:World) (k:LK) (v:Value):Prop:=
 (∃ a,v = .slice a 0 0)\/∃ (b off n cap:Nat) (cs:Array Value) (e:TypeId),v = .slice (some ⟨b,off,none⟩) n cap/\S b/\(n<=cap/\cap<=maxLen)/\w.heap[b]? = some (.cells cs e (0,0))/\TK.sz e=some 1/\off+cap<=cs.size /\
  ∀ (j:Nat) x,j<cap->cs[off+j]? = some x->qy x=k/\∀ s,x = .string s->s.size<=M
def qw (S:Nat->Prop) (N:Nat) (w:World) (sz:Nat) (E:World->List Value->Prop) (v:Value):Prop:=
 (∃ a,v = .slice a 0 0)\/∃ (b off n cap:Nat) (cs:Array Value) (e:TypeId),v = .slice (some ⟨b,off,none⟩) n cap/\n<=N/\S b/\(n<=cap/\cap<=maxLen)/\w.heap[b]? = some (.cells cs e (0,0))/\TK.sz e=some sz/\off % sz=0/\off+cap * sz<=cs.size /\
  ∀ j,j<n->E w ((List.range sz).map fun i=>cs.getD (off+j * sz+i) undef)
theorem rz.slice {S M w k v} (h:rz S M w k v):qy v = .no:=by rcases h with ⟨a,rfl⟩|⟨b,off,n,cap,cs,e,rfl,_⟩<;>rfl
theorem qw.slice {S N w sz E v} (h:qw S N w sz E v):qy v = .no:=by rcases h with ⟨a,rfl⟩|⟨b,off,n,cap,cs,e,rfl,_⟩<;>rfl
def Kept (S:Nat->Prop) (m:Nat) (xx:Bool) (w':World) (e:TypeId) (j:Nat) (x x':Value):Prop:=
 x'=x\/(qy x ≠ .no/\qy x'=qy x/\∀ s',x' = .string s'->∃ s,x = .string s/\s'.size<=s.size+m)\/((xx=true/\TK.sz e=some 4)/\((j % 4≠2/\x' = .slice none 0 0)\/(j % 4=2/\rz S (4+m) w' .str x')))
structure kx (S:Nat->Prop) (m:Nat) (xx:Bool) (w w':World):Prop where
 size:w.heap.size<=w'.heap.size
 os:w'.os=w.os
 tape:w'.tape=w.tape
 output:w'.output=w.output
 low:∀ b,b<w.heap.size->¬ S b->w'.heap[b]? = w.heap[b]?
 obj:∀ (b:Nat) o,w.heap[b]? = some o->(∀ cs e fr,o ≠ .cells cs e fr)->w'.heap[b]? = some o
 cells:∀ (b:Nat) (cs:Array Value) (e:TypeId) (fr:Nat × Nat),w.heap[b]? = some (.cells cs e fr)->∃ cs',w'.heap[b]? = some (.cells cs' e fr)/\cs'.size=cs.size /\
  ∀ (j:Nat) x x',cs[j]? = some x->cs'[j]? = some x'->Kept S m xx w' e j x x'
theorem kx.refl (S:Nat->Prop) (m:Nat) (xx:Bool) (w:World):kx S m xx w w where
 size:=zza _
 os:=rfl
 tape:=rfl
 output:=rfl
 low _ _ _:=rfl
 obj _ _ h _:=h
 cells _ cs _ _ h:=⟨cs,h,rfl,fun j x x' h1 h2=>.inl (by rw [h1] at h2;cases h2;rfl)⟩
theorem kx.quiet (S:Nat->Prop) (m:Nat) (xx:Bool) {w w':World} (hs:w.heap.size<=w'.heap.size) (ho:w'.os=w.os) (ht:w'.tape=w.tape) (hu:w'.output=w.output) (hh:∀ b,b<w.heap.size->w'.heap[b]? = w.heap[b]?):kx S m xx w w' where
 size:=hs
 os:=ho
 tape:=ht
 output:=hu
 low b hb _:=hh b hb
 obj b o h _:=(hh b (cd h)).trans h
 cells b cs e fr h:=⟨cs,(hh b (cd h)).trans h,rfl,fun j x x' h1 h2=>.inl (by rw [h1] at h2;cases h2;rfl)⟩
theorem rz.mono {S M M' w k v} (h:rz S M w k v) (hM:M<=M'):rz S M' w k v:=by
 rcases h with h|⟨b,off,n,cap,cs,e,h0,h1,h2,h3,h4,h5,h6⟩
 ·exact .inl h
 ·exact .inr ⟨b,off,n,cap,cs,e,h0,h1,h2,h3,h4,h5,fun j x hj hx=>⟨(h6 j x hj hx).1,fun s hs=>zzu ((h6 j x hj hx).2 s hs) hM⟩⟩
theorem rz.qn {S m M xx w w' k v} (hk:k ≠ .no) (h:kx S m xx w w') (hl:rz S M w k v):rz S (M+m) w' k v:=by
 rcases hl with hl|⟨b,off,n,cap,cs,e,rfl,h1,h2,h3,h4,h5,h6⟩
 ·exact .inl hl
 ·obtain ⟨cs',q1,q2,q3⟩:=h.cells b cs e _ h3;refine .inr ⟨b,off,n,cap,cs',e,rfl,h1,h2,q1,h4,zO,fun j x' hj hx'=>?_⟩;have hlt:off+j<cs.size:=zO;have hx:=zz3 hlt;obtain ⟨fV,fT⟩:=h6 j _ hj hx;rcases q3 _ _ _ hx hx' with q|⟨_,q,qs⟩|⟨q,_⟩
  ·rw [q];exact ⟨fV,fun s hs=>by have:=fT s hs;omega⟩
  ·refine ⟨by rw [q];exact fV,fun s hs=>?_⟩;obtain ⟨s0,e1,e2⟩:=qs s hs;have:=fT s0 e1;omega
  ·have:=q.2;rw [h4] at this;cases this
theorem Kept.mono {S:Nat->Prop} {m m':Nat} {xx:Bool} {w:World} {e:TypeId} {j:Nat} {x y:Value} (hm:m<=m') (h:Kept S m xx w e j x y):Kept S m' xx w e j x y:=by
 rcases h with h|⟨h1,h2,h3⟩|⟨h1,h2⟩
 ·exact .inl h
 ·exact .inr (.inl ⟨h1,h2,fun s' hs=>by obtain ⟨s,e1,e2⟩:=h3 s' hs;exact ⟨s,e1,zO⟩⟩)
 ·exact .inr (.inr ⟨h1,h2.imp id (fun q=>⟨q.1,q.2.mono zO⟩)⟩)
theorem Kept.any {S:Nat->Prop} {m:Nat} {xx:Bool} {w:World} {e:TypeId} {j:Nat} {x y:Value} (h:Kept S m false w e j x y):Kept S m xx w e j x y:=by
 rcases h with h|h|⟨⟨h,_⟩,_⟩
 ·exact .inl h
 ·exact .inr (.inl h)
 ·cases h
theorem kx.mono {S m m' xx w w'} (hm:m<=m') (h:kx S m xx w w'):kx S m' xx w w':=
 ⟨h.size,h.os,h.tape,h.output,h.low,h.obj,fun b cs e fr hb=>by obtain ⟨cs',q1,q2,q3⟩:=h.cells b cs e fr hb;exact ⟨cs',q1,q2,fun j x x' hx hx'=>(q3 j x x' hx hx').mono hm⟩⟩
theorem kx.any {S m xx w w'} (h:kx S m false w w'):kx S m xx w w':=
 ⟨h.size,h.os,h.tape,h.output,h.low,h.obj,fun b cs e fr hb=>by obtain ⟨cs',q1,q2,q3⟩:=h.cells b cs e fr hb;exact ⟨cs',q1,q2,fun j x x' hx hx'=>(q3 j x x' hx hx').any⟩⟩
theorem Kept.trans {S:Nat->Prop} {m1 m2:Nat} {xx:Bool} {w1 w2:World} {e:TypeId} {j:Nat} {x y z:Value} (h1:Kept S m1 xx w1 e j x y) (ho:kx S m2 xx w1 w2) (h2:Kept S m2 xx w2 e j y z):Kept S (m1+m2) xx w2 e j x z:=by
 rcases h1 with rfl|⟨a1,a2,a3⟩|⟨a1,a2⟩
 ·exact h2.mono zO
 ·rcases h2 with rfl|⟨b1,b2,b3⟩|b
  ·exact .inr (.inl ⟨a1,a2,fun s' hs=>by obtain ⟨s,e1,e2⟩:=a3 s' hs;exact ⟨s,e1,zO⟩⟩)
  ·refine .inr (.inl ⟨a1,b2.trans a2,fun s' hs=>?_⟩);obtain ⟨s1,e1,e2⟩:=b3 s' hs;obtain ⟨s,e3,e4⟩:=a3 s1 e1;exact ⟨s,e3,zO⟩
  ·exact .inr (.inr ⟨b.1,b.2.imp id (fun q=>⟨q.1,q.2.mono zO⟩)⟩)
 ·rcases h2 with rfl|⟨b1,b2,b3⟩|b
  ·refine .inr (.inr ⟨a1,a2.imp id (fun q=>⟨q.1,(q.2.qn (by decide) ho).mono zO⟩)⟩)
  ·rcases a2 with ⟨_,rfl⟩|⟨_,q⟩
   ·exact absurd rfl b1
   ·exact absurd q.slice b1
  ·exact .inr (.inr ⟨b.1,b.2.imp id (fun q=>⟨q.1,q.2.mono zO⟩)⟩)
theorem kx.trans {S m1 m2 xx w1 w2 w3} (h1:kx S m1 xx w1 w2) (h2:kx S m2 xx w2 w3):kx S (m1+m2) xx w1 w3 where
 size:=zzu h1.size h2.size
 os:=h2.os.trans h1.os
 tape:=h2.tape.trans h1.tape
 output:=h2.output.trans h1.output
 low b hb hS:=(h2.low b (zyd hb h1.size) hS).trans (h1.low b hb hS)
 obj b o h hn:=h2.obj b o (h1.obj b o h hn) hn
 cells b cs e fr h:=by
  obtain ⟨cs1,a1,a2,a3⟩:=h1.cells b cs e fr h;obtain ⟨kX,b1,b2,b3⟩:=h2.cells b cs1 e fr a1;refine ⟨kX,b1,b2.trans a2,fun j x z hx hz=>?_⟩;have hlt:j<cs1.size:=by rw [a2];exact (zz1.1 hx).1
  have hy:=zz3 hlt;exact (a3 j x _ hx hy).trans h2 (b3 j _ z hy hz)
def Uq (S:Nat->Prop) (sz:Nat) (E:Nat->World->List Value->Prop):Prop:=
 ∀ {m M:Nat} {xx:Bool} {w w':World} {e:TypeId} {j0:Nat} {l l':List Value},4<=M->kx S m xx w w'->TK.sz e=some sz->j0 % sz=0->l.length=sz->l'.length=sz->(∀ (i:Nat) x x',l[i]? = some x->l'[i]? = some x'->Kept S m xx w' e (j0+i) x x')->E M w l->E (M+m) w' l'
theorem qw.qn {S N m M xx w w' sz E v} (hE:Uq S sz E) (hM : 4<=M) (h:kx S m xx w w') (hl:qw S N w sz (E M) v):qw S N w' sz (E (M+m)) v:=by
 rcases hl with hl|⟨b,off,n,cap,cs,e,rfl,h0,h1,h2,h3,h4,h5,h6,h7⟩
 ·exact .inl hl
 ·obtain ⟨cs',q1,q2,q3⟩:=h.cells b cs e _ h3;refine .inr ⟨b,off,n,cap,cs',e,rfl,h0,h1,h2,q1,h4,h5,zO,fun j hj=>?_⟩;have hle:(j+1) * sz<=cap * sz:=zz4 _ zO;rw [Nat.succ_mul] at hle;refine hE (j0:=off+j * sz) hM h h4 (by rw [Nat.add_mul_mod_self_right];exact h5) (by simp) (by simp) (fun i x x' hx hx'=>?_) (h7 j hj);rw [zzj,zzk] at hx hx';obtain ⟨i1,e1,rfl⟩:=hx;obtain ⟨i2,e2,rfl⟩:=hx';obtain ⟨hi,rfl⟩:=zg.1 e1;obtain ⟨_,rfl⟩:=zg.1 e2;simp only [List.length_range] at hi;simp only [List.getElem_range];have hlt:off+j * sz+i<cs.size:=zO;refine q3 _ _ _ ?_ ?_
  ·rw [zze,zz3 hlt];rfl
  ·rw [zze,zz3 zO];rfl
def aha (S:Nat->Prop) (M:Nat) (w:World) (l:List Value):Prop:=∃ v,l=[v]/\rz S M w .str v
def T3 (S:Nat->Prop) (Nn M:Nat) (w:World) (l:List Value):Prop:=∃ a b c d,l=[a,b,c,d]/\qw S Nn w 1 (aha S M) a/\rz S M w (.int .u32) b/\rz S M w .str c/\rz S M w (.int .u8) d
def Q4 (S:Nat->Prop) (Nn Nd M:Nat) (w:World) (l:List Value):Prop:=∃ o t c u d,l=[o,t,c,u,d]/\rz S M w .str o/\qy t = .int .u16/\qy c = .int .u16/\qy u = .int .u32/\qw S Nd w 4 (T3 S Nn M) d
theorem Kept.same {S m xx w' e j x x' sz} (h:Kept S m xx w' e j x x') (hs:TK.sz e=some sz) (hz:sz≠4) (hx:qy x = .no):x'=x:=by
 rcases h with h|⟨h,_⟩|⟨h,_⟩
 ·exact h
 ·exact absurd hx h
 ·have h:=h.2;rw [hs] at h;cases h;exact absurd rfl hz
theorem Kept.kind {S m xx w' e j x x' sz k} (h:Kept S m xx w' e j x x') (hs:TK.sz e=some sz) (hz:sz≠4) (hx:qy x=k):qy x'=k:=by
 rcases h with rfl|⟨_,h,_⟩|⟨h,_⟩
 ·exact hx
 ·rw [h];exact hx
 ·have h:=h.2;rw [hs] at h;cases h;exact absurd rfl hz
theorem apt (S:Nat->Prop):Uq S 1 (aha S):=by
 rintro m M xx w w' e j0 l l' hM ho hs hj h1 h2 hk ⟨v,rfl,hv⟩
 match l',h2 with
 | [v'],_=>
  have:=(hk 0 v v' rfl rfl).same hs (by decide) hv.slice;subst this;exact ⟨_,rfl,hv.qn (by decide) ho⟩
theorem aga {S N m M xx w w' v} (hM : 4<=M) (h:kx S m xx w w') (hl:qw S N w 1 (aha S M) v):qw S N w' 1 (aha S (M+m)) v:=hl.qn (apt S) hM h
theorem aoz (S:Nat->Prop) (Nn:Nat):Uq S 4 (T3 S Nn):=by
 rintro m M xx w w' e j0 l l' hM ho hs hj h1 h2 hk ⟨a,b,c,d,rfl,ha,hb,hc,hd⟩
 match l',h2 with
 | [a',b',c',d'],_=>
  refine ⟨a',b',c',d',rfl,?_,?_,?_,?_⟩
  ·rcases hk 0 a a' rfl rfl with rfl|⟨q,_⟩|⟨_,⟨_,rfl⟩|⟨q,_⟩⟩
   ·exact aga hM ho ha
   ·exact absurd ha.slice q
   ·exact .inl ⟨none,rfl⟩
   ·omega
  ·rcases hk 1 b b' rfl rfl with rfl|⟨q,_⟩|⟨_,⟨_,rfl⟩|⟨q,_⟩⟩
   ·exact hb.qn (by decide) ho
   ·exact absurd hb.slice q
   ·exact .inl ⟨none,rfl⟩
   ·omega
  ·rcases hk 2 c c' rfl rfl with rfl|⟨q,_⟩|⟨_,⟨q,rfl⟩|⟨_,q⟩⟩
   ·exact hc.qn (by decide) ho
   ·exact absurd hc.slice q
   ·exact .inl ⟨none,rfl⟩
   ·exact q.mono zO
  ·rcases hk 3 d d' rfl rfl with rfl|⟨q,_⟩|⟨_,⟨_,rfl⟩|⟨q,_⟩⟩
   ·exact hd.qn (by decide) ho
   ·exact absurd hd.slice q
   ·exact .inl ⟨none,rfl⟩
   ·omega
theorem Td {S N Nn m M xx w w' v} (hM : 4<=M) (h:kx S m xx w w') (hl:qw S N w 4 (T3 S Nn M) v):qw S N w' 4 (T3 S Nn (M+m)) v:=hl.qn (aoz S Nn) hM h
theorem at5 (S:Nat->Prop) (Nn Nd:Nat):Uq S 5 (Q4 S Nn Nd):=by
 rintro m M xx w w' e j0 l l' hM ho hs hj h1 h2 hk ⟨o,t,c,u,d,rfl,hO,ht,hc,hu,hd⟩
 match l',h2 with
 | [o',t',c',u',d'],_=>
  have e1:=(hk 0 o o' rfl rfl).same hs (by decide) hO.slice;have e2:=(hk 4 d d' rfl rfl).same hs (by decide) hd.slice;subst e1 e2;exact ⟨_,t',c',u',_,rfl,hO.qn (by decide) ho,(hk 1 t t' rfl rfl).kind hs (by decide) ht,(hk 2 c c' rfl rfl).kind hs (by decide) hc,(hk 3 u u' rfl rfl).kind hs (by decide) hu,Td hM ho hd⟩
theorem Jg {S N Nn Nd m M xx w w' v} (hM : 4<=M) (h:kx S m xx w w') (hl:qw S N w 5 (Q4 S Nn Nd M) v):qw S N w' 5 (Q4 S Nn Nd (M+m)) v:=hl.qn (at5 S Nn Nd) hM h
theorem acx {α:Type} (C:er α) (hz:C.sz=1) (ha:C.agg=false) {k:LK} (hk:C.kd=k) (hn:k ≠ .no) {M:Nat} {g:Gh} {w:World} {l:Bool} {xs:List α} {v:Value} (hM:∀ x ∈ xs,∀ c ∈ C.cells l x,∀ s,c = .sc (.string s)->s.size<=M) (hx:∀ x ∈ xs,∀ c ∈ C.cells l x,∃ u,c = .sc u) {S:Nat->Prop} (hS:∀ b,g.b0<=b->(∀ j,g.K b j)->S b) (hr:Rel g w (.vl true 1 (xs.map (C.val l))) v):rz S M w k v:=by
 generalize hes:xs.map (C.val l)=es at hr;cases hr with
 |ni=>exact .inl ⟨none,rfl⟩
 |xk _ _ a=>exact .inl ⟨some a,rfl⟩
 |vl _ _ _ b off cap c hsz hl aR h hrel hw=>
  obtain ⟨w1,⟨cs,e,w2,w3,w4,w5,w6⟩,w7,w8⟩:=hw rfl;rcases Nat.eq_zero_or_pos es.length with h0|h0
  ·have:=w7 rfl h0;subst this;rw [h0];exact .inl ⟨_,rfl⟩
  ·refine .inr ⟨b,off,es.length,cap,cs,e,rfl,hS b (hl rfl) w1,⟨aR,w8⟩,w2,w4,zO,fun j x hj mY=>?_⟩;have gO:es.flatMap AV.cells=xs.flatMap (C.cells l):=by rw [<- hes,List.flatMap_map];congr 1;funext x;exact C.Dl l x
   have hlen:(es.flatMap AV.cells).length=es.length * 1:=Mq es hsz;have CB:(es.flatMap AV.cells)[0]? = some ((es.flatMap AV.cells)[0]'zO):=zh _;have hm:(es.flatMap AV.cells)[0]'zO ∈ xs.flatMap (C.cells l):=by rw [<- gO];exact zyo _
   obtain ⟨y,_,hy⟩:=List.mem_flatMap.1 hm;have hc0:=C.Ph hz hy (hrel 0 _ CB);rcases w6 rfl j x hj mY with q|⟨q,qt⟩
   ·rw [hc0,hk] at q;exact absurd q hn
   ·refine ⟨by rw [q,hc0,hk],fun s hs=>?_⟩;by_cases hjn:j<es.length
    ·have wJ:(es.flatMap AV.cells)[j]? = some ((es.flatMap AV.cells)[j]'zO):=zh _;have zH:(es.flatMap AV.cells)[j]'zO ∈ xs.flatMap (C.cells l):=by rw [<- gO];exact zyo _
     obtain ⟨y2,hy2,lC⟩:=List.mem_flatMap.1 zH;obtain ⟨u,hu⟩:=hx y2 hy2 _ lC;have vV:=hrel j _ wJ;rw [hu] at vV;have:=vV.exact rfl;have uA:c j=x:=by have h9:=(h j _ wJ).2;rw [kz w2,mY] at h9;exact (Option.some.inj h9).symm
     rw [uA,hs] at this;exact hM y2 hy2 _ lC s (by rw [hu,<- this])
    ·have:=qt zO;rw [hs] at this;have:s.size=0:=zzg this;omega
theorem ab3 {α:Type} (C:er α) {N sz:Nat} (hz:C.sz=sz) {E:World->List Value->Prop} {g:Gh} {w:World} {l:Bool} {xs:List α} {v:Value} (hN:xs.length<=N) (hE:∀ x ∈ xs,∀ vs,bz g w (C.cells l x) vs->E w vs) {S:Nat->Prop} (hS:∀ b,g.b0<=b->(∀ j,g.K b j)->S b) (hr:Rel g w (.vl true sz (xs.map (C.val l))) v):qw S N w sz E v:=by
 generalize hes:xs.map (C.val l)=es at hr;cases hr with
 |ni=>exact .inl ⟨none,rfl⟩
 |xk _ _ a=>exact .inl ⟨some a,rfl⟩
 |vl _ _ _ b off cap c hsz hl aR h hrel hw=>
  obtain ⟨w1,⟨cs,e,w2,w3,w4,w5,w6⟩,w7,w8⟩:=hw rfl;refine .inr ⟨b,off,es.length,cap,cs,e,rfl,by rw [<- hes,zzo];exact hN,hS b (hl rfl) w1,⟨aR,w8⟩,w2,w4,w5,w3,fun j hj=>?_⟩;have hj':j<xs.length:=by rw [<- hes,zzo] at hj;exact hj
  refine hE (xs[j]) (zyo hj') _ ⟨by rw [C.len];simp [hz],fun i a u ha hu=>?_⟩;rw [zzj,zzk] at hu;obtain ⟨i1,e1,rfl⟩:=hu;obtain ⟨hi,rfl⟩:=zg.1 e1;simp only [List.length_range] at hi;simp only [List.getElem_range];have hcell:(es.flatMap AV.cells)[j * sz+i]? = some a:=by
   have gO:es.flatMap AV.cells=xs.flatMap (C.cells l):=by rw [<- hes,List.flatMap_map];congr 1;funext x;exact C.Dl l x
   have hd:∀ (ys:List α) (m:Nat),(ys.flatMap (C.cells l)).drop (m * C.sz)=(ys.drop m).flatMap (C.cells l):=by
    intro ys
    induction ys with
    |nil=>intro m;simp
    |cons y ys ih=>
     intro m;cases m with
     |zero=>simp
     |succ m=>
      rw [show (m+1) * C.sz=(C.cells l y).length+m * C.sz from by rw [C.len,Nat.succ_mul];omega,<- List.drop_drop,List.flatMap_cons,List.drop_left,ih,List.drop_succ_cons]
   have h1:=hd xs j;rw [hz] at h1;rw [gO,<- zz6,h1,zzs hj',List.flatMap_cons,zzi (by rw [C.len];omega)];exact ha
  have h1:=h (j * sz+i) a hcell;have h2:=hrel (j * sz+i) a hcell;have h3:cs.getD (off+j * sz+i) undef=c (j * sz+i):=by have:=h1.2;rw [kz w2] at this;rw [zym,zze,this];rfl
  rw [h3];exact h2
end
variable [TK]
structure Lp (w:World) (b:Nat) (cs:Array Value) (e:TypeId) (off m k:Nat) (wr:World):Prop where
 size:wr.heap.size=w.heap.size
 os:wr.os=w.os
 tape:wr.tape=w.tape
 output:wr.output=w.output
 other:∀ c,c≠b->wr.heap[c]? = w.heap[c]?
 row:∃ cs',wr.heap[b]? = some (.cells cs' e (0,0))/\cs'.size=cs.size/\∀ (j:Nat) x x',cs[j]? = some x->cs'[j]? = some x' ->
  x'=x\/(off<=j/\j<off+k/\qy x ≠ .no/\qy x'=qy x/\∀ s',x' = .string s'->∃ s,x = .string s/\s'.size<=s.size+m)
theorem Lp.start {w b cs e off m} (h:w.heap[b]? = some (.cells cs e (0,0))):Lp w b cs e off m 0 w where
 size:=rfl
 os:=rfl
 tape:=rfl
 output:=rfl
 other _ _:=rfl
 row:=⟨cs,h,rfl,fun j x x' h1 h2=>.inl (by rw [h1] at h2;cases h2;rfl)⟩
theorem Lp.frozen {w b cs e off m k wr} (h:Lp w b cs e off m k wr) (j:Nat):wr.frozen? ⟨b,j,none⟩=false:=by obtain ⟨cs',h1,_⟩:=h.row;unfold World.frozen?;simp only [h1];simp
theorem Lp.cell {w b cs e off m k wr x} (h:Lp w b cs e off m k wr) (hx:cs[off+k]? = some x):wr.cell? ⟨b,off+k,none⟩=some x:=by
 obtain ⟨cs',h1,h2,h3⟩:=h.row;rw [kz h1];have hlt:off+k<cs'.size:=by rw [h2];exact (zz1.1 hx).1
 have hx':=zz3 hlt;rcases h3 _ _ _ hx hx' with q|⟨_,q,_⟩
 ·rw [hx',q]
 ·omega
theorem Lp.step {w b cs e off m k wr x v} (h:Lp w b cs e off m k wr) (hx:cs[off+k]? = some x) (h1:qy x ≠ .no) (h2:qy v=qy x) (h3:∀ s',v = .string s'->∃ s,x = .string s/\s'.size<=s.size+m) :
 Lp w b cs e off m (k+1) (wr.setCell ⟨b,off+k,none⟩ v):=by
 obtain ⟨cs',r1,r2,r3⟩:=h.row;have hb:=cd r1;refine ⟨by simp [World.setCell,h.size],h.os,h.tape,h.output,fun c hc=>?_,cs'.setIfInBounds (off+k) v,?_,by simp [r2],fun j y y' hy hy'=>?_⟩
 ·rw [<- h.other c hc];simp only [World.setCell];rw [Array.getElem?_modify,if_neg (fun e=>hc e.symm)]
 ·simp only [World.setCell];rw [Array.getElem?_modify,if_pos rfl,r1];rfl
 ·rw [zzz] at hy';by_cases hj:off+k=j
  ·subst hj;rw [hx] at hy;cases hy;have hlt:off+k<cs'.size:=by rw [r2];exact (zz1.1 hx).1
   rw [if_pos rfl,if_pos hlt] at hy';cases hy';exact .inr ⟨zO,zO,h1,h2,h3⟩
  ·rw [if_neg hj] at hy';exact (r3 j y y' hy hy').imp id (fun q=>⟨q.1,zO,q.2.2⟩)
theorem Lp.qn {S w b cs e off m k wr} (h:Lp w b cs e off m k wr) (hw:w.heap[b]? = some (.cells cs e (0,0))) (hn:S b):kx S m false w wr where
 size:=by rw [h.size];exact zza _
 os:=h.os
 tape:=h.tape
 output:=h.output
 low c _ hc:=h.other c (fun e=>hc (e ▸ hn))
 obj c o hc hn:=by
  by_cases e:c=b
  ·subst e;rw [hw] at hc;cases hc;exact absurd rfl (hn _ _ _)
  ·rw [h.other c e];exact hc
 cells c cs0 e0 nL hc:=by
  by_cases e:c=b
  ·subst e;rw [hw] at hc;cases hc;obtain ⟨cs',r1,r2,r3⟩:=h.row;exact ⟨cs',r1,r2,fun j x x' hx hx'=>(r3 j x x' hx hx').imp id (fun q=>.inl ⟨q.2.2.1,q.2.2.2.1,q.2.2.2.2⟩)⟩
  ·exact ⟨cs0,(h.other c e).trans hc,rfl,fun j x x' hx hx'=>.inl (by rw [hx] at hx';cases hx';rfl)⟩
theorem rz.form {S M w k v} (h:rz S M w k v):∃ base n cap,v = .slice base n cap/\n<=cap/\cap<=maxLen/\(base=none->cap=0):=by
 rcases h with ⟨a,rfl⟩|⟨b,off,n,cap,cs,e,rfl,h1,⟨h2,h3⟩,_⟩
 ·exact ⟨a,0,0,rfl,zza _,zzb _,fun _=>rfl⟩
 ·exact ⟨_,n,cap,rfl,h2,h3,fun e=>by cases e⟩
def To (S:Nat->Prop) (m k:Nat) (w:World) (v:Value) (wr:World):Prop:=
 (∃ a,v = .slice a 0 0/\wr=w)\/∃ (b off n cap:Nat) (cs:Array Value) (e:TypeId),v = .slice (some ⟨b,off,none⟩) n cap/\S b/\w.heap[b]? = some (.cells cs e (0,0))/\Lp w b cs e off m k wr
theorem To.start {S m M w k v} (h:rz S M w k v):To S m 0 w v w:=by
 rcases h with ⟨a,rfl⟩|⟨b,off,n,cap,cs,e,rfl,h1,_,h3,_⟩
 ·exact .inl ⟨a,rfl,rfl⟩
 ·exact .inr ⟨b,off,n,cap,cs,e,rfl,h1,h3,.start h3⟩
theorem To.qn {S m k w v wr} (h:To S m k w v wr):kx S m false w wr:=by
 rcases h with ⟨a,_,rfl⟩|⟨b,off,n,cap,cs,e,_,h1,h3,h⟩
 ·exact .refl _ _ _ _
 ·exact h.qn h3 h1
theorem To.at {S m M k w kd base n cap wr} (hk:kd ≠ .no) (hv:rz S M w kd (.slice base n cap)) (h:To S m k w (.slice base n cap) wr) (hlt:k<cap) :
 ∃ b off x,base=some ⟨b,off,none⟩/\wr.cell? ⟨b,off+k,none⟩=some x/\wr.frozen? ⟨b,off+k,none⟩=false/\qy x=kd/\(∀ s,x = .string s->s.size<=M) /\
  ∀ v',qy v'=kd->(∀ s',v' = .string s'->∃ s,x = .string s/\s'.size<=s.size+m)->To S m (k+1) w (.slice base n cap) (wr.setCell ⟨b,off+k,none⟩ v'):=by
 rcases hv with ⟨a,e⟩|⟨b,off,n',cap',cs,e,he,h1,_,h3,h4,h5,h6⟩
 ·cases e;omega
 cases he;rcases h with ⟨a,e,_⟩|⟨b',cT,n',cap',cs',e',he',q1,q3,q⟩
 ·cases e;omega
 cases he';rw [h3] at q3;cases q3;have hl:off+k<cs.size:=zO;have hx:=zz3 hl;obtain ⟨r1,r2⟩:=h6 k _ hlt hx;exact ⟨b,off,_,rfl,q.cell hx,q.frozen _,r1,r2,fun v' e1 e2=>.inr ⟨b,off,n,cap,cs,e,rfl,h1,h3,q.step hx (by rw [r1];exact hk) (by rw [r1];exact e1) e2⟩⟩
theorem qw.form {S N w sz E v} (h:qw S N w sz E v):∃ base n cap,v = .slice base n cap/\n<=N/\n<=cap/\cap<=maxLen/\(base=none->cap=0):=by
 rcases h with ⟨a,rfl⟩|⟨b,off,n,cap,cs,e,rfl,h0,h1,⟨h2,h3⟩,_⟩
 ·exact ⟨a,0,0,rfl,zzb _,zza _,zzb _,fun _=>rfl⟩
 ·exact ⟨_,n,cap,rfl,h0,h2,h3,fun e=>by cases e⟩
theorem qw.at {S N w sz E base n cap} (h:qw S N w sz E (.slice base n cap)) {j:Nat} (hj:j<n) :
 ∃ b off cs e,base=some ⟨b,off,none⟩/\S b/\w.heap[b]? = some (.cells cs e (0,0))/\TK.sz e=some sz/\off % sz=0/\off+cap * sz<=cs.size/\(j+1) * sz<=cap * sz/\E w ((List.range sz).map fun i=>cs.getD (off+j * sz+i) undef):=by
 rcases h with ⟨a,e⟩|⟨b,off,n',cap',cs,e,he,h0,h1,⟨h2,h3⟩,h4,h5,h6,h7,h8⟩
 ·cases e;omega
 ·cases he;exact ⟨b,off,cs,e,rfl,h1,h4,h5,h6,h7,zz4 _ zO,h8 j hj⟩
theorem cell_of {w:World} {b j:Nat} {cs:Array Value} {e:TypeId} {fr:Nat × Nat} (h:w.heap[b]? = some (.cells cs e fr)) (hj:j<cs.size):w.cell? ⟨b,j,none⟩=some (cs.getD j undef):=by rw [kz h,zze,zz3 hj];rfl
theorem Sz {w:World} {b:Nat} {cs:Array Value} {e:TypeId} (h:w.heap[b]? = some (.cells cs e (0,0))) (j:Nat):w.frozen? ⟨b,j,none⟩=false:=by unfold World.frozen?;simp only [h];simp
theorem kx.set {S:Nat->Prop} {w:World} {b:Nat} {cs:Array Value} {e:TypeId} {j:Nat} {x v:Value} (h:w.heap[b]? = some (.cells cs e (0,0))) (hn:S b) (hx:cs[j]? = some x) (h1:qy x ≠ .no) (h2:qy v=qy x) (h3:∀ s,v ≠ .string s) :
 kx S 0 false w (w.setCell ⟨b,j,none⟩ v)/\(w.setCell ⟨b,j,none⟩ v).heap[b]? = some (.cells (cs.setIfInBounds j v) e (0,0)):=by
 refine ⟨((Lp.start (off:=j) (m:=0) h).step (k:=0) hx h1 h2 (fun s' q=>absurd q (h3 s'))).qn h hn,?_⟩;simp only [World.setCell];rw [Array.getElem?_modify,if_pos rfl,h];rfl
theorem qw.room {S N w sz E base n cap} (h:qw S N w sz E (.slice base n cap)) {j:Nat} (hj:j<cap) :
 ∃ b off cs e,base=some ⟨b,off,none⟩/\S b/\w.heap[b]? = some (.cells cs e (0,0))/\TK.sz e=some sz/\off % sz=0/\off+cap * sz<=cs.size/\(j+1) * sz<=cap * sz:=by
 rcases h with ⟨a,e⟩|⟨b,off,n',cap',cs,e,he,h0,h1,⟨h2,h3⟩,h4,h5,h6,h7,h8⟩
 ·cases e;omega
 ·cases he;exact ⟨b,off,cs,e,rfl,h1,h4,h5,h6,h7,zz4 _ zO⟩
theorem al5 {w:World} {b:Nat} {cs:Array Value} {e:TypeId} (h:w.heap[b]? = some (.cells cs e (0,0))) (o:Obj) (j:Nat):(w.alloc o).frozen? ⟨b,j,none⟩=false:=
 Sz ((Go.RowKit.Below.heap_alloc w o b (cd h)).trans h) j
theorem If {w:World} {b:Nat} {cs:Array Value} {e:TypeId} {fr:Nat × Nat} (h:w.heap[b]? = some (.cells cs e fr)) (o:Obj) {j:Nat} (hj:j<cs.size):(w.alloc o).cell? ⟨b,j,none⟩=some (cs.getD j undef):=
 cell_of ((Go.RowKit.Below.heap_alloc w o b (cd h)).trans h) hj
theorem kx.alloc {S m xx w} (o:Obj):kx S m xx w (w.alloc o):=by
 have hold:∀ b,b<w.heap.size->(w.alloc o).heap[b]? = w.heap[b]? := fun b hb=>Go.RowKit.Below.heap_alloc w o b hb
 refine ⟨(by show w.heap.size<=(w.heap.push o).size;simp),rfl,rfl,rfl,fun b hb _=>hold b hb,fun b x hb _=>(hold b (cd hb)).trans hb,fun b cs e fr hb=>⟨cs,(hold b (cd hb)).trans hb,rfl,fun j x x' h1 h2=>.inl (by rw [h1] at h2;cases h2;rfl)⟩⟩
theorem v9 (w:World) {b c:Nat} (j:Nat) (v:Value) (h:c≠b):(w.setCell ⟨b,j,none⟩ v).heap[c]? = w.heap[c]? := by simp only [World.setCell];rw [Array.getElem?_modify,if_neg (fun e=>h e.symm)]
theorem kx.avk {S:Nat->Prop} {w:World} {b:Nat} {cs:Array Value} {e:TypeId} {j:Nat} {v:Value} (h:w.heap[b]? = some (.cells cs e (0,0))) (hn:S b) (hsz:TK.sz e=some 4)
 (hv:(j % 4≠2/\v = .slice none 0 0)\/(j % 4=2/\rz S 4 (w.setCell ⟨b,j,none⟩ v) .str v)) :
 kx S 0 true w (w.setCell ⟨b,j,none⟩ v)/\(w.setCell ⟨b,j,none⟩ v).heap[b]? = some (.cells (cs.setIfInBounds j v) e (0,0)):=by
 have hb:(w.setCell ⟨b,j,none⟩ v).heap[b]? = some (.cells (cs.setIfInBounds j v) e (0,0)):=by simp only [World.setCell];rw [Array.getElem?_modify,if_pos rfl,h];rfl
 refine ⟨⟨by simp [World.setCell],rfl,rfl,rfl,fun c _ hc=>v9 w j v (fun e=>hc (e ▸ hn)),fun c o hc hno=>?_,fun c cs0 e0 nL hc=>?_⟩,hb⟩
 ·by_cases e1:c=b
  ·subst e1;rw [h] at hc;cases hc;exact absurd rfl (hno _ _ _)
  ·rw [v9 w j v e1];exact hc
 ·by_cases e1:c=b
  ·subst e1;rw [h] at hc;cases hc;refine ⟨_,hb,by simp,fun i x x' hx hx'=>?_⟩;rw [zzz] at hx';by_cases hi:j=i
   ·subst hi;have hlt:=(zz1.1 hx).1;rw [if_pos rfl,if_pos hlt] at hx';cases hx';exact .inr (.inr ⟨⟨rfl,hsz⟩,hv⟩)
   ·rw [if_neg hi,hx] at hx';cases hx';exact .inl rfl
  ·exact ⟨cs0,(v9 w j v e1).trans hc,rfl,fun i x x' hx hx'=>.inl (by rw [hx] at hx';cases hx';rfl)⟩
theorem kx.spare {S:Nat->Prop} {w:World} {b j:Nat} {cs:Array Value} {e t:TypeId} {s:ByteArray} (h:w.heap[b]? = some (.cells cs e (0,0))) (hn:S b) (hsz:TK.sz e=some 4) (hS:S w.heap.size) (hj:j % 4=0) (ht:TK.sz t=some 1) (hs:s.size<=4) :
 kx S 0 true w (((((w.alloc (.cells #[.string s] t)).setCell ⟨b,j,none⟩ (.slice none 0 0)).setCell ⟨b,j+1,none⟩ (.slice none 0 0)).setCell ⟨b,j+2,none⟩ (.slice (some ⟨w.heap.size,0,none⟩) 1 1)).setCell ⟨b,j+3,none⟩ (.slice none 0 0)):=by
 have hne:w.heap.size≠b:=by have:=cd h;omega
 have h0:(w.alloc (.cells #[.string s] t)).heap[b]? = _:=(Go.RowKit.Below.heap_alloc w _ b (cd h)).trans h;have lq:(w.alloc (.cells #[.string s] t)).heap[w.heap.size]? = some (.cells #[.string s] t (0,0)):=Fc w _;have q1:=kx.avk (j:=j) (v:=.slice none 0 0) h0 hn hsz (.inl ⟨zO,rfl⟩);have q2:=kx.avk (j:=j+1) (v:=.slice none 0 0) q1.2 hn hsz (.inl ⟨zO,rfl⟩);have q3:=kx.avk (j:=j+2) (v:=.slice (some ⟨w.heap.size,0,none⟩) 1 1) q2.2 hn hsz (.inr ⟨zO,.inr ⟨w.heap.size,0,1,1,#[.string s],t,rfl,hS,⟨zza _,by decide⟩,?_,ht,zza _,fun i x hi hx=>?_⟩⟩);have q4:=kx.avk (j:=j+3) (v:=.slice none 0 0) q3.2 hn hsz (.inl ⟨zO,rfl⟩)
 ·exact ((((kx.alloc (S:=S) (m:=0) (xx:=true) _).trans q1.1).trans q2.1).trans q3.1).trans q4.1
 ·rw [v9 _ _ _ hne,v9 _ _ _ hne,v9 _ _ _ hne];exact lq
 ·have fX:i=0:=zO;subst fX;cases hx;exact ⟨rfl,fun s' e=>by cases e;exact hs⟩
theorem kx.stay {S m w w'} (h:kx S m false w w') {b j:Nat} {x:Value} (hx:w.cell? ⟨b,j,none⟩=some x) (hn:qy x = .no):w'.cell? ⟨b,j,none⟩=some x:=by
 unfold World.cell? at hx
 split at hx
 ·rename_i cs e fr hb;simp at hx;obtain ⟨cs',q1,q2,q3⟩:=h.cells b cs e fr hb;have hlt:j<cs'.size:=by rw [q2];exact (zz1.1 hx).1
  have hx':=zz3 hlt;rw [kz q1];rcases q3 j x _ hx hx' with q|⟨q,_⟩|⟨⟨q,_⟩,_⟩
  ·rw [hx',q]
  ·exact absurd hn q
  ·cases q
 ·cases hx
theorem kx.aKo {S m xx w w'} (h:kx S m xx w w') {b j sz:Nat} {cs:Array Value} {e:TypeId} {fr:Nat × Nat} {x:Value} (hb:w.heap[b]? = some (.cells cs e fr)) (hs:TK.sz e=some sz) (hz:sz≠4) (hx:cs[j]? = some x) (hn:qy x = .no):w'.cell? ⟨b,j,none⟩=some x:=by
 obtain ⟨cs',q1,q2,q3⟩:=h.cells b cs e fr hb;have hlt:j<cs'.size:=by rw [q2];exact (zz1.1 hx).1
 have hx':=zz3 hlt;rw [kz q1,hx',(q3 j x _ hx hx').same hs hz hn]
variable [TK]
noncomputable section
def qd:Nat->Code->Code
 |0,_=>.skip
 |1,.seq a _=>a
 |n+2,.seq a b=>.seq a (qd (n+1) b)
 |_,c=>c
def ia:Nat->Code->Code
 |0,c=>c
 |n+1,.seq _ b=>ia n b
 |_+1,_=>.skip
def Sd:Nat->Code->Bool
 |0,_=>true
 |n+1,.seq _ b=>Sd n b
 |_+1,_=>false
theorem i7 {P:Program} {T:fp} {bg:Nat} {a b:Code} {Q:QL} {L:SL} {st:St}:wl P T bg (qd 1 (.seq a b)) Q L st=wl P T bg a Q L st:=rfl
theorem lh {P:Program} {T:fp} {bg n:Nat} {a b:Code} {Q:QL} {L:SL} {st:St}:wl P T bg (qd (n+2) (.seq a b)) Q L st=wl P T bg a (Ma (wl P T bg (qd (n+1) b)) Q) L st:=rfl
theorem jd {P:Program} {T:fp} {bg n:Nat} {c:Code} {Q:QL} {L:SL} {st:St}:wl P T bg (qd n (ia 0 c)) Q L st=wl P T bg (qd n c) Q L st:=rfl
theorem jc {P:Program} {T:fp} {bg n m:Nat} {a b:Code} {Q:QL} {L:SL} {st:St}:wl P T bg (qd n (ia (m+1) (.seq a b))) Q L st=wl P T bg (qd n (ia m b)) Q L st:=rfl
theorem j3 {P:Program} {T:fp} {bg:Nat} {c:Code} {Q:QL} {L:SL} {st:St}:wl P T bg (ia 0 c) Q L st=wl P T bg c Q L st:=rfl
theorem j4 {P:Program} {T:fp} {bg m:Nat} {a b:Code} {Q:QL} {L:SL} {st:St}:wl P T bg (ia (m+1) (.seq a b)) Q L st=wl P T bg (ia m b) Q L st:=rfl
theorem Hd {F:Fence} {N:Nat} {P:Program} {X:Exit->Act->World->Prop} {a:Act} {w:World} {c x y:Code} {m:Nat} (he:ia m c = .seq x y) (h:(Code.seq x y).wpIn F N P X a w):(ia m c).wpIn F N P X a w:=by rw [he];exact h
def Ap (X:SL->St->Prop) (Y:QL):QL:=fun e L st=>
 match e with
 |.normal=>X L st
 |e=>Y e L st
theorem m4 {X:SL->St->Prop} {Y:QL} {L st}:Ap X Y .normal L st=X L st:=rfl
theorem nn {X:SL->St->Prop} {Y:QL} {L st}:Ap X Y .ret L st=Y .ret L st:=rfl
theorem nm {X:SL->St->Prop} {Y:QL} {L st} (i:Nat):Ap X Y (.exit i) L st=Y (.exit i) L st:=rfl
def Zg:QL:=fun _ _ _=>False
theorem Cz {P:Program} [KP P] {T:fp} (hT:ak P T) (hm:P.follows .mixedOrders=true) {N:Nat} {B:dz} {nt:NT} (aF:B.iw) (hp:B.bg<=1000) (aL:B.n0<=B.w.heap.size) {X:Exit->Act->World->Prop} {Q:QL} :
 ∀ (n:Nat) (c:Code),Sd (n+1) c=true->fq nt c=true ->
  (∀ e L' st' g' a' w',Q e L' st'->ew B nt L' st' g' a' w'->match e with|.normal=>(ia (n+1) c).wpIn (fw none) N P X a' w'|e=>X (wg e) a' w') ->
  ∀ L st g a w,wl P T B.bg (qd (n+1) c) Q L st->ew B nt L st g a w->c.wpIn (fw none) N P X a w:=by
 intro n
 induction n with
 |zero=>
  intro c hsp hs hX L st g a w h hh;cases c with
  |seq x y=>
   simp only [fq,zzh] at hs;refine wpIn_seq (wpIn_mono (piece hT hm (N:=N) aF hp aL hs.1 h hh) ?_);rintro ex a' w' ⟨e,L',st',g',rfl,hq,bH,_⟩;have:=hX e L' st' g' a' w' hq bH;cases e with
   |normal=>exact this
   |ret=>exact this
   |exit id=>exact this
  |_=>cases hsp
 |succ n ih=>
  intro c hsp hs hX L st g a w h hh;cases c with
  |seq x y=>
   simp only [fq,zzh] at hs;refine wpIn_seq (wpIn_mono (piece hT hm (N:=N) aF hp aL hs.1 (Q:=Ma (wl P T B.bg (qd (n+1) y)) Q) h hh) ?_);rintro ex a' w' ⟨e,L',st',g',rfl,hq,bH,_⟩;cases e with
   |normal=>exact ih y hsp hs.2 hX L' st' g' a' w' hq bH
   |ret=>exact hX .ret L' st' g' a' w' hq bH
   |exit id=>exact hX (.exit id) L' st' g' a' w' hq bH
  |_=>cases hsp
theorem axc {P:Program} [KP P] {T:fp} (hT:ak P T) (hm:P.follows .mixedOrders=true) {N:Nat} {B:dz} {nt:NT} (aF:B.iw) (hp:B.bg<=1000) (aL:B.n0<=B.w.heap.size) {X:Exit->Act->World->Prop} {Q:QL} {c:Code} (hs:fq nt c=true)
 (hX:∀ e L' st' g' a' w',Q e L' st'->ew B nt L' st' g' a' w'->X (wg e) a' w') {L st g a w} (h:wl P T B.bg c Q L st) (hh:ew B nt L st g a w):c.wpIn (fw none) N P X a w:=by
 refine wpIn_mono (piece hT hm (N:=N) aF hp aL hs h hh) ?_;rintro ex a' w' ⟨e,L',st',g',rfl,hq,bH,_⟩;exact hX e L' st' g' a' w' hq bH
def xc (w:World):Nat->Nat->Prop:=fun b _=>b<w.heap.size
def ahb (w:World) (D:List Deferred):dz:={ b0:=w.heap.size,w,K:=xc w,O:=fun _=>False,bg:=0,pb:=fun _=>none,n0:=w.heap.size,D }
theorem xj (w D):(ahb w D).iw:=fun _ h=>h
structure rh (S:Nat->Prop) (w1:World) (D:List Deferred) (ds:List Deferred) (w:World):Prop where
 size:w1.heap.size<=w.heap.size
 low:∀ b,b<w1.heap.size->¬ S b->w.heap[b]? = w1.heap[b]?
 obj:∀ (b:Nat) o,w1.heap[b]? = some o->(∀ cs e fr,o ≠ .cells cs e fr)->w.heap[b]? = some o
 os:w.os=w1.os
 tape:w.tape=w1.tape
 output:w.output=w1.output
 uf:∃ bs:List Nat,ds=bs.map mark++D/\bs.Nodup/\∀ b ∈ bs,w1.heap.size<=b/\w.heap[b]? = some (.deferred (some []))
theorem rh.start (S:Nat->Prop) (w:World) (D:List Deferred):rh S w D D w:=⟨zza _,fun _ _ _=>rfl,fun _ _ h _=>h,rfl,rfl,rfl,[],rfl,List.nodup_nil,fun b h=>by cases h⟩
theorem rh.wide {S S':Nat->Prop} {w1 D ds w} (hS:∀ b,b<w1.heap.size->S b->S' b) (h:rh S w1 D ds w):rh S' w1 D ds w:=⟨h.size,fun b hb hn=>h.low b hb (fun hs=>hn (hS b hb hs)),h.obj,h.os,h.tape,h.output,h.uf⟩
theorem rh.later {S:Nat->Prop} {w1 D ds w nt L st g a w'} (h:rh S w1 D ds w) (hh:ew (ahb w ds) nt L st g a w'):rh S w1 D a.defers w':=by
 have hb:=hh.cur.base;have hf:∀ b,b<w.heap.size->w'.heap[b]? = w.heap[b]? := fun b h=>hb.frame b h (fun h=>h)
 refine ⟨zzu h.size hb.size,fun b hlt hn=>(hf b (zyd hlt h.size)).trans (h.low b hlt hn),fun b o ho hn=>?_,hb.os.trans h.os,hb.tape.trans h.tape,hb.output.trans h.output,?_⟩
 ·have:=h.obj b o ho hn;exact (hf b (cd this)).trans this
 ·obtain ⟨bs,e1,e2,e3⟩:=h.uf;obtain ⟨cs,c1,c2,c3⟩:=hh.uf;refine ⟨cs++bs,by rw [c1,zzw,zzc];exact congrArg _ e1,?_,fun b hb=>?_⟩
  ·rw [List.nodup_append];refine ⟨c2,e2,fun x hx y hy e=>?_⟩;subst e;have h1:w.heap.size<=x:=(c3 x hx).1;have h2:=cd (e3 x hy).2;omega
  ·rcases zzq.1 hb with hb|hb
   ·exact ⟨zzu h.size (c3 b hb).1,(c3 b hb).2.1⟩
   ·have:=(e3 b hb).2;exact ⟨(e3 b hb).1,(hf b (cd this)).trans this⟩
theorem rh.qn {S:Nat->Prop} {w1 D ds w m xx w'} (h:rh S w1 D ds w) (ho:kx S m xx w w'):rh S w1 D ds w':=by refine ⟨zzu h.size ho.size,fun b hlt hn=>(ho.low b (zyd hlt h.size) hn).trans (h.low b hlt hn),fun b o hb hn=>ho.obj b o (h.obj b o hb hn) hn,ho.os.trans h.os,ho.tape.trans h.tape,ho.output.trans h.output,?_⟩;obtain ⟨bs,e1,e2,e3⟩:=h.uf;exact ⟨bs,e1,e2,fun b hb=>⟨(e3 b hb).1,ho.obj b _ (e3 b hb).2 (fun cs e fr q=>by cases q)⟩⟩
theorem Ae {nt:NT} {Ls:SL} {a:Act} {w:World} (pD:tk nt a.tmps) (hr:∀ t,Rel (gK w.heap.size (xc w)) w (lk Ls t) (a.tmps.getD t undef)):ew (ahb w a.defers) nt Ls (ay []) (gK w.heap.size (xc w)) a w:=by
 refine ⟨⟨⟨zza _,fun o x hx=>?_,fun o o' x x' b base base' _ hx=>?_,fun _ _ h=>h⟩,fun o _ _=>rfl,⟨rfl,(fun o ho=>(by rcases ho with ho|ho;cases ho;exact ho.elim)),fun _ _ h=>h,fun _ _ _=>rfl,zza _,rfl,rfl,rfl,fun _ _ _=>rfl,fun o b base ho=>?_,fun _ _ h=>.inl h,fun b cs e fr h=>⟨cs,fr,h,rfl⟩,fun b l h=>⟨l,h⟩,fun _ _ _ _ _ _=>rfl⟩,zzb _⟩,⟨pD,hr⟩,Marks.start _ _ _ _ _⟩
 ·simp [ay,ov,Tr.get_nil] at hx
 ·simp [ay,ov,Tr.get_nil] at hx
 ·simp [ay,ov,Tr.get_nil] at ho
theorem aJt (t:Nat):lk [] t = .bad:=rfl
theorem avg {g:Gh} {w:World} {f:Nat->Value}:∀ {ts:List Nat} {vs:List AV},bz g w vs (ts.map f)->∀ t,Rel g w (lk (fm ts vs) t) (f t)
 | [],vs,h,t=>by cases vs<;>exact .bad _
 |t0::ts,[],h,t=>.bad _
 |t0::ts,v::vs,h,t=>by
  rw [fm,pq];by_cases e:t0=t
  ·subst e;rw [if_pos rfl];exact h.head
  ·rw [if_neg e];exact avg h.tail t
theorem ew.read {B:dz} {nt L st g a w} (hh:ew B nt L st g a w) {α:Type} (A:AC α) (ts:List Nat) {x : α} (hd:A.get st.h (ts.map (lk L))=some x):bz (gK w.heap.size (xc w)) w (A.E x) (ts.map fun t=>a.tmps.getD t undef):=by
 refine A.ok (b0:=w.heap.size) (K:=xc w) hh.cur.ok ⟨fun b j hk=>hh.cur.ok.K b j hk,fun o cells k s e ho b base hi j hj=>?_⟩ ⟨by simp,fun i x v hx hv=>?_⟩ hd
 ·obtain ⟨b',base',h5,_,h6⟩:=hh.cur.ok.obj o _ ho;rw [hi] at h5;cases h5;exact h6.lt
 ·rw [zzj,zzk] at hx hv;obtain ⟨t,e1,rfl⟩:=hx;obtain ⟨t',e2,rfl⟩:=hv;rw [e1] at e2;cases e2;exact hh.sl.2 t
def tz (n:Nat) (ts:List Nat) (tmps:Array Value):NT:=⟨n,ts.map fun t=>(t,tmps.getD t undef)⟩
theorem Uk {nt:NT} {tmps:Array Value} (ts:List Nat) (h:tk nt tmps):tk (tz nt.n ts tmps) tmps:=⟨h.size,fun p hp=>by obtain ⟨t,_,rfl⟩:=zyl.1 hp;rfl⟩
theorem Br {n:Nat} {ts:List Nat} {tmps eB:Array Value} (h:tk (tz n ts tmps) eB) {t:Nat} (ht:t ∈ ts):eB.getD t undef=tmps.getD t undef:=h.fix _ (zyl.2 ⟨t,ht,rfl⟩)
theorem J8 {n:Nat} {ts:List Nat} {tmps eB:Array Value} (h:tk (tz n ts tmps) eB) {us:List Nat} (hu:∀ u ∈ us,u ∈ ts):us.map (fun t=>eB.getD t undef)=us.map (fun t=>tmps.getD t undef):=List.map_congr_left fun t ht=>Br h (hu t ht)
theorem Rel.stay {b0 b1:Nat} {K K':Nat->Nat->Prop} {w w':World} {a:AV} {v:Value} (hb0:∀ b,b0<=b->(∀ j,K b j)->b1<=b) (hK:∀ b j,K b j->K' b j) (hh:∀ b j,K b j->w'.heap[b]? = w.heap[b]?) (h:Rel (gK b0 K) w a v):Rel (gK b1 K') w' a v:=by
 have hno:∀ o p,(gK b0 K).inj o≠some p:=fun o p e=>by cases e
 generalize hg:gK b0 K=g0 at h hno;have nK:∀ b j,g0.K b j->K b j:=by subst hg;exact fun _ _ h=>h
 have hb:g0.b0=b0:=by subst hg;rfl
 clear hg;have hc:∀ (b j:Nat),g0.K b j->w'.cell? ⟨b,j,none⟩=w.cell? ⟨b,j,none⟩:=fun b j hk=>th (hh b j (nK b j hk))
 induction h with
 |sc x=>exact .sc x
 |agg l vs hs _ ih=>exact .agg l vs hs ih
 |gj l vs hs _ ih=>exact .gj l vs hs ih
 |vl loc sz es b off cap c hsz hl aR h _ hw ih=>
  refine .vl loc sz es b off cap c hsz (fun e=>hb0 b (by rw [<- hb];exact hl e) (fun j=>nK _ _ ((hw e).K j))) aR (fun j a hj=>⟨hK _ _ (nK _ _ (h j a hj).1),(hc _ _ (h j a hj).1).trans (h j a hj).2⟩) ih (fun e=>?_);obtain ⟨w1,⟨cs,e,w2,w3⟩,w4,w5⟩:=hw e;exact ⟨fun j=>hK _ _ (nK _ _ (w1 j)),⟨cs,e,(hh b 0 (nK _ _ (w1 0))).trans w2,w3⟩,w4,w5⟩
 |ni loc sz=>exact .ni loc sz
 |xk loc sz a=>exact .xk loc sz a
 |sl o off len sz b base cap hi hc hm hr=>exact (hno _ _ hi).elim
 |ug o off sz a=>exact .ug o off sz a
 |uw o off sz=>exact .uw o off sz
 |ez a=>exact .ez a
 |ptr o off b base hi=>exact (hno _ _ hi).elim
 |ik l b off c h _ ih=>exact .ik l b off c (fun j a hj=>⟨hK _ _ (nK _ _ (h j a hj).1),(hc _ _ (h j a hj).1).trans (h j a hj).2⟩) ih
 |fn f first captured va vb hs _ hs' _ ih ih'=>exact .fn f first captured va vb hs ih hs' ih'
 |mp o b base hi=>exact (hno _ _ hi).elim
 |vv t a v _ ih=>exact .vv t a v ih
 |yl o b base hi=>exact (hno _ _ hi).elim
 |bad v=>exact .bad v
theorem Rel.low {S:Nat->Prop} {w1 D ds w} (h:rh S w1 D ds w) (hS:∀ b,b<w1.heap.size->¬ S b) {a:AV} {v:Value} (hr:Rel (gK w1.heap.size (xc w1)) w1 a v):Rel (gK w.heap.size (xc w)) w a v:=
 hr.stay (K:=xc w1) (K':=xc w) (fun b h1 h2=>absurd (h2 0) (Nat.not_lt.2 h1)) (fun b _ (hk:b<w1.heap.size)=>zyd hk h.size) (fun b _ (hk:b<w1.heap.size)=>h.low b hk (hS b hk))
theorem bz.low {S:Nat->Prop} {w1 D ds w} (h:rh S w1 D ds w) (hS:∀ b,b<w1.heap.size->¬ S b) {l:List AV} {vs:List Value} (hr:bz (gK w1.heap.size (xc w1)) w1 l vs):bz (gK w.heap.size (xc w)) w l vs:=⟨hr.1,fun i a v ha hv=>(hr.2 i a v ha hv).low h hS⟩
theorem rh.fin {B:dz} {vN nt:NT} {L st g a1 w1} (hp:B.bg=0) (aF:B.iw) (aL:B.n0<=B.w.heap.size) (h1:ew B nt L st g a1 w1) {S:Nat->Prop} {a:Act} {w:World} (hm:rh S w1 a1.defers a.defers w) (hS:∀ b,b<w1.heap.size->¬ S b) (hO:∀ b,¬ B.O b) {r:Nat} {v:Value} (pD:tk vN a.tmps) (hv:a.tmps.getD r undef=v) {Q:QL} {e:Ex} (hq:Q e [(r,.sc v)] (ay [])):Fin B vN Q (wg e) a w:=by
 have hb:=h1.cur.base;have aB:=h1.cur.ok;have bJ:∀ b,b<w1.heap.size->w.heap[b]? = w1.heap[b]? := fun b hlt=>hm.low b hlt (hS b hlt)
 have wV:∀ b j,B.K b j->b<w1.heap.size:=fun b j hk=>aB.K b j (hb.K b j hk)
 refine Fin.mk' (g:={ b0:=B.b0,inj:=fun _=>none,K:=B.K }) hq ⟨⟨?_,fun o x hx=>?_,fun o o' x x' b base base' _ hx=>?_,fun b j hk=>zyd (wV b j hk) hm.size⟩,fun o _ _=>rfl,⟨rfl,fun o ho=>?_,fun _ _ h=>h,fun b j hk=>?_,zzu hb.size hm.size,hm.os.trans hb.os,hm.tape.trans hb.tape,hm.output.trans hb.output,fun b hlt hn=>?_,fun o b base ho=>?_,fun _ _ h=>.inl h,fun b cs e fr h=>?_,fun b l h=>?_,fun b cs e fr h hk=>?_⟩,by rw [hp];exact zzb _⟩ ⟨pD,fun t=>?_⟩ ?_
 ·have:=aB.size;rw [hb.b0] at this;exact zzu this hm.size
 ·simp [ay,ov,Tr.get_nil] at hx
 ·simp [ay,ov,Tr.get_nil] at hx
 ·rcases ho with ho|ho
  ·rw [hp] at ho;cases ho
  ·exact (aF o ho).elim
 ·exact (th (bJ b (wV b j hk))).trans (hb.cell b j hk)
 ·have tD:=zyd hlt hb.size;exact (bJ b tD).trans (hb.frame b hlt hn)
 ·simp [ay,ov,Tr.get_nil] at ho
 ·obtain ⟨cs',dK,q1,q2⟩:=hb.ju b cs e fr h;exact ⟨cs',dK,(bJ b (cd q1)).trans q1,q2⟩
 ·obtain ⟨l',q1⟩:=hb.lp b l h;exact ⟨l',(bJ b (cd q1)).trans q1⟩
 ·have q1:=hb.whole b cs e fr h hk;exact (bJ b (cd (q1.trans h))).trans q1
 ·rw [pq];by_cases e:r=t
  ·subst e;rw [if_pos rfl,hv];exact .sc _
  ·rw [if_neg e];exact .bad _
 ·obtain ⟨bs,e1,e2,e3⟩:=hm.uf;obtain ⟨cs,c1,c2,c3⟩:=h1.uf;refine ⟨bs++cs,by rw [e1,c1,zzw,zzc],?_,fun b hb'=>?_⟩
  ·rw [List.nodup_append];refine ⟨e2,c2,fun x hx y hy e=>?_⟩;subst e;have h2:=cd (c3 x hy).2.1;have h3:=(e3 x hx).1;omega
  ·have gR:ja { b0:=B.b0,inj:=fun _=>none,K:=B.K } (ay []).h b:=fun o base ho=>by simp [ay,ov,Tr.get_nil] at ho
   rcases zzq.1 hb' with hb'|hb'
   ·exact ⟨zzu aL (zzu hb.size (e3 b hb').1),(e3 b hb').2,gR⟩
   ·have q:=c3 b hb';exact ⟨q.1,(bJ b (cd q.2.1)).trans q.2.1,gR⟩
def aul (x:Operand):Option Nat:=
 match x with
 |.tmp t=>some t
 |_=>none
def Dt (o:Oper):Option (Option Nat × Nat × List Nat):=
 match o.op,o.guard with
 |.call { callee:=.value (.func f),args,.. },none=>(args.toList.mapM aul).map fun ts=>(o.dst,f,ts)
 |_,_=>none
def Oc (ops:Array Oper) (n:Nat):Option (Option Nat × Nat × List Nat):=
 match ops.toList.drop n with
 | [o]=>Dt o
 |_=>none
theorem acz:∀ {l:List Operand} {ts:List Nat},l.mapM aul=some ts->l=ts.map Operand.tmp
 | [],ts,h=>by simp at h;subst h;rfl
 |x::l,ts,h=>by
  simp only [List.mapM_cons,Option.bind_eq_bind,Option.bind_eq_some_iff] at h;obtain ⟨t,h1,us,h2,h3⟩:=h;cases h3;cases x with
  |tmp u=>simp only [aul,Option.some.injEq] at h1;subst h1;rw [List.map_cons,acz h2]
  |_=>cases h1
theorem apn {ops:Array Oper} {n f:Nat} {d:Option Nat} {args:List Nat} (h:Oc ops n=some (d,f,args)):∃ c ts pos af ty,ops.toList.drop n=[⟨d,.call { callee:=.value (.func f),args:=(args.map Operand.tmp).toArray,argTypes:=ts },ty,pos,af,none⟩]/\c=():=by
 unfold Oc at h
 split at h
 ·rename_i o ho;obtain ⟨dst,op,ty,pos,af,gd⟩:=o;unfold Dt at h
  split at h
  ·rename_i f' aa ats h1 h2;simp only [zzk,Prod.mk.injEq] at h;obtain ⟨ts,h3,rfl,rfl,rfl⟩:=h;subst h1 h2;refine ⟨(),ats,pos,af,ty,?_,rfl⟩;rw [ho,<- acz h3]
  ·cases h
 ·cases h
theorem aoi {P:Program} [KP P] {T:fp} (hT:ak P T) {B:dz} {nt:NT} (aF:B.iw) {N id n:Nat} {ops:Array Oper} {K:SL->St->Prop} {X:Exit->Act->World->Prop} {L st g a w} (hs:fq nt (.region id ops false)=true)
 {f:Nat} {args:List Nat} {d:Option Nat} (hl:Oc ops n=some (d,f,args)) (he:qk P f=true)
 (h:opsL P T ops (ops.toList.take n) K L st) (hh:ew B nt L st g a w)
 (hK:∀ L' st' g' a' w',K L' st'->ew B nt L' st' g' a' w'->Calls P f (args.map fun t=>a'.tmps.getD t undef).toArray w' (fun e w''=>∃ r,e = .returned r/\∀ a'',a''.defers=a'.defers->tk nt a''.tmps->(∀ dd,d=some dd->a''.tmps.getD dd undef=r)->X .normal a'' w'')) :
 (Code.region id ops false).wpIn (fw none) N P X a w:=by
 simp only [fq,zzh] at hs;obtain ⟨hd,hg⟩:=hs;obtain ⟨_,ts,pos,af,ty,hl,_⟩:=apn hl;have key:∀ (l:List Oper) (is:List Nat),(∀ o ∈ l,o ∈ ops)->is.map (fun i=>ops[i]?)=(l++ops.toList.drop n).map some->∀ L st g a w,opsL P T ops l K L st->ew B nt L st g a w->wpOpsIn (fw none) N P ops X is a w:=by
  intro l
  induction l with
  |nil=>
   intro is _ aK L st g a w h hh;rw [hl,List.nil_append] at aK
   match is,aK with
   | [i],aK=>
    simp only [List.map_cons,List.map_nil,List.cons.injEq,and_true] at aK;have hK':=hK L st g a w h hh;have ho:(⟨d,.call { callee:=.value (.func f),args:=(args.map Operand.tmp).toArray,argTypes:=ts },ty,pos,af,none⟩:Oper) ∈ ops:=by
     have:(⟨d,.call { callee:=.value (.func f),args:=(args.map Operand.tmp).toArray,argTypes:=ts },ty,pos,af,none⟩:Oper) ∈ ops.toList.drop n:=by rw [hl];exact zz0.2 rfl
     exact Array.mem_toList_iff.1 (zz8 this)
    simp only [wpOpsIn,aK];have hw:Region.wanted (⟨d,.call { callee:=.value (.func f),args:=(args.map Operand.tmp).toArray,argTypes:=ts },ty,pos,af,none⟩:Oper) (yielded ops a.tmps)=true:=by simp [Region.wanted]
    rw [hw,if_pos rfl];refine ⟨ll none P _ a w,?_⟩;rw [Oper.semAt_eq _ _ _ (by intro c e;cases e)];have hrun:(execOp a.eval (⟨d,.call { callee:=.value (.func f),args:=(args.map Operand.tmp).toArray,argTypes:=ts },ty,pos,af,none⟩:Oper)).run P w=(callFunc f (args.map fun t=>a.tmps.getD t undef).toArray).run P w:=by
     rw [Fl (h:=f) (first:=#[]) (captured:=#[]) (f:=.func f) rfl rfl]
     congr 2
     apply Array.ext';simp [Act.eval]
    rw [hrun,ur he];refine ⟨(fun h=>(by cases h)),(ss (ro:=none) (n:=N - 1) hK').mono ?_⟩;rintro e w' ⟨r,rfl,hX⟩;have hdd:=fun dd (e:d=some dd)=>nh hd ho dd e
    show wpOpsIn (fw none) N P ops X [] (a.put d r) w';refine hX _ (put_defers _ _ _) (hh.sl.1.put hdd) (fun dd e=>?_);subst e;have:=(NT.Jm (hdd dd rfl)).1;show (a.tmps.setIfInBounds dd r).getD dd undef=r;rw [zze,zzz,if_pos rfl,if_pos (by rw [hh.sl.1.size];exact this)];rfl
   | [],aK=>cases aK
   |_::_::_,aK=>simp at aK
  |cons o l ih=>
   intro is hmem aK L st g a w h hh;obtain ⟨hc,hr,cH⟩:=hh;cases is with
   |nil=>cases aK
   |cons i is=>
    simp only [List.cons_append,List.map_cons,List.cons.injEq] at aK;obtain ⟨hi,aK⟩:=aK;have ho:=hmem o (by simp);simp only [wpOpsIn,hi];rcases zf hr (Be hg ho) h with ⟨hw,h1⟩|⟨hw,h1⟩
    ·rw [hw,if_pos rfl];unfold Pf En at h1;cases hop:il P T o (eu L) st with
     |none=>
      rw [hop] at h1;refine J0 hc.ok (fun o ho=>hc.fresh o ho (aF o)) hr.eval h1 none N _ _ ?_;rintro u w' ⟨g',v,st',q0,q1,q2,q3,q4⟩;exact ih is (fun o ho=>hmem o (by simp [ho])) aK _ st' g' _ w' q0 ⟨hc.step (aF.vw _ _) ⟨q1,q2⟩ q3,(hr.ext q2.ext).put q4 (nh hd ho),by rw [put_defers];exact cH.step q2⟩
     |some p=>
      obtain ⟨v,st'⟩:=p;rw [hop] at h1;refine Gg hT hc.ok (hc.free (aF.vw _ _)) hr.eval hop none N _ _ ?_;rintro u w' ⟨g',q1,q2,q3⟩;exact ih is (fun o ho=>hmem o (by simp [ho])) aK _ st' g' _ w' h1 ⟨hc.step (aF.vw _ _) ⟨A2 hop,q1⟩ q2,(hr.ext q1.ext).put q3 (nh hd ho),by rw [put_defers];exact cH.step q1⟩
    ·rw [hw,if_neg (by simp)];refine ⟨ll none P o a w,?_⟩;exact ih is (fun o ho=>hmem o (by simp [ho])) aK _ st g _ w h1 ⟨hc,hr.put (.sc _) (nh hd ho),by rw [put_defers];exact cH⟩
 refine wpIn_region ?_;exact key (ops.toList.take n) (List.range ops.size) (fun o ho=>Array.mem_toList_iff.1 (zzr ho)) (by rw [zzm];exact Lh ops) L st g a w h hh
def dp:Nat->Code->Code
 |0,.seq a _=>a
 |n+1,.seq _ b=>dp n b
 |_,_=>.skip
def i5:Code->Array Oper
 |.region _ ops _=>ops
 |_=>#[]
def idC:Code->Nat
 |.region i _ _=>i
 |_=>0
theorem nl {a b:Code}:dp 0 (.seq a b)=a:=rfl
theorem nj {n:Nat} {a b:Code}:dp (n+1) (.seq a b)=dp n b:=rfl
theorem qa {i ops d}:i5 (.region i ops d)=ops:=rfl
theorem yn:∀ {n:Nat} {c:Code},Sd (n+1) c=true->ia n c = .seq (dp n c) (ia (n+1) c)
 |0,.seq a b,_=>rfl
 |n+1,.seq a b,h=>yn (n:=n) (c:=b) h
theorem ap5 (n:Nat) (ts:List Nat) (x y:Array Value) (t:Nat):(tz n ts x).has t=(tz n ts y).has t:=by unfold NT.has tz;rw [List.all_map,List.all_map];rfl
theorem Hu {n:Nat} {ts:List Nat} {x y:Array Value}:∀ {c:Code},fq (tz n ts x) c=true->fq (tz n ts y) c=true:=by
 intro c
 induction c with
 |region i ops d=>
  intro h;simp only [fq,sj,n5,ap5 n ts y x] at h ⊢;exact h
 |seq a b eY eX=>intro h;simp only [fq,zzh] at h ⊢;exact ⟨eY h.1,eX h.2⟩
 |cond c a b eY eX=>intro h;simp only [fq,zzh] at h ⊢;exact ⟨eY h.1,eX h.2⟩
 |block i b ih=>intro h;exact ih h
 |loop b ih=>intro h;exact ih h
 |scope b ih=>intro h;exact ih h
 |rangeFunc f ps a b eY eX=>
  intro h;simp only [fq,zzh,ap5 n ts y x] at h ⊢;exact ⟨⟨⟨⟨h.1.1.1.1,eY h.1.1.1.2⟩,eX h.1.1.2⟩,h.1.2⟩,h.2⟩
 |_=>intro _;rfl
theorem ay3 {P:Program} [KP P] {T:fp} (hT:ak P T) {B:dz} {nt:NT} (aF:B.iw) {N k n:Nat} {c:Code} (hsp:Sd (k+1) c=true) (iF:dp k c = .region (idC (dp k c)) (i5 (dp k c)) false) (hs:fq nt (dp k c)=true)
 {d:Option Nat} {f:Nat} {args:List Nat} (aW:Oc (i5 (dp k c)) n=some (d,f,args)) (he:qk P f=true) {K:SL->St->Prop} {L st g a w} (h:opsL P T (i5 (dp k c)) ((i5 (dp k c)).toList.take n) K L st) (hh:ew B nt L st g a w) {X:Exit->Act->World->Prop}
 (hK:∀ L' st' g' a' w',K L' st'->ew B nt L' st' g' a' w'->Calls P f (args.map fun t=>a'.tmps.getD t undef).toArray w' (fun e w''=>∃ r,e = .returned r/\∀ a'',a''.defers=a'.defers->tk nt a''.tmps->(∀ dd,d=some dd->a''.tmps.getD dd undef=r)->(ia (k+1) c).wpIn (fw none) N P X a'' w'')) :
 (ia k c).wpIn (fw none) N P X a w:=by
 rw [yn hsp];refine wpIn_seq ?_;rw [iF] at hs ⊢;exact aoi hT aF hs aW he h hh hK
end
variable [TK]
theorem ew.exact {B:dz} {nt L st g a w} (hh:ew B nt L st g a w) {t:Nat} {x:Value} (h:lk L t = .sc x):a.tmps.getD t undef=x:=by have:=hh.sl.2 t;rw [h] at this;exact this.exact rfl
theorem ew.box {B:dz} {nt L st g a w} (hh:ew B nt L st g a w) {t o k:Nat} {cells:List AV} {et:TypeId} (hl:lk L t = .ptr o 0) (ho:st.h.get o=some (.row cells k 2 et)) :
 ∃ b cs,a.tmps.getD t undef = .pointer (some ⟨b,0,none⟩)/\B.b0<=b/\w.heap[b]? = some (.cells cs et (0,0))/\bz g w cells cs.toList:=by
 have h1:=hh.sl.2 t;rw [hl] at h1;obtain ⟨v,hv⟩:∃ v,a.tmps.getD t undef=v:=⟨_,rfl⟩;rw [hv] at h1 ⊢;cases h1 with
 |ptr _ _ b base hi=>
  obtain ⟨b',base',q1,q2,cs,fr,q3,q4,q5,q6,q7,q8,q9,nV⟩:=hh.cur.ok.obj o _ ho;rw [hi] at q1;cases q1;have hf:=q8 (by decide);obtain ⟨e1,e2⟩:=q9 rfl;subst hf e1;refine ⟨b,cs,rfl,by rw [<- hh.cur.base.b0];exact q2,q3,by simp [e2],fun i x v hx hv=>?_⟩;obtain ⟨c,hc,hr⟩:=q5 i x hx;rw [Nat.zero_add,<- zz2,hv] at hc;cases hc;exact hr
theorem aHh {g:Gh} {w:World} {b:Nat} {cs:Array Value} {e:TypeId} {fr:Nat × Nat} (h:w.heap[b]? = some (.cells cs e fr)) (hK:∀ j,g.K b j):Rel g w (.ik (cs.toList.map .sc)) (.pointer (some ⟨b,0,none⟩)):=by
 refine .ik _ b 0 (fun j=>cs.getD j undef) (fun j a ha=>⟨hK _,?_⟩) (fun j a ha=>?_)
 ·rw [zzj,zzk] at ha;obtain ⟨x,hx,rfl⟩:=ha;rw [Nat.zero_add];exact cell_of h (by have:=(zg.1 hx).1;simpa using this)
 ·rw [zzj,zzk] at ha;obtain ⟨x,hx,rfl⟩:=ha;rw [zz2] at hx;rw [zze,hx];exact .sc x
theorem S4 {g:Gh} {w:World} {tmps:Array Value}:∀ {Ls:SL},(∀ p ∈ Ls,Rel g w p.2 (tmps.getD p.1 undef))->∀ t,Rel g w (lk Ls t) (tmps.getD t undef)
 | [],_,t=>.bad _
 |p::Ls,h,t=>by
  rw [pq];by_cases e:p.1=t
  ·rw [if_pos e,<- e];exact h p (by simp)
  ·rw [if_neg e];exact S4 (fun q hq=>h q (by simp [hq])) t
theorem ew.quiet {w0:World} {D:List Deferred} {nt L st g a w} (hh:ew (ahb w0 D) nt L st g a w) (S:Nat->Prop) (m:Nat) (xx:Bool):kx S m xx w0 w:=by have hb:=hh.cur.base;exact .quiet S m xx hb.size hb.os hb.tape hb.output (fun b h=>hb.frame b h (fun h=>h))
theorem ew.aJ3 {B:dz} {nt L st g a w} (hh:ew B nt L st g a w):Au g st.h (xc w):=⟨fun b j hk=>hh.cur.ok.K b j hk,fun o cells k s e ho b base hi j hj=>by obtain ⟨b',base',h5,_,h6⟩:=hh.cur.ok.obj o _ ho;rw [hi] at h5;cases h5;exact h6.lt⟩
theorem ew.aEk {B:dz} {nt L st g a w} (hh:ew B nt L st g a w) {α:Type} (C:er α) {x : α} {vs:List Value} (h:bz g w (C.cells true x) vs):bz (gK B.b0 (xc w)) w (C.cells true x) vs:=
 C.ok hh.cur.ok hh.aJ3 (fun _=>Nat.le_of_eq hh.cur.base.b0.symm) h (C.rt true st.h true x (fun _=>rfl))
theorem aF3 {S:Nat->Prop} {m M sz b:Nat} {xx:Bool} {w w':World} {cs:Array Value} {e:TypeId} {E:Nat->World->List Value->Prop} (hE:Uq S sz E) (hM : 4<=M) (ho:kx S m xx w w') (hb:w.heap[b]? = some (.cells cs e (0,0))) (hs:TK.sz e=some sz) (hl:cs.size=sz) (h:E M w cs.toList) :
 ∃ cs',w'.heap[b]? = some (.cells cs' e (0,0))/\cs'.size=sz/\E (M+m) w' cs'.toList:=by
 obtain ⟨cs',q1,q2,q3⟩:=ho.cells b cs e _ hb;refine ⟨cs',q1,q2.trans hl,hE (j0:=0) hM ho hs (Nat.zero_mod _) (by simpa using hl) (by simp [q2,hl]) (fun i x x' hx hx'=>?_) h⟩;rw [zz2] at hx hx';rw [Nat.zero_add];exact q3 i x x' hx hx'
theorem Tn {nt:NT} {n:Nat} {tmps:Array Value} (h:tk nt tmps) (hn:nt.n=n):tk (n:NT) tmps:=⟨by rw [h.size,hn],fun p hp=>by cases hp⟩
end Go.Vm
