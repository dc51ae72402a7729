/- A piece of the proof of the law AnswerReplies: lemmas. No condition. -/
import Derived.Test.YtjagjbceegbaiaaGreatProg
import Derived.Test.YtjagjbceegbaiaaGreatRows
import Derived.Test.YtjagjbceegbaiaaGreatR1
set_option linter.unusedSimpArgs false
set_option linter.unusedVariables false
set_option linter.unusedSectionVars false
set_option maxRecDepth 2000000
namespace Go.Vm
variable [TK]
noncomputable section
theorem cb.one {g w a v} (h:Rel g w a v):cb g w [a] [v]:=cb.cons h (cb.nil _ _)
theorem Wo {g w a vs} (h:cb g w [a] vs):∃ v,vs=[v]/\Rel g w a v:=by
 match vs,h with
 | [v],h=>exact ⟨v,rfl,h.head⟩
 | [],h=>have:=h.1;simp at this
 |_::_::_,h=>have:=h.1;simp at this
def aJz {α:Type} (Ae:Value->Option α) (l:List AV):Option α:=
 match l with
 | [a]=>a.exact.bind Ae
 |_=>none
def aaf {α:Type} (kd:LK) (iu : α->Value) (Ae:Value->Option α) (h1:∀ x,Ae (iu x)=some x) (h2:∀ v x,Ae v=some x->v=iu x) (h3:∀ x,(iu x).cells = #[iu x]) (h4:∀ x,(iu x).oneCell'=true) (h5:∀ x,o0 (iu x)=kd):dp α where
 kd:=kd
 Nq _ _ _ _ _ _ _ hc hr:=by simp at hc;subst hc;have:=hr.exact rfl;subst this;exact h5 _
 sz:=1
 agg:=false
 cells _ x:=[.sc (iu x)]
 dec _ _ l:=aJz Ae l
 len _ _:=rfl
 rt _ _ _ x _:=h1 x
 one _ _ x:=⟨_,rfl,by simp [AV.cells,h3],rfl⟩
 pl _ x c hc:=by simp at hc;subst hc;exact ⟨fun τ=>by simp [AV.de],by simp [AV.names],h4 x,rfl⟩
 fr x c hc:=by simp at hc;subst hc;rfl
 ok:=by
  intro fr g h w K b0 l vs x _ _ _ hr hd
  match l,hd with
  | [a],hd=>
   obtain ⟨u,rfl,hu⟩:=Wo hr;cases a with
   |sc v=>
    have:=hu.exact rfl;subst this;have:=h2 _ _ hd;subst this;exact cb.one (.sc _)
   |_=>cases hd
def aAl (k:IntKind) (v:Value):Option Int:=
 match v with
 |.int k' n=>bif decide (k'=k) then some n else none
 |_=>none
def bb (k:IntKind):dp Int:=aaf (.int k) (fun n=>.int k n) (aAl k) (fun x=>by simp [aAl]) (fun v x h=>by
 cases v<;>simp [aAl] at h;rename_i k' n;by_cases e:k'=k
 ·subst e;simp at h;rw [h]
 ·simp [e] at h) (fun x=>rfl) (fun x=>rfl) (fun x=>rfl)
def bk:dp Bool:=aaf .bool (fun b=>.bool b) qz (fun x=>rfl) (fun v x h=>by cases v<;>simp [qz] at h;rw [h]) (fun x=>rfl) (fun x=>rfl) (fun x=>rfl)
def ai:dp ByteArray:=aaf .str (fun s=>.string s) strOf (fun x=>rfl) (fun v x h=>by cases v<;>simp [strOf] at h;rw [h]) (fun x=>rfl) (fun x=>rfl) (fun x=>rfl)
def u8V (v:Value):Option UInt8:=
 match v with
 |.int k n=>bif decide (k = .u8) && decide (0<=n) && decide (n<256) then some (UInt8.ofNat n.toNat) else none
 |_=>none
def ca:dp UInt8:=aaf (.int .u8) (fun n=>.int .u8 n.toNat) u8V (fun x=>by
 have:=x.toNat_lt;simp [u8V,show (x.toNat:Int)<256 by omega]) (fun v x h=>by
 cases v<;>simp [u8V] at h;rename_i k n;cases hb:(decide (k = .u8) && decide (0<=n) && decide (n<256)) with
 |false=>rw [hb] at h;cases h
 |true=>
  rw [hb] at h;simp at hb h;obtain ⟨⟨rfl,h0⟩,h1⟩:=hb;subst h
  congr 1
  rw [UInt8.toNat_ofNat'];omega) (fun x=>rfl) (fun x=>rfl) (fun x=>rfl)
def aBe (v:Value):Option UInt16:=
 match v with
 |.int k n=>bif decide (k = .u16) && decide (0<=n) && decide (n<65536) then some (UInt16.ofNat n.toNat) else none
 |_=>none
def cj:dp UInt16:=aaf (.int .u16) (fun n=>.int .u16 n.toNat) aBe (fun x=>by
 have:=x.toNat_lt;simp [aBe,show (x.toNat:Int)<65536 by omega]) (fun v x h=>by
 cases v<;>simp [aBe] at h;rename_i k n;cases hb:(decide (k = .u16) && decide (0<=n) && decide (n<65536)) with
 |false=>rw [hb] at h;cases h
 |true=>
  rw [hb] at h;simp at hb h;obtain ⟨⟨rfl,h0⟩,h1⟩:=hb;subst h
  congr 1
  rw [UInt16.toNat_ofNat'];omega) (fun x=>rfl) (fun x=>rfl) (fun x=>rfl)
def aAi (v:Value):Option UInt32:=
 match v with
 |.int k n=>bif decide (k = .u32) && decide (0<=n) && decide (n<4294967296) then some (UInt32.ofNat n.toNat) else none
 |_=>none
def cz:dp UInt32:=aaf (.int .u32) (fun n=>.int .u32 n.toNat) aAi (fun x=>by
 have:=x.toNat_lt;simp [aAi,show (x.toNat:Int)<4294967296 by omega]) (fun v x h=>by
 cases v<;>simp [aAi] at h;rename_i k n;cases hb:(decide (k = .u32) && decide (0<=n) && decide (n<4294967296)) with
 |false=>rw [hb] at h;cases h
 |true=>
  rw [hb] at h;simp at hb h;obtain ⟨⟨rfl,h0⟩,h1⟩:=hb;subst h
  congr 1
  rw [UInt32.toNat_ofNat'];omega) (fun x=>rfl) (fun x=>rfl) (fun x=>rfl)
theorem aIv {g w l n es v} (h:Rel g w (.vl l n es) v):o0 v = .no:=by cases h<;>rfl
def cg {α:Type} (C:dp α):dp (List α) where
 sz:=1
 kd:=.no
 Nq _ _ _ _ _ _ _ hc hr:=by simp at hc;subst hc;exact aIv hr
 agg:=false
 cells l xs:=[.vl l C.sz (xs.map (C.val l))]
 dec:=aDa C
 len _ _:=rfl
 rt:=by
  intro fr h l x hl;simp only [aDa,gm];cases hb:(Nat.beq C.sz C.sz && (l || !fr)) with
  |false=>cases fr<;>simp_all
  |true=>rw [cond_true,Ww C fr h l hl]
 one _ _ x:=⟨_,rfl,rfl,rfl⟩
 pl l xs c hc:=by simp at hc;subst hc;exact ⟨fun τ=>by rw [AV.de,Wg (fun c hc=>by obtain ⟨x,_,rfl⟩:=zyj.1 hc;exact Cl C τ l x)],by simp [AV.names],rfl,rfl⟩
 fr xs c hc:=by simp at hc;subst hc;simp only [AV.fresh,Bool.true_and];exact Ql (fun c hc=>by obtain ⟨x,_,rfl⟩:=zyj.1 hc;exact acu C x)
 ok:=by
  intro fr g h w K b0 l vs x aB hl hb hr hd
  match l,hd with
  | [a],hd=>
   obtain ⟨u,rfl,hu⟩:=Wo hr;exact cb.one (aEk C aB hl hb hu hd)
def jq {α β:Type} (A:dp α) (B:dp β):dp (α × β) where
 sz:=A.sz+B.sz
 kd:=bif Nat.beq A.sz 1 then A.kd else B.kd
 Nq e _ _ l x c v hc hr:=by
  rcases zyf 0 A.sz with h|h
  ·have ha:A.sz=1:=zO;have hb:B.cells l x.2=[]:=zzf (by rw [B.len];omega);rw [hb,zzn] at hc;rw [ha];exact A.Nq ha hc hr
  ·have ha:A.sz=0:=zO;have hb:A.cells l x.1=[]:=zzf (by rw [A.len];omega);rw [hb,List.nil_append] at hc;rw [ha];exact B.Nq zO hc hr
 agg:=true
 cells l p:=A.cells l p.1++B.cells l p.2
 dec fr h l:=match A.dec fr h (l.take A.sz),B.dec fr h (l.drop A.sz) with
  |some x,some y=>some (x,y)
  |_,_=>none
 len l p:=by simp [A.len,B.len]
 rt:=by
  intro fr h l p hl;have h1:(A.cells l p.1++B.cells l p.2).take A.sz=A.cells l p.1:=by rw [<- A.len l p.1,List.take_left]
  have h2:(A.cells l p.1++B.cells l p.2).drop A.sz=B.cells l p.2:=by rw [<- A.len l p.1,List.drop_left]
  simp only [h1,h2,A.rt fr h l _ hl,B.rt fr h l _ hl]
 one e:=by cases e
 pl l p c hc:=by rcases zzq.1 hc with h|h;exact A.pl l _ c h;exact B.pl l _ c h
 fr p c hc:=by rcases zzq.1 hc with h|h;exact A.fr _ c h;exact B.fr _ c h
 ok:=by
  intro fr g h w K b0 l vs x aB hl hb hr hd
  split at hd
  ·rename_i x1 y1 hx hy;simp at hd;subst hd;have:=(A.ok aB hl hb (hr.take A.sz) hx).append (B.ok aB hl hb (hr.drop A.sz) hy)
   rwa [zzm] at this
  ·cases hd
def x7 {α β:Type} (C:dp α) (f : β -> α) (i : α -> β) (h1:∀ y,i (f y)=y) (h2:∀ x,f (i x)=x):dp β where
 sz:=C.sz
 kd:=C.kd
 Nq e _ _ _ _ _ _ hc hr:=C.Nq e hc hr
 agg:=C.agg
 cells l y:=C.cells l (f y)
 dec fr h l:=(C.dec fr h l).map i
 len l y:=C.len l (f y)
 rt fr h l y hl:=by rw [C.rt fr h l _ hl];simp [h1]
 one e l y:=C.one e l (f y)
 pl l y:=C.pl l (f y)
 fr y:=C.fr (f y)
 ok:=by intro fr g h w K b0 l vs x aB hl hb hr hd;rw [zzk] at hd;obtain ⟨y,hy,rfl⟩:=hd;rw [h2];exact C.ok aB hl hb hr hy
structure AC (α:Type) where
 E : α->List AV
 D:Tr bp->List AV->Option α
 rt:∀ h x,D h (E x)=some x
 ok:∀ {g h w K b0 l vs x},Ok g h w->yv g h K->cb g w l vs->D h l=some x->cb (gK b0 K) w (E x) vs
def AC.get {α:Type} (A:AC α) (h:Tr bp) (l:List AV):Option α:=A.D h l
def a0:AC Unit where
 E _:=[]
 D _ l:=match l with
  | []=>some ()
  |_=>none
 rt _ _:=rfl
 ok:=by
  intro g h w K b0 l vs x _ _ hr hd
  match l,hd with
  | [],_=>
   have:=hr.1;simp at this;subst this;exact cb.nil _ _
def aC {α β:Type} (C:dp α) (R:AC β):AC (α × β) where
 E p:=C.val false p.1::R.E p.2
 D h l:=match l with
  | []=>none
  |a::r=>match C.gv false h a,R.D h r with
   |some x,some y=>some (x,y)
   |_,_=>none
 rt h p:=by simp only [C.K7 false h false p.1 (fun e=>by cases e),R.rt]
 ok:=by
  intro g h w K b0 l vs x aB hl hr hd
  match l,hd with
  |a::r,hd=>
   simp only at hd
   split at hd
   ·rename_i x1 y1 hx hy;simp at hd;subst hd
    match vs,hr with
    | [],hr=>have:=hr.1;simp at this
    |v::vs,hr=>exact cb.cons (C.okV aB hl (fun e=>by cases e) hr.head hx) (R.ok aB hl hr.tail hy)
   ·cases hd
structure RC (α:Type) where
 E:Bool -> α->AV
 D:Bool->Tr bp->AV->Option α
 ok:∀ {fr g h w K b0 a v x},Ok g h w->yv g h K->(fr=true->b0<=g.b0)->Rel g w a v->D fr h a=some x->Rel (gK b0 K) w (E fr x) v
def RC.get {α:Type} (R:RC α) (fr:Bool) (h:Tr bp) (a:AV):Option α:=R.D fr h a
def r1 {α:Type} (C:dp α):RC α where
 E:=C.val
 D:=C.gv
 ok aB hl hb hr hd:=C.okV aB hl hb hr hd
def N8 (a:AV):Option (List AV):=
 match a with
 |.iw l=>some l
 |.sc v=>match v with
  |.tuple vs=>some (vs.toList.map .sc)
  |_=>none
 |_=>none
theorem ap0 {g w a v l} (hr:Rel g w a v) (h:N8 a=some l):∃ vs,v = .tuple vs/\cb g w l vs.toList:=by
 cases hr with
 |iw l' vs hs hh=>
  simp [N8] at h;subst h;exact ⟨vs,rfl,⟨by simpa using hs,fun i a v ha hv=>hh i a v ha (by simpa using hv)⟩⟩
 |sc v=>
  cases v<;>simp [N8] at h;subst h;exact ⟨_,rfl,cb.Iy g w _⟩
 |_=>cases h
theorem ap3 {g w l} {vs:Array Value} (h:cb g w l vs.toList):Rel g w (.iw l) (.tuple vs):=
 .iw l vs (by simpa using h.1) (fun i a v ha hv=>h.2 i a v ha (by simpa using hv))
def r2 {α β:Type} (A:dp α) (B:dp β):RC (α × β) where
 E l p:=.iw [A.val l p.1,B.val l p.2]
 D fr h a:=match N8 a with
  |some [a,b]=>match A.gv fr h a,B.gv fr h b with
   |some x,some y=>some (x,y)
   |_,_=>none
  |_=>none
 ok:=by
  intro fr g h w K b0 a v x aB hl hb hr hd;cases ht:N8 a with
  |none=>rw [ht] at hd;cases hd
  |some l=>
   rw [ht] at hd;obtain ⟨vs,rfl,hrel⟩:=ap0 hr ht
   match l,hd with
   | [a,b],hd=>
    simp only at hd
    split at hd
    ·rename_i x1 y1 hx hy;simp at hd;subst hd;obtain ⟨vl⟩:=vs
     match vl,hrel with
     | [u,v],hrel=>exact ap3 (cb.cons (A.okV aB hl hb hrel.head hx) (cb.one (B.okV aB hl hb hrel.tail.head hy)))
     | [],hrel=>have:=hrel.1;simp at this
     | [_],hrel=>have:=hrel.1;simp at this
     |_::_::_::_,hrel=>have:=hrel.1;simp at this
    ·cases hd
def r3 {α β γ:Type} (A:dp α) (B:dp β) (C:dp γ):RC (α × β × γ) where
 E l p:=.iw [A.val l p.1,B.val l p.2.1,C.val l p.2.2]
 D fr h a:=match N8 a with
  |some [a,b,c]=>match A.gv fr h a,B.gv fr h b,C.gv fr h c with
   |some x,some y,some z=>some (x,y,z)
   |_,_,_=>none
  |_=>none
 ok:=by
  intro fr g h w K b0 a v x aB hl hb hr hd;cases ht:N8 a with
  |none=>rw [ht] at hd;cases hd
  |some l=>
   rw [ht] at hd;obtain ⟨vs,rfl,hrel⟩:=ap0 hr ht
   match l,hd with
   | [a,b,c],hd=>
    simp only at hd
    split at hd
    ·rename_i x1 y1 z1 hx hy hz;simp at hd;subst hd;obtain ⟨vl⟩:=vs
     match vl,hrel with
     | [u,v,t],hrel=>exact ap3 (cb.cons (A.okV aB hl hb hrel.head hx) (cb.cons (B.okV aB hl hb hrel.tail.head hy) (cb.one (C.okV aB hl hb hrel.tail.tail.head hz))))
     | [],hrel=>have:=hrel.1;simp at this
     | [_],hrel=>have:=hrel.1;simp at this
     | [_,_],hrel=>have:=hrel.1;simp at this
     |_::_::_::_::_,hrel=>have:=hrel.1;simp at this
    ·cases hd
structure qk (w w':World):Prop where
 size:w.heap.size<=w'.heap.size
 heap:∀ b,b<w.heap.size->w'.heap[b]? = w.heap[b]?
 os:w'.os=w.os
 tape:w'.tape=w.tape
 output:w'.output=w.output
def N0 (K:Nat->Nat->Prop) (w w':World):Nat->Nat->Prop:=fun b j=>K b j\/(w.heap.size<=b/\b<w'.heap.size)
def apk (P:Program) (f:Nat) (vs:List Value) (w:World) (X:Value->World->Prop):Prop:=
 (∃ v,(callFunc f vs.toArray).run P w = .ok (.value v) w/\X v w) \/
 ((callFunc f vs.toArray).run P w = .ok (.enter f vs.toArray) w/\Calls P f vs.toArray w (fun e w'=>∃ v,e = .returned v/\X v w'))
def bj (P:Program) (f:Nat) (args:List AV) (r:AV):Prop:=
 ∀ (K:Nat->Nat->Prop) (w:World) (vs:List Value),(∀ b j,K b j->b<w.heap.size)->cb (gK w.heap.size K) w args vs ->
  apk P f vs w (fun v w'=>qk w w'/\Rel (gK w.heap.size (N0 K w w')) w' r v)
theorem aai {P:Program} [KP P] {g w nt} {L:SL} {tmps:Array Value} {st:St} (aB:Ok g st.h w) (hs:js g w nt L tmps):∀ (rs:List ResultVar) (l:List AV),wa P L st rs=some l ->
 ∃ vs,(rs.mapM (uy tmps)).run P w = .ok vs w/\cb g w l vs:=by
 intro rs
 induction rs with
 |nil=>intro l h;simp [wa] at h;subst h;exact ⟨[],by simp,cb.nil _ _⟩
 |cons r rs ih=>
  intro l h;cases r with
  |tmp t=>
   simp only [wa,zzk] at h;obtain ⟨l',h1,rfl⟩:=h;obtain ⟨vs,h2,h3⟩:=ih l' h1;refine ⟨tmps.getD t undef::vs,?_,cb.cons (hs.2 t) h3⟩;simp only [List.mapM_cons,Sem.run_bind,uy,Sem.run_pure,Result.andThen_ok,h2]
  |cell c t=>
   simp only [wa] at h
   split at h
   ·rename_i v st' hl;rw [zzk] at h;obtain ⟨l',h1,rfl⟩:=h;obtain ⟨vs,h2,h3⟩:=ih l' h1;have hrel:=hs.2 c;have qM:∃ ad,tmps.getD c undef = .pointer (some ad):=by
     generalize lk L c=x at hrel hl;generalize tmps.getD c undef=v at hrel;cases hrel<;>first|exact ⟨_,rfl⟩|cases hl
    obtain ⟨ad,had⟩:=qM;obtain ⟨u,h4,h5⟩:=aue (P:=P) aB hrel hl had;refine ⟨u::vs,?_,cb.cons h5 h3⟩;have h6:(uy tmps (.cell c t)).run P w = .ok u w:=by simp [uy,had,asAddr,h4]
    simp only [List.mapM_cons,Sem.run_bind,h6,Result.andThen_ok,h2];rfl
   ·cases h
theorem aa9 {P:Program} [KP P] {g w} {fn:Func} {tmps:Array Value} {l:List AV} {vs:List Value} (h:(fn.results.toList.mapM (uy tmps)).run P w = .ok vs w) (q4:cb g w l vs) :
 ∃ v,(results fn tmps).run P w = .ok v w/\Rel g w (pack l) v:=by
 have hmap:(fn.results.mapM (uy tmps)).run P w = .ok vs.toArray w:=by rw [Array.mapM_eq_mapM_toList];simp [h]
 rw [X3];simp only [Sem.run_bind,hmap,Result.andThen_ok,Sem.run_pure];refine ⟨_,rfl,?_⟩
 match l,vs,q4 with
 | [a1],[v1],q4=>simpa [pack] using q4.head
 | [],[],q4=>simp [pack];exact .iw _ _ rfl (fun i a v h _=>by simp at h)
 |a1::a2::l,v1::v2::vs,q4=>
  simp [pack];exact .iw _ _ (by have:=q4.1;simp at this ⊢;omega) (fun i a v h1 h2=>q4.2 i a v h1 (by simpa using h2))
 | [],v::vs,q4=>have:=q4.1;simp at this
 |a::l,[],q4=>have:=q4.1;simp at this
 | [a1],v1::v2::vs,q4=>have:=q4.1;simp at this
 |a1::a2::l,[v1],q4=>have:=q4.1;simp at this
theorem abe {P:Program} [KP P] {T:fc} (hT:ar P T) (hm:P.follows .mixedOrders=true) {f:Nat} {fn:Func} {body:Code} (hf:P.funcs[f]? = some fn) (hb:fn.body=some body) (he:oi P f=true) (hs:ey fn.ntmps body=true)
 {args:List AV} (hl:args.length<=fn.ntmps) {ρ:Type} (R:RC ρ) (fr:Bool) (x : ρ)
 (h:wl P T 0 body (c9 P fn.results.toList (fun r st=>R.get fr st.h r=some x)) (cp 0 args) (bg [])):bj P f args (R.E fr x):=by
 intro K w vs hK hrel;refine .inr ⟨si he _ _,xb (ro:=none) (n:=0) (callsIn_of_wp_marks hf hb trivial ?_)⟩
 let B:fi:={ b0:=w.heap.size,w,K,O:=fun _=>False,be:=0,pb:=fun _=>none,n0:=w.heap.size }
 have eB:kz B (gK w.heap.size K) (bg []) w:=by
  refine ⟨⟨zza _,fun o x hx=>?_,fun o o' x x' b base base' _ hx=>?_,hK⟩,fun o _ _=>rfl,⟨rfl,(fun o ho=>(by rcases ho with ho|ho;cases ho;exact ho.elim)),fun _ _ h=>h,fun _ _ _=>rfl,zza _,rfl,rfl,rfl,fun _ _ _=>rfl,fun o b base ho=>?_,fun _ _ h=>.inl h,fun b cs e fr h=>⟨cs,fr,h,rfl⟩,fun b l h=>⟨l,h⟩,fun _ _ _ _ _ _=>rfl⟩,zzb _⟩
  ·simp [bg,ng,Tr.get_nil] at hx
  ·simp [bg,ng,Tr.get_nil] at hx
  ·simp [bg,ng,Tr.get_nil] at ho
 refine wpIn_mono (af2 hT hm (N:=0) (B:=B) (nt:=fn.ntmps) (fun _ h=>h) (by show (0:Nat)<=1000;omega) (zza _) body hs _ _ _ (gK w.heap.size K) w _ h eB (Dw hrel hl) (Marks.nil _ _ _ _)) ?_;rintro ex a w' ⟨e,L,st,g,rfl,hq,hc,hr,hd⟩;have fin:Kx (wa P L st fn.results.toList) (fun r st=>R.get fr st.h r=some x) st->bodyPostM (fu none) 0 P fn (fun e w'=>∃ v,e = .returned v/\qk w w'/\Rel (gK w.heap.size (N0 K w w')) w' (R.E fr x) v) .ret a w':=by
  intro hq;show LeavesInM (fu none) 0 P fn a.tmps _ a.defers .returning w';unfold Kx at hq;cases hres:wa P L st fn.results.toList with
  |none=>rw [hres] at hq;exact hq.elim
  |some l=>
   rw [hres] at hq;have aX:=hc.base;obtain ⟨bs,e1,e2,e3⟩:=hd;have e1:=e1.trans (zzn _);rw [e1];refine Fq (Good:=fun u=>Ok g st.h u/\qk w u/\(∀ a v,Rel g w' a v->Rel g u a v)/\u.heap.size=w'.heap.size) (S:=fun b=>w.heap.size<=b/\jv g st.h b) ?_ ?_ bs w'
    ⟨hc.ok,⟨aX.size,fun b hlt=>aX.frame b hlt (fun h=>h),aX.os,aX.tape,aX.output⟩,fun _ _ h=>h,rfl⟩ e2 (fun b hb=>⟨⟨(e3 b hb).1,(e3 b hb).2.2⟩,(e3 b hb).2.1⟩)
   ·rintro u b ⟨g1,g2,g3,g4⟩ ⟨hb1,hb2⟩ hb3;have hput:=Ok.Kp (ds':=none) g1 hb3 hb2;exact ⟨hput.1,⟨by rw [ni];exact g2.size,fun c hc=>(fo u _ zO).trans (g2.heap c hc),g2.os,g2.tape,g2.output⟩,fun a v h=>hput.2 a v (g3 a v h),by rw [ni];exact g4⟩
   ·rintro u ⟨g1,g2,g3,g4⟩;obtain ⟨us,h1,h2⟩:=aai (P:=P) g1 ⟨hr.1,fun t=>g3 _ _ (hr.2 t)⟩ fn.results.toList l hres;obtain ⟨v,h3,h4⟩:=aa9 h1 h2;refine ⟨v,h3,v,rfl,g2,?_⟩;refine R.ok g1 ⟨fun b j hk=>?_,fun o cells k s e ho b base hi j hj=>?_⟩ (fun _=>?_) h4 hq
    ·rcases aX.ox b j hk with h5|h5|h5
     ·exact .inl h5
     ·exact .inr ⟨h5,g1.K b j hk⟩
     ·exact h5.elim
    ·obtain ⟨b',base',h5,_,h6⟩:=g1.obj o _ ho;rw [hi] at h5;cases h5;rcases aX.own o b base (by rw [ho];rfl) hi with h7|h7
     ·exact .inr ⟨h7,h6.lt⟩
     ·exact h7.elim
    ·rw [aX.b0];exact zza _
 cases e with
 |normal=>exact fin hq
 |ret=>exact fin hq
 |exit id=>exact hq.elim
theorem Rel.lift {b0 K g w a v} (h:Rel (gK b0 K) w a v) (hb:g.b0<=b0) (hK:∀ b j,K b j->g.K b j):Rel g w a v:=by
 have hno:∀ o p,(gK b0 K).inj o≠some p:=fun o p e=>by cases e
 generalize hg:gK b0 K=g0 at h hno;have hK':∀ b j,g0.K b j->g.K b j:=by subst hg;exact hK
 have hb':g.b0<=g0.b0:=by subst hg;exact hb
 clear hg
 induction h with
 |sc x=>exact .sc x
 |agg l vs hs _ ih=>exact .agg l vs hs ih
 |iw l vs hs _ ih=>exact .iw l vs hs ih
 |vl loc sz es b off cap c hsz hl aL h _ hw ih=>exact .vl loc sz es b off cap c hsz (fun e=>zzu hb' (hl e)) aL (fun j a hj=>⟨hK' _ _ (h j a hj).1,(h j a hj).2⟩) ih (fun e=>⟨fun j=>hK' _ _ ((hw e).K j),(hw e).ta,(hw e).none,(hw e).cm⟩)
 |lx loc sz=>exact .lx loc sz
 |vo loc sz a=>exact .vo loc sz a
 |sl o off len sz b base cap hi hc hm hr=>exact (hno _ _ hi).elim
 |wo o off sz a=>exact .wo o off sz a
 |xp o off sz=>exact .xp o off sz
 |ez a=>exact .ez a
 |ptr o off b base hi=>exact (hno _ _ hi).elim
 |fe l b off c h _ ih=>exact .fe l b off c (fun j a hj=>⟨hK' _ _ (h j a hj).1,(h j a hj).2⟩) ih
 |fn f first captured va vb hs _ hs' _ ih ih'=>exact .fn f first captured va vb hs ih hs' ih'
 |mp o b base hi=>exact (hno _ _ hi).elim
 |tt t a v _ ih=>exact .tt t a v ih
 |yl o b base hi=>exact (hno _ _ hi).elim
 |bad v=>exact .bad v
theorem Hj {l:List AV} (h:AV.fresh.go l=true):∀ a ∈ l,a.fresh=true:=by
 induction l with
 |nil=>intro a ha;cases ha
 |cons x l ih=>
  simp only [AV.fresh.go,zzh] at h;intro a ha;rcases zya.1 ha with rfl|ha
  ·exact h.1
  ·exact ih h.2 a ha
theorem amv {a:AV} (h:a.fresh=true):∀ c ∈ a.cells,c.fresh=true:=by
 cases a with
 |agg l=>exact Hj h
 |sc v=>intro c hc;simp only [AV.cells,zyj] at hc;obtain ⟨x,_,rfl⟩:=hc;rfl
 |_=>intro c hc;simp only [AV.cells,zz0] at hc;subst hc;exact h
theorem Rel.fresh {b0 K g w a v} (h:Rel (gK b0 K) w a v) (hf:a.fresh=true) (hb:g.b0<=b0) (hK:∀ b j,K b j->b0<=b->g.K b j):Rel g w a v:=by
 generalize hg:gK b0 K=g0 at h;have hK':∀ b j,g0.K b j->g0.b0<=b->g.K b j:=by subst hg;exact hK
 have hb':g.b0<=g0.b0:=by subst hg;exact hb
 clear hg hb hK
 induction h with
 |sc x=>exact .sc x
 |agg l vs hs _ ih=>exact .agg l vs hs (fun i a v ha hv=>ih i a v ha hv (Hj hf a (zm ha)))
 |iw l vs hs _ ih=>exact .iw l vs hs (fun i a v ha hv=>ih i a v ha hv (Hj hf a (zm ha)))
 |vl loc sz es b off cap c hsz hl aL h _ hw ih=>
  simp only [AV.fresh,zzh] at hf;have gR:=hl hf.1;refine .vl loc sz es b off cap c hsz (fun e=>zzu hb' gR) aL (fun j a hj=>⟨hK' _ _ (h j a hj).1 gR,(h j a hj).2⟩) (fun j a hj=>ih j a hj ?_) (fun e=>⟨fun j=>hK' _ _ ((hw e).K j) gR,(hw e).ta,(hw e).none,(hw e).cm⟩);obtain ⟨e,he,hc⟩:=List.mem_flatMap.1 (zm hj);exact amv (Hj hf.2 e he) a hc
 |lx loc sz=>exact .lx loc sz
 |vo loc sz a=>exact .vo loc sz a
 |sl o off len sz b base cap hi hc hm hr=>cases hf
 |wo o off sz a=>cases hf
 |xp o off sz=>cases hf
 |ez a=>exact .ez a
 |ptr o off b base hi=>cases hf
 |fe l b off c h _ ih=>cases hf
 |fn f first captured va vb hs _ hs' _ ih ih'=>
  simp only [AV.fresh,zzh] at hf;exact .fn f first captured va vb hs (fun i a v ha hv=>ih i a v ha hv (Hj hf.1 a (zm ha))) hs' (fun i a v ha hv=>ih' i a v ha hv (Hj hf.2 a (zm ha)))
 |mp o b base hi=>cases hf
 |tt t a v _ ih=>exact .tt t a v (ih hf)
 |yl o b base hi=>cases hf
 |bad v=>cases hf
def Gh.more (g:Gh) (w w':World):Gh:={ g with K:=N0 g.K w w' }
theorem Y2 {g h w w'} {lo hi:Nat} (aB:Ok g h w) (q:qk w w'):Step g h w lo hi (g.more w w') h w'/\Ok (g.more w w') h w':=by
 have aH:Ext g w (g.more w w') w':=by refine ⟨rfl,fun _ _ h=>h,fun _ _ h=>.inl h,fun b j hj=>rh (q.heap b (aB.K b j hj)),fun b cs e fr hb=>⟨cs,fr,(q.heap b (cr hb)).trans hb,rfl⟩,fun b l hb=>⟨l,(q.heap b (cr hb)).trans hb⟩,fun b cs e fr hb _=>q.heap b (cr hb)⟩
 refine ⟨⟨aH,q.size,q.os,q.tape,q.output,fun b hb _=>q.heap b hb,fun _ h _=>h,fun o b base ho hi=>.inr ⟨o,base,ho,hi⟩,fun b j hk=>?_⟩,⟨zzu aB.size q.size,fun o x hx=>?_,aB.sep,fun b j hk=>?_⟩⟩
 ·rcases hk with hk|hk
  ·exact .inl hk
  ·exact .inr (.inl hk.1)
 ·refine (aB.oa o x hx).imp id ?_;rintro ⟨b,base,h1,h2,h3⟩;refine ⟨b,base,h1,h2,h3.ext aH (q.heap b h3.lt) (fun j hk=>?_)⟩;rcases hk with hk|hk
  ·exact hk
  ·have:=h3.lt;omega
 ·rcases hk with hk|hk
  ·exact zyc (aB.K b j hk) q.size
  ·exact hk.2
noncomputable def cx {α:Type} (A:AC α) (F : α->Option AV) (args:List AV):M AV:=fun st=>
 match A.get .nil args with
 |some x=>(F x).map fun r=>(r,st)
 |none=>
  match A.get st.h args with
  |some x=>
   match F x with
   |some r=>bif r.fresh then some (r,st) else some (r,{ st with h:=.nil })
   |none=>none
  |none=>none
theorem aq {P:Program} [KP P] {f:Nat} {α:Type} {A:AC α} {F : α->Option AV} (h:∀ x r,F x=some r->bj P f (A.E x) r) (args:List AV):Cr P f args (cx A F args):=by
 intro g st w vs r st' aB bU hrel hm;have go:∀ (X:Value->World->Prop),apk P f vs w X->(∀ v w',X v w'->qk w w'/\Rel (g.more w w') w' r v)->st'=st ->
  (∃ v w' g',(callFunc f vs.toArray).run P w = .ok (.value v) w'/\Step g st.h w st.nx st'.nx g' st'.h w'/\Ok g' st'.h w'/\Rel g' w' r v) \/
  ((callFunc f vs.toArray).run P w = .ok (.enter f vs.toArray) w/\Calls P f vs.toArray w (fun e w'=>∃ v g',e = .returned v/\Step g st.h w st.nx st'.nx g' st'.h w'/\Ok g' st'.h w'/\Rel g' w' r v)):=by
  intro X hx hX e;subst e;rcases hx with ⟨v,h1,h2⟩|⟨h1,h2⟩
  ·obtain ⟨q,hr⟩:=hX v w h2;have:=Y2 (lo:=st'.nx) (hi:=st'.nx) aB q;exact .inl ⟨v,w,_,h1,this.1,this.2,hr⟩
  ·refine .inr ⟨h1,h2.mono ?_⟩;rintro e w' ⟨v,rfl,h3⟩;obtain ⟨q,hr⟩:=hX v w' h3;have:=Y2 (lo:=st'.nx) (hi:=st'.nx) aB q;exact ⟨v,_,rfl,this.1,this.2,hr⟩
 unfold cx at hm;cases h1:A.get .nil args with
 |some x=>
  rw [h1] at hm;simp only [zzk] at hm;obtain ⟨r',h2,h3⟩:=hm;cases h3;have aR:=A.ok (b0:=w.heap.size) (aB.part (hm:=.nil) (fun o x hx=>by rw [Tr.get_nil] at hx;cases hx)) (yv.nil g g.K (fun _ _ h=>h)) hrel h1;refine go _ (h x r h2 g.K w vs aB.K aR) (fun v w' hv=>⟨hv.1,hv.2.lift aB.size (fun b j hk=>hk)⟩) rfl
 |none=>
  rw [h1] at hm;simp only at hm;cases h2:A.get st.h args with
  |none=>rw [h2] at hm;cases hm
  |some x=>
   rw [h2] at hm;simp only at hm;cases h3:F x with
   |none=>rw [h3] at hm;cases hm
   |some r'=>
    rw [h3] at hm;simp only at hm;cases h4:r'.fresh with
    |false=>
     rw [h4] at hm;cases hm;obtain ⟨K1,eK⟩:∃ K1:Nat->Nat->Prop,(fun b j=>g.K b j\/((∃ o base,(st.h.get o).isSome=true/\g.inj o=some (b,base))/\b<w.heap.size))=K1:=⟨_,rfl⟩;have oC:∀ b j,K1 b j↔(g.K b j\/((∃ o base,(st.h.get o).isSome=true/\g.inj o=some (b,base))/\b<w.heap.size)):=fun b j=>by rw [<- eK]
     have oB:∀ b j,K1 b j->b<w.heap.size:=fun b j hk=>((oC b j).1 hk).elim (aB.K b j) (fun q=>q.2)
     have aR:=A.ok (b0:=w.heap.size) (K:=K1) aB ⟨fun b j hk=>(oC b j).2 (.inl hk),fun o cells k s e ho b base hi j hj=>by obtain ⟨b',base',h5,_,h6⟩:=aB.obj o _ ho;rw [hi] at h5;cases h5;exact (oC _ _).2 (.inr ⟨⟨o,base,by rw [ho];rfl,hi⟩,h6.lt⟩)⟩ hrel h2
     have fin:∀ (v:Value) (w':World),qk w w'/\Rel (gK w.heap.size (N0 K1 w w')) w' r v ->
      Step g st.h w st.nx st.nx { g with K:=N0 K1 w w' } .nil w'/\Ok { g with K:=N0 K1 w w' } .nil w'/\Rel { g with K:=N0 K1 w w' } w' r v:=by
      rintro v w' ⟨q,hr⟩;refine ⟨⟨⟨rfl,fun _ _ h=>h,fun b j h=>.inl ((oC b j).2 (.inl h)),fun b j hj=>rh (q.heap b (aB.K b j hj)),fun b cs e fr hb=>⟨cs,fr,(q.heap b (cr hb)).trans hb,rfl⟩,fun b l hb=>⟨l,(q.heap b (cr hb)).trans hb⟩,fun b cs e fr hb _=>q.heap b (cr hb)⟩,
       q.size,q.os,q.tape,q.output,fun b hb _=>q.heap b hb,fun _ h _=>h,fun o b base ho hi=>(by rw [Tr.get_nil] at ho;cases ho),fun b j hk=>?_⟩,
       ⟨zzu aB.size q.size,fun o x hx=>(by rw [Tr.get_nil] at hx;cases hx),fun o o' x x' b base base' _ hx=>(by rw [Tr.get_nil] at hx;cases hx),fun b j hk=>?_⟩,hr.lift aB.size (fun b j hk=>hk)⟩
      ·rcases hk with hk|hk
       ·rcases (oC b j).1 hk with hk|⟨hk,_⟩
        ·exact .inl hk
        ·exact .inr (.inr hk)
       ·exact .inr (.inl hk.1)
      ·rcases hk with hk|hk
       ·exact zyc (oB b j hk) q.size
       ·exact hk.2
     rcases h x r h3 K1 w vs oB aR with ⟨v,p1,p2⟩|⟨p1,p2⟩
     ·have q:=fin v w p2;exact .inl ⟨v,w,_,p1,q.1,q.2.1,q.2.2⟩
     ·refine .inr ⟨p1,p2.mono ?_⟩;rintro e w' ⟨v,rfl,p3⟩;have q:=fin v w' p3;exact ⟨v,_,rfl,q.1,q.2.1,q.2.2⟩
    |true=>
     rw [h4] at hm;cases hm;have aR:=A.ok (b0:=w.heap.size) (K:=fun b _=>b<w.heap.size) aB ⟨fun b j hk=>aB.K b j hk,fun o cells k s e ho b base hi j hj=>by obtain ⟨b',base',h5,_,h6⟩:=aB.obj o _ ho;rw [hi] at h5;cases h5;exact h6.lt⟩ hrel h2
     refine go _ (h x r h3 (fun b _=>b<w.heap.size) w vs (fun _ _ h=>h) aR) (fun v w' hv=>⟨hv.1,hv.2.fresh h4 aB.size (fun b j hk hle=>?_)⟩) rfl;rcases hk with hk|hk
     ·omega
     ·exact .inr hk
theorem ar.nil (P:Program):ar P []:=fun f b m h=>by cases h
theorem ar.cons {P:Program} [KP P] {f:Nat} {b:Bool} {m:List AV->M AV} {T:fc} (h:∀ args,Cr P f args (m args)) (hT:ar P T):ar P ((f,b,m)::T):=by
 intro f' b' m' hf args;simp only [fc.find] at hf;by_cases e:f=f'
 ·subst e;simp only [Nat.beq_refl,cond_true,Option.some.injEq] at hf;cases hf;exact h args
 ·rw [sd e,cond_false] at hf;exact hT f' b' m' hf args
def ase (g:Gh) (st:St) (w:World):fi:={ ku g st.h w st.nx (fun _=>False) with n0:=w.heap.size }
theorem kz.ofC {g st w} (aB:Ok g st.h w) (hfr:∀ o,st.nx<=o->g.inj o=none):kz (ase g st w) g st w:=
 ⟨aB,fun o h1 _=>hfr o h1,⟨rfl,fun _o zD=>rfl,fun _ _ h=>h,fun _ _ _=>rfl,zza _,rfl,rfl,rfl,fun _ _ _=>rfl,fun o _b base ho hi=>.inr (.inr ⟨o,base,ho,hi⟩),fun _ _ h=>.inl h,
  fun _b cs _e fr h=>⟨cs,fr,h,rfl⟩,fun _b l h=>⟨l,h⟩,fun _ _ _ _ _ _=>rfl⟩,zza _⟩
theorem kz.aI4 {g st w g' st' w'} (h:kz (ase g st w) g' st' w') (hfr:∀ o,st.nx<=o->g.inj o=none):Step g st.h w st.nx st'.nx g' st'.h w':=by
 have b:=h.base;have pins:∀ o,o<st.nx->g'.inj o=g.inj o:=fun o ho=>b.pins o (.inl ho)
 refine ⟨⟨b.b0,fun o p hp=>?_,b.K,b.cell,b.ta,b.lp,b.whole⟩,b.size,b.os,b.tape,b.output,fun c hc hn=>b.frame c hc (fun hO=>?_),fun o ho hr=>?_,fun o c base ho hi=>?_,fun c j hk=>?_⟩
 ·by_cases h1:st.nx<=o
  ·rw [hfr o h1] at hp;cases hp
  ·rw [pins o zO];exact hp
 ·rcases hO with hO|⟨o,base,h1,h2⟩
  ·exact hO
  ·exact hn o base h1 h2
 ·by_cases h1:o<st.nx
  ·rw [pins o h1];exact ho
  ·exact h.fresh o zO (fun hf=>hf)
 ·rcases b.own o c base ho hi with h1|h1|h1
  ·exact .inl h1
  ·exact h1.elim
  ·exact .inr h1
 ·rcases b.ox c j hk with h1|h1|h1|h1
  ·exact .inl h1
  ·exact .inr (.inl h1)
  ·exact h1.elim
  ·exact .inr (.inr h1)
theorem ct {P:Program} [KP P] {T:fc} (hT:ar P T) (hm:P.follows .mixedOrders=true) {f:Nat} {fn:Func} {body:Code} (hf:P.funcs[f]? = some fn) (hb:fn.body=some body) (he:oi P f=true) (hs:ey fn.ntmps body=true)
 {args:List AV} (hl:Nat.ble args.length fn.ntmps=true) {st:St} (hp:Nat.ble st.nx 1000=true) {R:AV->St->Prop}
 (h:wl P T st.nx body (c9 P fn.results.toList R) (cp 0 args) st):ky P f args st R:=by
 intro g w vs aB hfr hrel;refine .inr ⟨si he _ _,xb (ro:=none) (n:=0) (callsIn_of_wp_marks hf hb trivial ?_)⟩;have eB:=kz.ofC (w:=w) aB hfr;refine wpIn_mono (af2 hT hm (N:=0) (B:=ase g st w) (nt:=fn.ntmps) (fun _ h=>h) (zB hp) (zza _) body hs _ _ _ g w _ h eB (Dw hrel (zB hl)) (Marks.nil _ _ _ _)) ?_;rintro ex a w' ⟨e,L,st',g',rfl,hq,hc,hr,hd⟩;have fin:Kx (wa P L st' fn.results.toList) R st'->bodyPostM (fu none) 0 P fn (fun e w'=>∃ v g' r st',e = .returned v/\R r st'/\st.nx<=st'.nx/\Step g st.h w st.nx st'.nx g' st'.h w'/\Ok g' st'.h w'/\Rel g' w' r v) .ret a w':=by
  intro hq;show LeavesInM (fu none) 0 P fn a.tmps _ a.defers .returning w';unfold Kx at hq;cases hres:wa P L st' fn.results.toList with
  |none=>rw [hres] at hq;exact hq.elim
  |some l=>
   rw [hres] at hq;obtain ⟨bs,e1,e2,e3⟩:=hd;have e1:=e1.trans (zzn _);rw [e1];refine Fq (Good:=fun u=>Ok g' st'.h u/\Step g st.h w st.nx st'.nx g' st'.h u/\(∀ a v,Rel g' w' a v->Rel g' u a v)) (S:=fun b=>w.heap.size<=b/\jv g' st'.h b) ?_ ?_ bs w'
    ⟨hc.ok,hc.aI4 hfr,fun _ _ h=>h⟩ e2 (fun b hb=>⟨⟨(e3 b hb).1,(e3 b hb).2.2⟩,(e3 b hb).2.1⟩)
   ·rintro u b ⟨g1,g2,g3⟩ ⟨hb1,hb2⟩ hb3;have hput:=Ok.Kp (ds':=none) g1 hb3 hb2;exact ⟨hput.1,Step.az8 (ds':=none) aB g2 hb1,fun a v h=>hput.2 a v (g3 a v h)⟩
   ·rintro u ⟨g1,g2,g3⟩;obtain ⟨us,h1,h2⟩:=aai (P:=P) g1 ⟨hr.1,fun t=>g3 _ _ (hr.2 t)⟩ fn.results.toList l hres;obtain ⟨v,h3,h4⟩:=aa9 h1 h2;exact ⟨v,h3,v,g',_,st',rfl,hq,hc.be,g2,g1,h4⟩
 cases e with
 |normal=>exact fin hq
 |ret=>exact fin hq
 |exit id=>exact hq.elim
def qj (D:List Nat) (nx i:Nat):Nat:=match D[i]? with|some o=>o|none=>nx+(i - D.length)
def Bc (D:List Nat) (nx n0 i:Nat):Option Nat:=bif Nat.blt i n0 then some (qj D nx i) else none
def qe (D:List Nat) (nx n0:Nat) (h0:Tr bp):List Nat->Tr bp->Tr bp
 | [],h=>h
 |i::r,h=>qe D nx n0 h0 r (Tr.set depth h (qj D nx i) ((h0.get i).bind (bp.de (Bc D nx n0))))
def m7 (D:List Nat) (st st0:St):St:={ h:=qe D st.nx st0.nx st0.h (ew 0 st0.nx) st.h,nx:=st.nx+(st0.nx - D.length),rl:=[],wl:=[] }
theorem C6 {D:List Nat} {nx i o:Nat} (h:D[i]? = some o):qj D nx i=o:=by unfold qj;rw [h]
theorem F2 {D:List Nat} {nx i:Nat} (h:D.length<=i):qj D nx i=nx+(i - D.length):=by unfold qj;rw [zzy h]
theorem aEn {D:List Nat} {nx:Nat} (hD:D.Nodup) (hlt:∀ o ∈ D,o<nx) {i j:Nat} (h:qj D nx i=qj D nx j):i=j:=by
 rcases zyf i D.length with hi|hi<;>rcases zyf j D.length with hj|hj
 ·rw [C6 (zh hi),C6 (zh hj)] at h;exact (List.getElem_inj hD).1 h
 ·rw [C6 (zh hi),F2 hj] at h;have:=hlt _ (zyl hi);omega
 ·rw [F2 hi,C6 (zh hj)] at h;have:=hlt _ (zyl hj);omega
 ·rw [F2 hi,F2 hj] at h;omega
theorem aH1 {D:List Nat} {nx n0 i:Nat} (hlt:∀ o ∈ D,o<nx) (hi:i<n0):qj D nx i<=nx+n0:=by
 rcases zyf i D.length with h|h
 ·rw [C6 (zh h)];have:=hlt _ (zyl h);omega
 ·rw [F2 h];omega
theorem Ny {D:List Nat} {nx n0:Nat} {h0:Tr bp} {o:Nat}:∀ (l:List Nat) (h:Tr bp),(∀ i ∈ l,qj D nx i<=dm)->(∀ i ∈ l,qj D nx i≠o)->(qe D nx n0 h0 l h).get o=h.get o
 | [],h,_,_=>rfl
 |i::r,h,hl,ho=>by rw [qe,Ny r _ (fun j hj=>hl j (by simp [hj])) (fun j hj=>ho j (by simp [hj])),j7 _ _ _ _ (hl i (by simp)),if_neg (fun e=>ho i (by simp) e.symm)]
theorem adj {D:List Nat} {nx n0:Nat} {h0:Tr bp} (aO:∀ i j,qj D nx i=qj D nx j->i=j) {i:Nat}:∀ (l:List Nat) (h:Tr bp),(∀ j ∈ l,qj D nx j<=dm)->i ∈ l->(qe D nx n0 h0 l h).get (qj D nx i)=(h0.get i).bind (bp.de (Bc D nx n0))
 | [],_,_,hi=>by cases hi
 |j::r,h,hl,hi=>by
  rw [qe];by_cases hr:i ∈ r
  ·exact adj aO r _ (fun k hk=>hl k (by simp [hk])) hr
  ·have dK:i=j:=by rcases zya.1 hi with e|e;exact e;exact (hr e).elim
   subst dK;rw [Ny r _ (fun k hk=>hl k (by simp [hk])) (fun k hk e=>hr (aO k i e ▸ hk)),j7 _ _ _ _ (hl i (by simp)),if_pos rfl]
theorem aAr {n i:Nat} (h:i<n):i ∈ ew 0 n:=(n7 n 0 i).2 ⟨zzb _,zO⟩
theorem Xf {n i:Nat} (h:i ∈ ew 0 n):i<n:=by have:=((n7 n 0 i).1 h).2;omega
theorem aj7:∀ (l:List Nat) (o i:Nat),idx l o i=none->o ∉ l
 | [],o,i,_=>by simp
 |a::l,o,i,h=>by
  rw [M6] at h
  split at h
  ·cases h
  ·rename_i ne;have:=aj7 l o (i+1) h;simp only [zya,not_or];exact ⟨fun e=>ne e.symm,this⟩
theorem agp {D:List Nat} {g fA:Gh} {st aM:St} {h0:Tr bp} {w w':World} {r:AV} {v:Value} (hD:D.Nodup) (hlt:∀ o ∈ D,o<st.nx) (hp:∀ o ∈ D,(st.h.get o).isSome=true)
 (aB:Ok g st.h w) (hfr:∀ o,st.nx<=o->g.inj o=none) (hk:D.length<=aM.nx) (hb:st.nx+aM.nx<=dm)
 (s0:Step (g.de D) h0 w D.length aM.nx fA aM.h w') (pT:Ok fA aM.h w') (hr:Rel fA w' r v) :
 ∃ g',st.nx<=(m7 D st aM).nx/\Step g st.h w st.nx (m7 D st aM).nx g' (m7 D st aM).h w'/\Ok g' (m7 D st aM).h w'/\Rel g' w' (r.de (Bc D st.nx aM.nx)) v:=by
 obtain ⟨n0,aN⟩:∃ n0,n0=aM.nx:=⟨_,rfl⟩;have aO:=fun i j=>aEn (nx:=st.nx) hD hlt (i:=i) (j:=j)
 have lX:∀ i ∈ ew 0 aM.nx,qj D st.nx i<=dm:=fun i hi=>zzu (aH1 hlt (Xf hi)) hb
 have hin:∀ i,i<aM.nx->(m7 D st aM).h.get (qj D st.nx i)=(aM.h.get i).bind (bp.de (Bc D st.nx aM.nx)):=fun i hi=>adj aO _ _ lX (aAr hi)
 have hout:∀ o,(∀ i,i<aM.nx->qj D st.nx i≠o)->(m7 D st aM).h.get o=st.h.get o:=fun o ho=>Ny _ _ lX (fun i hi=>ho i (Xf hi))
 have eP:∀ i,(g.de D).inj i=(D[i]?).bind g.inj:=fun _=>rfl
 have hold:∀ i b base,(g.de D).inj i=some (b,base)->∃ o ∈ D,g.inj o=some (b,base)/\(st.h.get o).isSome=true:=fun i b base hi=>by
  rw [eP] at hi;cases hd:D[i]? with
  |none=>rw [hd] at hi;cases hi
  |some o=>rw [hd] at hi;exact ⟨o,zm hd,hi,hp o (zm hd)⟩
 have hno:∀ i,aM.nx<=i->fA.inj i=none:=fun i hi=>s0.fresh i (by rw [eP,zzy zO];rfl) zO
 let g':Gh:={ b0:=g.b0,inj:=fun o=>if o<st.nx then g.inj o else fA.inj (D.length+(o - st.nx)),K:=fA.K }
 have gl:∀ o,o<st.nx->g'.inj o=g.inj o:=fun o ho=>if_pos ho
 have gg:∀ o,st.nx<=o->g'.inj o=fA.inj (D.length+(o - st.nx)):=fun o ho=>if_neg zO
 have F1:∀ i,g'.inj (qj D st.nx i)=fA.inj i:=fun i=>by
  rcases zyf i D.length with hi|hi
  ·have hd:=zh hi;rw [C6 hd,gl _ (hlt _ (zyl hi))];have h1:(g.de D).inj i=g.inj D[i]:=by rw [eP,hd];rfl
   cases hg:g.inj D[i] with
   |some p=>exact (s0.ext.inj i p (h1.trans hg)).symm
   |none=>exact (s0.fresh i (h1.trans hg) zO).symm
  ·rw [F2 hi,gg _ zO]
   congr 1;omega
 let N:List Nat:=(List.range (st.nx+aM.nx)).map fun o=>if o<st.nx then (idx D o 0).getD aM.nx else D.length+(o - st.nx)
 have sL:∀ p,p<st.nx+aM.nx->N[p]? = some (if p<st.nx then (idx D p 0).getD aM.nx else D.length+(p - st.nx)):=fun p hp=>by simp only [N,zzj,zyi hp,Option.map_some]
 have rL:∀ i o,D[i]? = some o->idx D o 0=some i:=fun i o hi=>by
  cases hx:idx D o 0 with
  |some p=>
   have h1:=Em D o p hx;obtain ⟨hi',ei⟩:=zg.1 hi;obtain ⟨hp',ep⟩:=zg.1 h1;rw [(List.getElem_inj hD).1 (ei.trans ep.symm)]
  |none=>exact absurd (zm hi) (aj7 D o 0 hx)
 have hτ:∀ o p,Bc D st.nx aM.nx o=some p->N[p]? = some o:=fun i p h=>by
  unfold Bc at h;cases hlt2:Nat.blt i aM.nx with
  |false=>rw [hlt2] at h;cases h
  |true=>
   rw [hlt2] at h;cases h;have hi:i<aM.nx:=zB hlt2;rcases zyf i D.length with bE|bE
   ·have hd:=zh bE;rw [C6 hd,sL _ (by have:=hlt _ (zyl bE);omega),if_pos (hlt _ (zyl bE)),rL i _ hd];rfl
   ·rw [F2 bE,sL _ zO,if_neg zO]
    congr 1;omega
 have aH:Ext (fA.de N) w' g' w':=by
  refine ⟨s0.ext.b0.symm,fun p q hq=>?_,fun _ _ h=>h,fun _ _ _=>rfl,fun b cs e fr h=>⟨cs,fr,h,rfl⟩,fun b l h=>⟨l,h⟩,fun _ _ _ _ _ _=>rfl⟩;have hq':(N[p]?).bind fA.inj=some q:=hq;rcases zyf p (st.nx+aM.nx) with hpl|hpl
  ·rw [sL p hpl,Option.bind_some] at hq';by_cases tR:p<st.nx
   ·rw [if_pos tR] at hq';cases hx:idx D p 0 with
    |none=>rw [hx,Option.getD_none,hno _ (zza _)] at hq';cases hq'
    |some i=>
     rw [hx,Option.getD_some] at hq';rw [<- C6 (nx:=st.nx) (Em D p i hx),F1];exact hq'
   ·rw [if_neg tR] at hq';rw [gg p zO];exact hq'
  ·have:N[p]? = none:=zzy (by simp only [N,zzo,List.length_range];exact hpl);rw [this] at hq';cases hq'
 have iF:∀ o,(∃ i,i<aM.nx/\qj D st.nx i=o)\/(∀ i,i<aM.nx->qj D st.nx i≠o):=fun o=>by
  by_cases h:∃ i,i<aM.nx/\qj D st.nx i=o
  ·exact .inl h
  ·exact .inr fun i hi e=>h ⟨i,hi,e⟩
 have er:∀ i x,i<aM.nx->(m7 D st aM).h.get (qj D st.nx i)=some x->∃ y,aM.h.get i=some y/\y.de (Bc D st.nx aM.nx)=some x:=fun i x hi hx=>by
  rw [hin i hi] at hx;cases hy:aM.h.get i with
  |none=>rw [hy] at hx;cases hx
  |some y=>rw [hy] at hx;exact ⟨y,rfl,hx⟩
 have eY:∀ o b base,(∀ i,i<aM.nx->qj D st.nx i≠o)->g'.inj o=some (b,base)->o<st.nx/\o ∉ D/\g.inj o=some (b,base):=fun o b base ho hi=>by
  rcases zyf o st.nx with h1|h1
  ·refine ⟨h1,fun hd=>?_,by rw [<- gl o h1];exact hi⟩;obtain ⟨i,bX,e⟩:=List.getElem_of_mem hd;exact ho i zO (by rw [C6 (zh bX)];exact e)
  ·rw [gg o h1] at hi;rcases zyf (D.length+(o - st.nx)) aM.nx with h2|h2
   ·exact (ho _ h2 (by rw [F2 zO];omega)).elim
   ·rw [hno _ h2] at hi;cases hi
 have aW:∀ o x b base,o ∉ D->st.h.get o=some x->g.inj o=some (b,base)->b<w.heap.size->w'.heap[b]? = w.heap[b]? /\ (∀ i base',fA.inj i=some (b,base')->(aM.h.get i).isSome=true->False)/\(∀ j,fA.K b j->g.K b j):=fun o x b base ho hx hi aX=>by
  have jZ:∀ i base',(g.de D).inj i≠some (b,base'):=fun i base' e=>by obtain ⟨o2,hd,bE,hs2⟩:=hold i b base' e;obtain ⟨x2,hx2⟩:=zzv.1 hs2;exact aB.sep o o2 x x2 b base base' (fun e=>ho (e ▸ hd)) hx hx2 hi bE
  refine ⟨s0.frame b aX fun i base' _=>jZ i base',fun i base' e hs=>?_,fun j hj=>?_⟩
  ·rcases s0.own i b base' hs e with h1|⟨o',aK,_,h2⟩
   ·omega
   ·exact jZ o' aK h2
  ·rcases s0.ox b j hj with h1|h1|⟨o',aK,_,h2⟩
   ·exact h1
   ·omega
   ·exact (jZ o' aK h2).elim
 have hblk:∀ o x b base,st.h.get o=some x->g.inj o=some (b,base)->nw g w b base x:=fun o x b base hx hi=>by
  rcases aB.oa o x hx with ⟨h1,_⟩|⟨b',base',h1,_,h2⟩
  ·rw [h1] at hi;cases hi
  ·rw [h1] at hi;cases hi;exact h2
 have hsz:∀ b base x,nw g w b base x->b<w.heap.size:=fun b base x hx=>by
  have hs:∃ q,w.heap[b]? = some q:=by
   cases x with
   |row cells k st et=>obtain ⟨cs,fr,h1,_⟩:=hx;exact ⟨_,h1⟩
   |map es=>obtain ⟨_,ms,clock,h1,_⟩:=hx;exact ⟨_,h1⟩
   |loop slots nt params assign body state pending=>obtain ⟨_,l,h1,_⟩:=hx;exact ⟨_,h1⟩
  obtain ⟨q,hq⟩:=hs;exact (zz1.1 hq).1
 have hE:Ext g w g' w':=by
  refine ⟨rfl,fun o p hp=>?_,fun b j h=>s0.ext.K b j h,fun b j h=>s0.ext.cell b j h,s0.ext.ta,s0.ext.lp,s0.ext.whole⟩;rcases zyf o st.nx with h1|h1
  ·rw [gl o h1];exact hp
  ·rw [hfr o h1] at hp;cases hp
 refine ⟨g',Nat.le_add_right _ _,⟨hE,s0.size,s0.os,s0.tape,s0.output,fun b aX hn=>?_,fun o ho hr2=>?_,fun o b base ho hi=>?_,fun b j hK=>?_⟩,⟨?_,fun o x hx=>?_,fun o o' x x' b base base' hne hx hx' hi hi'=>?_,pT.K⟩,(hr.de hτ).ext aH⟩
 ·refine s0.frame b aX fun i base _ e=>?_
  obtain ⟨o,_,h1,h2⟩:=hold i b base e;exact hn o base h2 h1
 ·rcases zyf o st.nx with h1|h1
  ·rw [gl o h1];exact ho
  ·rw [gg o h1];exact hno _ (by simp only [m7] at hr2;omega)
 ·rcases iF o with ⟨i,fC,rfl⟩|ho2
  ·obtain ⟨x,hx⟩:=zzv.1 ho;obtain ⟨y,hy,_⟩:=er i x fC hx;rw [F1] at hi;rcases s0.own i b base (by rw [hy];rfl) hi with h1|⟨o',base',_,h2⟩
   ·exact .inl h1
   ·obtain ⟨o2,_,h3,h4⟩:=hold o' b base' h2;exact .inr ⟨o2,base',h4,h3⟩
  ·obtain ⟨_,_,h3⟩:=eY o b base ho2 hi;rw [hout o ho2] at ho;exact .inr ⟨o,base,ho,h3⟩
 ·rcases s0.ox b j hK with h1|h1|⟨o',base',_,h2⟩
  ·exact .inl h1
  ·exact .inr (.inl h1)
  ·obtain ⟨o2,_,h3,h4⟩:=hold o' b base' h2;exact .inr (.inr ⟨o2,base',h4,h3⟩)
 ·exact zzu aB.size s0.size
 ·rcases iF o with ⟨i,fC,rfl⟩|ho2
  ·obtain ⟨y,hy,gV⟩:=er i x fC hx;refine (pT.oa i y hy).imp (fun q=>⟨by rw [F1];exact q.1,by obtain ⟨s1,e1,rfl⟩:=q.2;simp only [bp.de,AV.de.go,Option.some.injEq] at gV;exact ⟨s1,e1,gV.symm⟩⟩) ?_;rintro ⟨b,base,q1,q2,q3⟩;refine ⟨b,base,by rw [F1];exact q1,by show g.b0<=b;have:=s0.ext.b0;have e:fA.b0=g.b0:=this;omega,(q3.de hτ gV).ext aH rfl (fun j hj=>hj)⟩
  ·rw [hout o ho2] at hx;cases hg:g'.inj o with
   |none=>
    refine .inl ⟨rfl,?_⟩;rcases zyf o st.nx with h1|h1
    ·rw [gl o h1] at hg;rcases aB.oa o x hx with ⟨_,h2⟩|⟨b,base,h2,_⟩
     ·exact h2
     ·rw [hg] at h2;cases h2
    ·rcases aB.oa o x hx with ⟨_,h2⟩|⟨b,base,h2,_⟩
     ·exact h2
     ·rw [hfr o h1] at h2;cases h2
   |some p=>
    obtain ⟨b,base⟩:=p;obtain ⟨h1,h2,h3⟩:=eY o b base ho2 hg;have tT:=hblk o x b base hx h3;obtain ⟨e1,_,e3⟩:=aW o x b base h2 hx h3 (hsz b base x tT);refine .inr ⟨b,base,rfl,?_,tT.ext hE e1 e3⟩;rcases aB.oa o x hx with ⟨h4,_⟩|⟨b',base',h4,h5,_⟩
    ·rw [h4] at h3;cases h3
    ·rw [h4] at h3;cases h3;exact h5
 ·rcases iF o with ⟨i,fC,rfl⟩|ho2<;>rcases iF o' with ⟨i',nH,rfl⟩|iB
  ·obtain ⟨y,hy,_⟩:=er i x fC hx;obtain ⟨y',hy',_⟩:=er i' x' nH hx';rw [F1] at hi hi';exact pT.sep i i' y y' b base base' (fun e=>hne (by rw [e])) hy hy' hi hi'
  ·obtain ⟨y,hy,_⟩:=er i x fC hx;obtain ⟨h1,h2,h3⟩:=eY o' b base' iB hi';rw [hout o' iB] at hx';rw [F1] at hi;exact (aW o' x' b base' h2 hx' h3 (hsz b base' x' (hblk o' x' b base' hx' h3))).2.1 i base hi (by rw [hy];rfl)
  ·obtain ⟨y,hy,_⟩:=er i' x' nH hx';obtain ⟨h1,h2,h3⟩:=eY o b base ho2 hi;rw [hout o ho2] at hx;rw [F1] at hi';exact (aW o x b base h2 hx h3 (hsz b base x (hblk o x b base hx h3))).2.1 i' base' hi' (by rw [hy];rfl)
  ·obtain ⟨h1,h2,h3⟩:=eY o b base ho2 hi;obtain ⟨h1',h2',dP⟩:=eY o' b base' iB hi';rw [hout o ho2] at hx;rw [hout o' iB] at hx';exact aB.sep o o' x x' b base base' hne hx hx' h3 dP
theorem aiz {P:Program} [KP P] {f:Nat} {args:List AV} {st:St} {R:AV->St->Prop} (D:List Nat) (hD:D.Nodup) (hlt:∀ o ∈ D,o<st.nx) (hp:∀ o ∈ D,(st.h.get o).isSome=true) (hl:D.length<=dm)
 (h:ky P f (AV.de.go (fun o=>idx D o 0) args) (bg (jw st.h (fun o=>idx D o 0) D)) (fun r st'=>(D.length<=st'.nx/\st.nx+st'.nx<=dm)/\R (r.de (Bc D st.nx st'.nx)) (m7 D st st'))):ky P f args st R:=by
 intro g w vs aB hfr hrel;have hτ:∀ o p,(fun o=>idx D o 0) o=some p->D[p]? = some o:=fun o p h=>Em _ o p h
 have bN:(bg (jw st.h (fun o=>idx D o 0) D)).nx=D.length:=by simp only [bg,jf]
 have aO:∀ i o,D[i]? = some o->(g.de D).inj i=g.inj o:=fun i o h=>by simp [Gh.de,h]
 have er:∀ i x,(bg (jw st.h (fun o=>idx D o 0) D)).h.get i=some x->∃ o y,D[i]? = some o/\st.h.get o=some y/\y.de (fun o=>idx D o 0)=some x:=by
  intro i x hx;simp only [bg] at hx;rw [wi _ _ _ (by rw [jf];omega),if_pos (zzb _),Nat.sub_zero,xe] at hx;cases hi:D[i]? with
  |none=>rw [hi] at hx;cases hx
  |some o=>
   rw [hi] at hx;simp only [Option.map_some,Option.join_some] at hx;cases hy:st.h.get o with
   |none=>rw [hy] at hx;cases hx
   |some y=>rw [hy] at hx;exact ⟨o,y,rfl,hy,hx⟩
 have fR:Ok (g.de D) (bg (jw st.h (fun o=>idx D o 0) D)).h w:=by
  refine ⟨aB.size,fun i x hx=>?_,fun i j x y b base base' dK hx hy hb hb'=>?_,aB.K⟩
  ·obtain ⟨o,y,h1,h2,h3⟩:=er i x hx;refine (aB.oa o y h2).imp (fun q=>⟨by rw [aO i o h1];exact q.1,by obtain ⟨s0,e0,rfl⟩:=q.2;simp only [bp.de,AV.de.go,Option.some.injEq] at h3;exact ⟨s0,e0,h3.symm⟩⟩) ?_;rintro ⟨b,base,q1,q2,q3⟩;exact ⟨b,base,by rw [aO i o h1];exact q1,q2,q3.de hτ h3⟩
  ·obtain ⟨o,y1,h1,h2,_⟩:=er i x hx;obtain ⟨o',y2,h1',h2',_⟩:=er j y hy;rw [aO i o h1] at hb;rw [aO j o' h1'] at hb';have hne:o≠o':=by
    intro e;subst e;obtain ⟨hi,ei⟩:=zg.1 h1;obtain ⟨hj,ej⟩:=zg.1 h1';exact dK ((List.getElem_inj hD).1 (ei.trans ej.symm))
   exact aB.sep o o' _ _ b base base' hne h2 h2' hb hb'
 have hfr0:∀ o,(bg (jw st.h (fun o=>idx D o 0) D)).nx<=o->(g.de D).inj o=none:=fun o ho=>by rw [bN] at ho;simp [Gh.de,zzy ho]
 have fO:cb (g.de D) w (AV.de.go (fun o=>idx D o 0) args) vs:=by
  rw [jt];refine ⟨by rw [zzo];exact hrel.1,fun i a v ha hv=>?_⟩;rw [zzj] at ha;cases hx:args[i]? with
  |none=>rw [hx] at ha;cases ha
  |some a0=>rw [hx] at ha;cases ha;exact (hrel.2 i a0 v hx hv).de hτ
 rcases h (g.de D) w vs fR hfr0 fO with ⟨v,w',g',r,st',q1,q2,q3,q4,q5,q6⟩|⟨q1,q2⟩
 ·rw [bN] at q4;obtain ⟨g'',p1,p2,p3,p4⟩:=agp hD hlt hp aB hfr q2.1.1 q2.1.2 q4 q5 q6;exact .inl ⟨v,w',g'',_,_,q1,q2.2,p1,p2,p3,p4⟩
 ·refine .inr ⟨q1,q2.mono ?_⟩;rintro e w' ⟨v,g',r,st',rfl,q2,q3,q4,q5,q6⟩;rw [bN] at q4;obtain ⟨g'',p1,p2,p3,p4⟩:=agp hD hlt hp aB hfr q2.1.1 q2.1.2 q4 q5 q6;exact ⟨v,g'',_,_,rfl,q2.2,p1,p2,p3,p4⟩
theorem pf {P:Program} [KP P] {f:Nat} {args:List AV} {st:St} {R:AV->St->Prop} (D:List Nat) {jK:List AV} {iI:List (Option bp)} {r0:AV} {dE:List (Option bp)}
 (hc:ky P f jK (bg iI) (fun r st'=>r=r0/\st'=bg dE)) (hD:D.Nodup)
 (hlt:(D.all fun o=>Nat.blt o st.nx)=true) (hp:(D.all fun o=>(st.h.get o).isSome)=true) (hl:D.length<=dm)
 (ha:AV.de.go (fun o=>idx D o 0) args=jK) (hs:jw st.h (fun o=>idx D o 0) D=iI) (hb:D.length<=dE.length/\st.nx+dE.length<=dm)
 (h:R (r0.de (Bc D st.nx dE.length)) (m7 D st (bg dE))):ky P f args st R:=by
 refine aiz D hD (fun o ho=>zB (zz8.1 hlt o ho)) (fun o ho=>zz8.1 hp o ho) hl ?_;rw [ha,hs];intro g w vs aB hfr hrel;rcases hc g w vs aB hfr hrel with ⟨v,w',g',r,st',q1,⟨rfl,rfl⟩,q3⟩|⟨q1,q2⟩
 ·exact .inl ⟨v,w',g',_,_,q1,⟨hb,h⟩,q3⟩
 ·refine .inr ⟨q1,q2.mono ?_⟩;rintro e w' ⟨v,g',r,st',e1,⟨rfl,rfl⟩,q3⟩;exact ⟨v,g',_,_,e1,⟨hb,h⟩,q3⟩
end
variable [TK]
noncomputable section
section code
variable (P : Program) (T : fc) (be : Nat) (Q : QL) (L : SL) (st : St)
theorem aqv:wl P T be .skip Q L st=Q .normal L st:=id rfl
theorem ahr (l):wl P T be (.label l) Q L st=Q .normal L st:=id rfl
theorem ack (i ops d):wl P T be (.region i ops d) Q L st=Hn P T ops d (Q .normal) L st:=id rfl
theorem au3 (a b):wl P T be (.seq a b) Q L st=wl P T be a (Kw (wl P T be b) Q) L st:=id rfl
theorem apm (c a b):wl P T be (.cond c a b) Q L st=yp (dv L c) (wl P T be a Q) (wl P T be b Q) L st:=id rfl
theorem ake (i b):wl P T be (.block i b) Q L st=wl P T be b (Oe i Q) L st:=id rfl
theorem aqd (b):wl P T be (.loop b) Q L st=vu be (wl P T be b) Q L st:=id rfl
theorem aji (b):wl P T be (.scope b) Q L st=wl P T be b Q L st:=id rfl
theorem aqt (i):wl P T be (.exit i) Q L st=Q (.exit i) L st:=id rfl
theorem aw0:wl P T be .ret Q L st=Q .ret L st:=id rfl
theorem ayd (W):Kw W Q .normal L st=W Q L st:=id rfl
theorem awl (W i):Kw W Q (.exit i) L st=Q (.exit i) L st:=id rfl
theorem avc (W):Kw W Q .ret L st=Q .ret L st:=id rfl
theorem aww (i):Oe i Q .normal L st=Q .normal L st:=id rfl
theorem aze (i):Oe i Q .ret L st=Q .ret L st:=id rfl
theorem awt (i j):Oe i Q (.exit j) L st=bif Nat.beq j i then Q .normal L st else Q (.exit j) L st:=id rfl
theorem aq3 (keep X):As be keep X Q .normal L st=X (jc be keep L st) (gh be keep L st):=id rfl
theorem apx (keep X i):As be keep X Q (.exit i) L st=Q (.exit i) L st:=id rfl
theorem aqe (keep X):As be keep X Q .ret L st=Q .ret L st:=id rfl
theorem axa (rs R):c9 P rs R .normal L st=Kx (wa P L st rs) R st:=id rfl
theorem auy (rs R):c9 P rs R .ret L st=Kx (wa P L st rs) R st:=id rfl
theorem adl (ops K):Hn P T ops false K L st=opsL P T ops ops.toList K L st:=id rfl
theorem agy (ops K):opsL P T ops [] K L st=K L st:=id rfl
theorem aea (ops o r K):opsL P T ops (o::r) K L st=Bm ops o.guard (Nj P T o (opsL P T ops r K)) (Me o.dst (opsL P T ops r K)) L st:=id rfl
theorem agl (ops K recs):Ik P T ops [] K recs L st=(ft (Region.before ops) 0 recs=true/\K L st):=id rfl
theorem acd (ops o r K recs):Ik P T ops (o::r) K recs L st=Bm ops o.guard (ia P T o recs (Ik P T ops r K)) (Me o.dst (Ik P T ops r K (recs++[⟨[],[]⟩]))) L st:=id rfl
theorem Xv (ops X Y):Bm ops none X Y L st=X L st:=id rfl
theorem Y7 (ops j c X Y):Bm ops (some (j,c)) X Y L st=It (lk L (wt ops j)) c X Y L st:=id rfl
theorem ah2 (b:Bool) (X Y:SL->St->Prop):It (.sc (.bool b)) true X Y L st=yp (.sc (.bool b)) X Y L st:=by cases b<;>simp [It,Dl,Fh,Ka,yp,tj,AV.bool,AV.exact,qz]
theorem ai7 (b:Bool) (X Y:SL->St->Prop):It (.sc (.bool b)) false X Y L st=yp (.sc (.bool b)) Y X L st:=by cases b<;>simp [It,Dl,Fh,Ka,yp,tj,AV.bool,AV.exact,qz]
theorem ak5 (c:Bool) (X Y:SL->St->Prop):It (.sc undef) c X Y L st=Y L st:=by simp [It,Dl,Fh,Ka,AV.exact,undef]
theorem apd (o K):Nj P T o K L st=Dj (gw P T o (dv L) st) P o L st K:=id rfl
theorem alb (v o K st'):Dj (some (v,st')) P o L st K=K (kn o.dst v L) st':=id rfl
theorem ajn (K d r):gq K d L r st=K (kn d r L) st:=id rfl
theorem ajs (ro F o recs K v gp):Ij ro F o recs K L st (some (v,gp))=((Ju st.nx F=true/\Nat.ble gp.nx dm=true)/\same (tp st.h F) gp.h (bif ro then F else []) /\
 K (recs++[⟨F,(bif ro then [] else F)++ew st.nx (gp.nx - st.nx)⟩]) (kn o.dst v L) { h:=x5 gp.h (F++ew st.nx (gp.nx - st.nx)) st.h,nx:=gp.nx,rl:=[],wl:=[] }):=id rfl
theorem adr (d K):Me d K L st=K (kn d (.sc undef) L) st:=id rfl
theorem cw (b X Y):yp (.sc (.bool b)) X Y L st=((b=true->X L st)/\(b=false->Y L st)):=id rfl
theorem Lm (X Y):yp (.sc (.bool true)) X Y L st=X L st:=by simp [yp,tj,AV.bool,AV.exact,qz]
theorem Lr (X Y):yp (.sc (.bool false)) X Y L st=Y L st:=by simp [yp,tj,AV.bool,AV.exact,qz]
theorem aed (v d K):Mf (some (v,st)) d L K=K (kn d v L) st:=id rfl
theorem aex (d v):kn (some d) v L=(d,v)::L:=id rfl
theorem ac8 (v):kn none v L=L:=id rfl
theorem awu (l R):Kx (some l) R st=R (pack l) st:=id rfl
theorem axx (d v):lk ((d,v)::L) d=v:=by simp [lk]
theorem ap8 (d t v) (h:(d == t)=false):lk ((d,v)::L) t=lk L t:=by
 have e:d≠t:=by simpa using h
 rw [og,if_neg e]
theorem aCt (t):dv L (.tmp t)=lk L t:=id rfl
theorem aCn (v):dv L (.const v) = .sc v:=id rfl
theorem aDc (f):dv L (.func f) = .sc (.func (.func f) #[] #[]):=id rfl
theorem axk:wa P L st []=some []:=id rfl
theorem ax6 (t r):wa P L st (.tmp t::r)=(wa P L st r).map (lk L t :: ·):=id rfl
theorem av4 (a t r):wa P L st (.cell a t::r)=match uh P t (lk L a) st with|some (v,_)=>(wa P L st r).map (v :: ·)|none=>none:=id rfl
end code
section ops
variable (P : Program) (T : fc) (ρ : Operand -> AV) (d : Option Tmp) (ty : TypeId) (pos : String) (af : Array Edge) (gd : Option (Nat × Bool))
theorem Mz (x):gw P T ⟨d,.move x,ty,pos,af,gd⟩ ρ=mono (M.pure (ρ x)):=id rfl
theorem H8 (x):gw P T ⟨d,.assign x,ty,pos,af,gd⟩ ρ=mono (M.pure (ρ x)):=id rfl
theorem Ng (t a):gw P T ⟨d,.load t a,ty,pos,af,gd⟩ ρ=mono (uh P t (ρ a)):=id rfl
theorem Du (s x f):gw P T ⟨d,.fieldAddr s x f,ty,pos,af,gd⟩ ρ=mono (vi P s (ρ x) f):=id rfl
theorem Tv (op t x y u):gw P T ⟨d,.binOp op t x y u,ty,pos,af,gd⟩ ρ=mono (Nf P ρ ⟨d,.binOp op t x y u,ty,pos,af,gd⟩ op t x y):=id rfl
theorem Ns (c a b):gw P T ⟨d,.pick c a b,ty,pos,af,gd⟩ ρ=mono (Ib (ρ c) (ρ a) (ρ b)):=id rfl
theorem Ks (t a x):gw P T ⟨d,.store t a x,ty,pos,af,gd⟩ ρ=mono (An P t (ρ a) (ρ x)):=id rfl
theorem O9 (t i):gw P T ⟨d,.extract t i,ty,pos,af,gd⟩ ρ=mono (B0 (ρ t) i):=id rfl
theorem Cw (t x i):gw P T ⟨d,.indexAddr t x i,ty,pos,af,gd⟩ ρ=mono (u9 P t (ρ x) (ρ i)):=id rfl
theorem E5 (x):gw P T ⟨d,.nilCheck x,ty,pos,af,gd⟩ ρ=mono (sm (ρ x)):=id rfl
theorem Ty (t):gw P T ⟨d,.alloc t,ty,pos,af,gd⟩ ρ=mono (E1 P t):=id rfl
theorem ad0 (t x):gw P T ⟨d,.box t x,ty,pos,af,gd⟩ ρ=mono (Nv t (ρ x)):=id rfl
theorem K5 (t ps):gw P T ⟨d,.build t ps,ty,pos,af,gd⟩ ρ=mono (Bz P t (ps.toList.map fun p=>(p.1,ρ p.2))):=id rfl
theorem Bx (t n ps):gw P T ⟨d,.buildSlice t n ps,ty,pos,af,gd⟩ ρ=mono (qv P t n (ps.toList.map fun p=>(p.1,ρ p.2))):=id rfl
theorem Jm (t l c):gw P T ⟨d,.makeSlice t l c,ty,pos,af,gd⟩ ρ=mono (o8 P t (ρ l) (ρ c)):=id rfl
theorem Lq (f a b):gw P T ⟨d,.makeFunc f a b,ty,pos,af,gd⟩ ρ=mono (M.pure (.fn f (a.toList.map ρ) (b.toList.map ρ))):=id rfl
theorem Gw (s u x):gw P T ⟨d,.convert s u x,ty,pos,af,gd⟩ ρ=mono (z7 P ρ ⟨d,.convert s u x,ty,pos,af,gd⟩ s u (ρ x)):=id rfl
theorem U9 (s x f):gw P T ⟨d,.field s x f,ty,pos,af,gd⟩ ρ=mono (Hr P s (ρ x) f):=id rfl
theorem U1 (t x i):gw P T ⟨d,.index t x i,ty,pos,af,gd⟩ ρ=mono (Ek P ρ ⟨d,.index t x i,ty,pos,af,gd⟩ t x i):=id rfl
theorem Vn (t x l h m):gw P T ⟨d,.slice t x l h m,ty,pos,af,gd⟩ ρ=mono (D9 P ρ ⟨d,.slice t x l h m,ty,pos,af,gd⟩ t x l h m):=id rfl
theorem P2 (x ts):gw P T ⟨d,.call { callee:=.builtin .len,args:=#[x],argTypes:=ts },ty,pos,af,gd⟩ ρ=mono (yn ((ts[0]?).bind P.underlying) (ρ x)):=id rfl
theorem Hy (s x ts):gw P T ⟨d,.call { callee:=.builtin .append,args:=#[s,x],argTypes:=ts },ty,pos,af,gd⟩ ρ=mono (tc P ts[0]? ((ts[1]?).bind P.underlying) (ρ s) (ρ x)):=id rfl
theorem Yr (s x ts):gw P T ⟨d,.call { callee:=.builtin .copy,args:=#[s,x],argTypes:=ts },ty,pos,af,gd⟩ ρ=mono (Mr P ts[0]? (ρ s) (ρ x)):=id rfl
theorem Y6 (f args ts):gw P T ⟨d,.call { callee:=.value f,args,argTypes:=ts },ty,pos,af,gd⟩ ρ=Ap T (ρ f) (args.toList.map ρ):=id rfl
end ops
section monad
variable {α β : Type} (s : St)
theorem aCm (m:M α):mono m s=match m s with|none=>none|some (a,s')=>bif decide (s.nx<=s'.nx) then some (a,s') else none:=by
 have:∀ a b,Nat.ble a b=decide (a<=b):=fun a b=>by rw [zyb];simp
 unfold mono;cases m s with
 |none=>rfl
 |some p=>simp only [this]
theorem aCx (m:M α) (f : α->M β):(m.bind f) s=match m s with|none=>none|some (a,s')=>f a s':=id rfl
theorem aC8 (a : α):(M.pure a) s=some (a,s):=id rfl
theorem aC1:(M.fail:M α) s=none:=id rfl
theorem aC9 (a : α):(M.of (some a)) s=some (a,s):=id rfl
theorem aCw (b:Bool) (m m':M α):(bif b then m else m') s=bif b then m s else m' s:=by cases b<;>rfl
theorem aDm (o:Nat):er o s=match s.h.get o with|some x=>some (x,{ s with rl:=o::s.rl })|none=>none:=id rfl
theorem aCu (x:bp):oz x s=bif decide (s.nx<=dm) then some (s.nx,{ s with h:=s.h.set depth s.nx (some x),nx:=s.nx+1,wl:=s.nx::s.wl }) else none:=by
 have:Nat.ble s.nx dm=decide (s.nx<=dm):=by rw [zyb];simp
 unfold oz;rw [this]
theorem aDf (o:Nat) (x:bp):so o x s=match s.h.get o with|some _=>bif decide (o<=dm) then some ((),{ s with h:=s.h.set depth o (some x),wl:=o::s.wl }) else none|none=>none:=by
 have:Nat.ble o dm=decide (o<=dm):=by rw [zyb];simp
 unfold so;rw [this];rfl
theorem aC6 (o:Nat):Nh o s=match s.h.get o with|some _=>bif decide (o<=dm) then some ((),{ s with h:=s.h.set depth o none,wl:=o::s.wl }) else none|none=>none:=by
 have:Nat.ble o dm=decide (o<=dm):=by rw [zyb];simp
 unfold Nh;rw [this];rfl
theorem ajg (t:Tr bp) (n m:Nat) (x:Option bp) (h:n<=16777214):(Tr.set depth t n x).get m=if m=n then x else t.get m:=j7 t n m x h
theorem akd (n:Nat):(Tr.nil:Tr bp).get n=none:=id rfl
theorem aB7 (a b:Nat):Nat.ble a b=decide (a<=b):=by rw [zyb];simp
theorem aGl (a b:Nat):Nat.blt a b=decide (a<b):=by rw [zyb];simp
theorem asx (a b:Nat):Nat.beq a b=decide (a=b):=by rw [zyb];simp
end monad
theorem Ud {a:AV} {x y x' y':Prop} (h1:x->x') (h2:y->y') (h:tj a x y):tj a x' y':=by
 unfold tj at *
 split at h
 ·exact ⟨fun e=>h1 (h.1 e),fun e=>h2 (h.2 e)⟩
 ·exact h.elim
theorem Dq {ops L gd} {x y x' y':Prop} (h1:x->x') (h2:y->y') (h:guarded ops L gd x y):guarded ops L gd x' y':=by
 unfold guarded at *
 split at h
 ·exact h1 h
 ·unfold Dl at *
  split at h
  ·exact ⟨fun e=>h1 (h.1 e),fun e=>h2 (h.2 e)⟩
  ·exact h.elim
theorem ky.mono {P f args st} {R R':AV->St->Prop} (h:∀ r st,R r st->R' r st) (hc:ky P f args st R):ky P f args st R':=by
 intro g w vs h1 h2 h3;rcases hc g w vs h1 h2 h3 with ⟨v,w',g',r,st',q1,q2,q3⟩|⟨q1,q2⟩
 ·exact .inl ⟨v,w',g',r,st',q1,h _ _ q2,q3⟩
 ·refine .inr ⟨q1,q2.mono ?_⟩;rintro e w' ⟨v,g',r,st',p1,p2,p3⟩;exact ⟨v,g',r,st',p1,h _ _ p2,p3⟩
theorem ary {P o L st} {K K':SL->St->Prop} (h:∀ L st,K L st->K' L st) (hc:Ti P o L st K):Ti P o L st K':=by
 unfold Ti arw at *
 split at hc
 ·split at hc
  ·exact ky.mono (fun r st hk=>h _ _ hk) hc
  ·exact hc.elim
 ·exact hc.elim
theorem J9 {P T ops} {K K':SL->St->Prop} (h:∀ L st,K L st->K' L st):∀ (l:List Oper) (L:SL) (st:St),opsL P T ops l K L st->opsL P T ops l K' L st
 | [],L,st,hh=>h L st hh
 |o::r,L,st,hh=>Dq (fun q=>by
  unfold Nj Dj at *
  split at q
  ·exact J9 h r _ _ q
  ·exact ary (fun L st=>J9 h r L st) q) (fun q=>J9 h r _ _ q) hh
theorem J8 {P T ops} {K K':SL->St->Prop} (h:∀ L st,K L st->K' L st):∀ (l:List Oper) (recs:List Rec) (L:SL) (st:St),Ik P T ops l K recs L st->Ik P T ops l K' recs L st
 | [],recs,L,st,hh=>⟨hh.1,h L st hh.2⟩
 |o::r,recs,L,st,hh=>Dq (fun q=>by
  unfold ia ma Ij at *
  split at q
  ·exact ⟨q.1,q.2.1,J8 h r _ _ _ q.2.2⟩
  ·exact q.elim) (fun q=>J8 h r _ _ _ q) hh
theorem Jy {P T ops} {K K':SL->St->Prop} (h:∀ L st,K L st->K' L st):∀ (l:List Oper) (recs:List Rec) (L:SL) (st:St),Q4 P T ops l K recs L st->Q4 P T ops l K' recs L st
 | [],recs,L,st,hh=>⟨hh.1,h L st hh.2⟩
 |o::r,recs,L,st,hh=>Dq (fun q=>Xn (fun _ _ _ k=>Jy h r _ _ _ k) q) (fun q=>Jy h r _ _ _ q) hh
theorem By {P T l be ops} {R:Mm} (hR:∀ p args (X X':Ex->St->Prop) st,(∀ e st,X e st->X' e st)->R p args X st->R p args X' st) {K K':Option Ex->SL->St->Prop} (h:∀ pe L st,K pe L st->K' pe L st) :
 ∀ (ls:List Oper) (pe:Option Ex) (L:SL) (st:St),I8 P T l R be ops ls K pe L st->I8 P T l R be ops ls K' pe L st
 | [],pe,L,st,hh=>h pe L st hh
 |o::r,pe,L,st,hh=>Dq (fun q=>by
  unfold opI abk at *
  split at q
  ·unfold Mf at *
   split at q
   ·exact By hR h r _ _ _ q
   ·exact q.elim
  ·obtain ⟨h0,keep,q⟩:=q;refine ⟨h0,keep,hR _ _ _ _ _ (fun e st q=>?_) q⟩;cases e with
   |normal=>exact By hR h r _ _ _ q
   |ret=>exact By hR h r _ _ _ q
   |exit id=>exact By hR h r _ _ _ q) (fun q=>By hR h r _ _ _ q) hh
theorem V3 {P:Program} {T:fc} {l be:Nat} {R:Mm} (hR:∀ p args (X X':Ex->St->Prop) st,(∀ e st,X e st->X' e st)->R p args X st->R p args X' st) :
 ∀ (c:Code) (Q Q':QI),(∀ e pe L st,Q e pe L st->Q' e pe L st)->∀ pe L st,sf P T l R be c Q pe L st->sf P T l R be c Q' pe L st:=by
 intro c
 induction c with
 |skip=>intro Q Q' h pe L st hh;exact h _ _ _ _ hh
 |label l=>intro Q Q' h pe L st hh;exact h _ _ _ _ hh
 |exit i=>intro Q Q' h pe L st hh;exact h _ _ _ _ hh
 |ret=>intro Q Q' h pe L st hh;exact h _ _ _ _ hh
 |region i ops draw=>
  intro Q Q' h pe L st hh;cases draw with
  |false=>exact By hR (h _) _ _ _ _ hh
  |true=>exact ⟨hh.1,hh.2.imp (J8 (h _ _) _ _ _ _) (Jy (h _ _) _ _ _ _)⟩
 |seq a b dR dQ=>
  intro Q Q' h pe L st hh;refine dR _ _ ?_ pe L st hh;intro e pe L st q;cases e with
  |normal=>exact dQ _ _ h pe L st q
  |_=>exact h _ _ _ _ q
 |cond c a b dR dQ=>intro Q Q' h pe L st hh;exact Ud (dR _ _ h pe L st) (dQ _ _ h pe L st) hh
 |block i b ih=>
  intro Q Q' h pe L st hh;refine ih _ _ ?_ pe L st hh;intro e pe L st q;cases e with
  |exit j=>
   simp only [Ws] at *;cases hb:Nat.beq j i with
   |true=>rw [hb] at q;exact h _ _ _ _ q
   |false=>rw [hb] at q;exact h _ _ _ _ q
  |_=>exact h _ _ _ _ q
 |loop b ih=>
  intro Q Q' h pe L st hh;obtain ⟨h0,keep,hh⟩:=hh;refine ⟨h0,keep,fun X hX=>hh X fun vs os q=>hX vs os (ih _ _ ?_ _ _ _ q)⟩;intro e pe L st q;cases e with
  |normal=>exact q
  |_=>exact h _ _ _ _ q
 |scope b ih=>intro _ _ _ _ _ _ hh;exact hh.elim
 |rangeFunc=>intro _ _ _ _ _ _ hh;exact hh.elim
 |goto=>intro _ _ _ _ _ _ hh;exact hh.elim
 |refuse=>intro _ _ _ _ _ _ hh;exact hh.elim
theorem aAx {P:Program} {T:fc}:∀ (c:Code) (be:Nat) (Q Q':QL),(∀ e L st,Q e L st->Q' e L st)->∀ L st,wl P T be c Q L st->wl P T be c Q' L st:=by
 intro c
 induction c with
 |skip=>intro be Q Q' h L st hh;exact h _ _ _ hh
 |label l=>intro be Q Q' h L st hh;exact h _ _ _ hh
 |exit i=>intro be Q Q' h L st hh;exact h _ _ _ hh
 |ret=>intro be Q Q' h L st hh;exact h _ _ _ hh
 |region i ops draw=>
  intro be Q Q' h L st hh;cases draw with
  |false=>exact J9 (h _) _ _ _ hh
  |true=>exact ⟨hh.1,hh.2.imp (J8 (h _) _ _ _ _) (Jy (h _) _ _ _ _)⟩
 |seq a b dR dQ=>
  intro be Q Q' h L st hh;refine dR _ _ _ ?_ L st hh;intro e L st q;cases e with
  |normal=>exact dQ _ _ _ h L st q
  |_=>exact h _ _ _ q
 |cond c a b dR dQ=>intro be Q Q' h L st hh;exact Ud (dR _ _ _ h L st) (dQ _ _ _ h L st) hh
 |block i b ih=>
  intro be Q Q' h L st hh;refine ih _ _ _ ?_ L st hh;intro e L st q;cases e with
  |exit j=>
   simp only [Oe] at *;cases hb:Nat.beq j i with
   |true=>rw [hb] at q;exact h _ _ _ q
   |false=>rw [hb] at q;exact h _ _ _ q
  |_=>exact h _ _ _ q
 |loop b ih=>
  intro be Q Q' h L st hh;obtain ⟨keep,hh⟩:=hh;refine ⟨keep,fun X hX=>hh X fun vs os q=>hX vs os (ih _ _ _ ?_ _ _ q)⟩;intro e L st q;cases e with
  |normal=>exact q
  |_=>exact h _ _ _ q
 |scope b ih=>intro be Q Q' h L st hh;exact ih _ _ _ h L st hh
 |rangeFunc f ps a b dR dQ=>
  intro be Q Q' h L st hh;obtain ⟨keep,h0,hh⟩:=hh;refine ⟨keep,h0,?_⟩;unfold Rz at *
  split at hh
  ·unfold Ru at *
   split at hh
   ·refine ⟨hh.1,fun l=>V3 (fun p args X X' st hX hr=>⟨hr.1,hr.2.1,dR _ _ _ (fun e L st q=>(by
     cases e with
     |normal=>exact dQ _ _ _ (fun e _ st q=>hX e st q) _ _ q
     |_=>exact q.elim)) _ _ hr.2.2⟩) _ _ _ (fun e pe L st q=>(by
     cases e with
     |exit id=>exact q.elim
     |normal=>
      cases pe with
      |none=>exact h _ _ _ q
      |some e=>exact h _ _ _ q
     |ret=>
      cases pe with
      |none=>exact h _ _ _ q
      |some e=>exact h _ _ _ q)) _ _ _ (hh.2 l)⟩
   ·exact hh.elim
  ·exact hh.elim
 |goto=>intro _ _ _ _ _ _ hh;exact hh.elim
 |refuse=>intro _ _ _ _ _ _ hh;exact hh.elim
theorem En {P:Program} {T:fc} {be:Nat} (c:Code) (Q Q':QL) (h:∀ e L st,Q e L st->Q' e L st) (L:SL) (st:St) (hh:wl P T be c Q L st):wl P T be c Q' L st:=aAx c be Q Q' h L st hh
theorem dq {α:Type} {P:Program} {T:fc} {be:Nat} {b:Code} {Q:QL} {L:SL} {st:St} (keep:List Nat) (V : α->List AV) (O : α->List (Option bp)) (I : α->Prop) (μ : α->Nat) (x : α) (hx:I x)
 (hv:jc be keep L st=V x) (ho:gh be keep L st=O x)
 (step:∀ x,I x->wl P T be b (As be keep (fun vs os=>∃ y,I y /\ μ y < μ x/\vs=V y/\os=O y) Q) (jn keep (V x)) (bg (O x))):vu be (wl P T be b) Q L st:=
 vu.of keep V O I μ x hx hv ho (fun _ _ h=>En b _ _ h) step
section cods
theorem l5 {α:Type} (C:dp α) (l:Bool) (xs:List α):(cg C).val l xs = .vl l C.sz (xs.map (C.val l)):=id rfl
theorem yc {α:Type} (C:dp α):(cg C).sz=1:=id rfl
theorem aev:ai.sz=1:=id rfl
theorem ahj:ca.sz=1:=id rfl
theorem zx:cj.sz=1:=id rfl
theorem uu:cz.sz=1:=id rfl
theorem u1 (k:IntKind):(bb k).sz=1:=id rfl
theorem wu:bk.sz=1:=id rfl
theorem Ge (l:Bool) (x:UInt8):ca.val l x = .sc (.int .u8 x.toNat):=id rfl
theorem W7 (l:Bool) (x:UInt16):cj.val l x = .sc (.int .u16 x.toNat):=id rfl
theorem W3 (l:Bool) (x:UInt32):cz.val l x = .sc (.int .u32 x.toNat):=id rfl
theorem Xu (k:IntKind) (l:Bool) (x:Int):(bb k).val l x = .sc (.int k x):=id rfl
theorem Uf (l:Bool) (x:Bool):bk.val l x = .sc (.bool x):=id rfl
theorem aqm (o i:Nat):idx [] o i=none:=id rfl
theorem alu {α:Type} (C:dp α) (τ:Nat->Option Nat) (l:Bool):AV.de τ ∘ C.val l=C.val l:=by funext x;exact Cl C τ l x
theorem Z6 (l:Bool) (x:ByteArray):ai.val l x = .sc (.string x):=id rfl
theorem vn {α:Type} (C:dp α) (fr:Bool) (h:Tr bp) (a:AV) (h1:a.known=true) (h2:a.isAgg=C.agg):C.gv fr h a=C.dec fr h a.cells:=by unfold dp.gv;rw [h1,h2];simp
theorem ac6 (fr:Bool) (h:Tr bp) (n:UInt32):cz.gv fr h (.sc (.int .u32 n.toNat))=some n:=cz.K7 fr h true n (fun _=>rfl)
theorem zj (fr:Bool) (h:Tr bp) (n:UInt16):cj.gv fr h (.sc (.int .u16 n.toNat))=some n:=cj.K7 fr h true n (fun _=>rfl)
theorem Yh (k:IntKind) (fr:Bool) (h:Tr bp) (n:Int):(bb k).gv fr h (.sc (.int k n))=some n:=(bb k).K7 fr h true n (fun _=>rfl)
theorem U3 (fr:Bool) (h:Tr bp) (b:Bool):bk.gv fr h (.sc (.bool b))=some b:=bk.K7 fr h true b (fun _=>rfl)
theorem W0 (fr:Bool) (h:Tr bp) (s:ByteArray):ai.gv fr h (.sc (.string s))=some s:=ai.K7 fr h true s (fun _=>rfl)
theorem Ee {α:Type} (C:dp α) (fr:Bool) (h:Tr bp) (a:AV) (h1:a.known=true) (h2:a.isAgg=false) (h3:a.cells=[a]):(cg C).gv fr h a=gm C fr h a:=by rw [vn _ _ _ _ h1 h2,h3];rfl
theorem aEl {α:Type} (C:dp α) (fr:Bool) (h:Tr bp) (l:Bool) (xs:List α) (hl:(l || !fr)=true):(cg C).gv fr h (.vl l C.sz (xs.map (C.val l)))=some xs:=by refine (cg C).K7 fr h l xs ?_;cases fr<;>simp_all
theorem akr {α:Type} (C:dp α) (fr:Bool) (h:Tr bp):gm C fr h (.sc (.slice none 0 0))=some []:=id rfl
theorem vv {α:Type} (C:dp α) (fr:Bool) (h:Tr bp) (l:Bool) (xs:List α) (n:Nat) (hn:n=C.sz) (hl:(l || !fr)=true):gm C fr h (.vl l n (xs.map (C.val l)))=some xs:=by
 subst hn;have:(cg C).gv fr h (.vl l C.sz (xs.map (C.val l)))=some xs:=aEl C fr h l xs hl
 rwa [Ee C fr h _ rfl rfl rfl] at this
theorem ap7 {α:Type} (C:dp α) (fr:Bool) (h:Tr bp) (o off len n:Nat):gm C fr h (.sl o off len n)=bif decide (n=C.sz) then (h.get o).bind (kl C fr h off len) else none:=by show (bif Nat.beq n C.sz then _ else _)=_;rw [asx]
theorem Yz {α:Type} (C:dp α) (fr:Bool) (h:Tr bp) (off len:Nat) (cells:List AV) (k s:Nat) (e:TypeId) :
 kl C fr h off len (.row cells k s e)=bif decide (off+len * C.sz<=cells.length) && Bg fr C.sz C.kd s off cells.length len e then Ay C fr h len ((cells.drop off).take (len * C.sz)) else none:=by
 show (bif Nat.ble _ _ && _ then _ else _)=_;rw [aB7]
theorem aqy (sz kd st off len n et):Bg false sz kd st off len n et=true:=id rfl
theorem ayx {α:Type} (C:dp α) (fr:Bool) (h:Tr bp) (n:Nat) (l:List AV):Ay C fr h (n+1) l=match C.dec fr h (l.take C.sz),Ay C fr h n (l.drop C.sz) with|some x,some xs=>some (x::xs)|_,_=>none:=id rfl
theorem axv {α:Type} (C:dp α) (fr:Bool) (h:Tr bp) (l:List AV):Ay C fr h 0 l=some []:=id rfl
theorem X9 (fr:Bool) (h:Tr bp) (n:Int) (h0 : 0<=n) (h1:n<256):ca.dec fr h [.sc (.int .u8 n)]=some (UInt8.ofNat n.toNat):=by show u8V (.int .u8 n)=_;simp [u8V,h0,h1]
theorem aGi {α β:Type} (A:dp α) (B:dp β) (l:Bool) (p : α × β):(r2 A B).E l p = .iw [A.val l p.1,B.val l p.2]:=id rfl
theorem aHx {α:Type} (A:dp α) (l:Bool) (x : α):(r1 A).E l x=A.val l x:=id rfl
theorem akl (T:fc) (g:Nat) (a b:Array Value) (args:List AV):Ap T (.sc (.func (.func g) a b)) args=yu T g (a.toList.map .sc++args++b.toList.map .sc):=id rfl
theorem agf (T:fc) (g:Nat) (a b:List AV) (args:List AV):Ap T (.fn (.func g) a b) args=yu T g (a++args++b):=id rfl
theorem acv (f:Nat) (b:Bool) (m:List AV->M AV) (T:fc) (args:List AV):yu ((f,b,m)::T) f args=mono (m args):=by simp [yu,fc.find]
theorem Xy (f g:Nat) (b:Bool) (m:List AV->M AV) (T:fc) (args:List AV) (h:(f == g)=false):yu ((f,b,m)::T) g args=yu T g args:=by
 have:f≠g:=by simpa using h
 simp [yu,fc.find,sd this]
theorem ahm {α:Type} (A:AC α) (F : α->Option AV) (args:List AV) (st:St):cx A F args st=match A.get .nil args with|some x=>(F x).map fun r=>(r,st)|none=>match A.get st.h args with|some x=>(match F x with|some r=>bif r.fresh then some (r,st) else some (r,{ st with h:=.nil })|none=>none)|none=>none:=id rfl
theorem aG4 {α β:Type} (A:dp α) (B:dp β) (fr:Bool) (h:Tr bp) (a b:AV):(r2 A B).get fr h (.iw [a,b])=match A.gv fr h a,B.gv fr h b with|some x,some y=>some (x,y)|_,_=>none:=id rfl
theorem aGw (h:Tr bp):a0.get h []=some ():=id rfl
theorem aGz {α β:Type} (C:dp α) (R:AC β) (h:Tr bp) (a:AV) (r:List AV):(aC C R).get h (a::r)=match C.gv false h a,R.get h r with|some x,some y=>some (x,y)|_,_=>none:=id rfl
theorem aHq {α:Type} (A:dp α) (fr:Bool) (h:Tr bp) (a:AV):(r1 A).get fr h a=A.gv fr h a:=id rfl
end cods
section
variable (P : Program)
theorem aem (pl:Nat->Option (Nat × Nat)) (cells:List AV):yt pl cells []=some cells:=id rfl
theorem X7 (pl:Nat->Option (Nat × Nat)) (cells:List AV) (i:Nat) (v:AV) (rest:List (Nat × AV)):yt pl cells ((i,v)::rest)=match pl i with
 |none=>none
 |some (off,size)=>bif !v.known || !(Nat.beq v.cells.length size) || !(Nat.ble (off+size) cells.length) then none else yt pl (cells.take off++v.cells++cells.drop (off+size)) rest:=id rfl
def v7 (t:TypeId):Option (List AV × List (Nat × Nat)):=
 match gk P t,P.underlying t with
 |some z,some (.struct fields)=>(Ll P fields).map fun pl=>(z.cells.toList.map .sc,pl)
 |_,_=>none
theorem Xc (t:TypeId) (ps:List (Nat × AV)):Bz P t ps=match v7 P t with
 |some (z,pl)=>.of ((yt (fun i=>pl[i]?) z ps).map .agg)
 |none=>Bz P t ps:=by
 cases hb:v7 P t with
 |none=>rfl
 |some q=>
  obtain ⟨z,pl⟩:=q;simp only [v7] at hb
  split at hb
  ·rename_i z' fs hz hu;cases hp:Ll P fs with
   |none=>simp [hp] at hb
   |some AB=>
    simp [hp] at hb;obtain ⟨rfl,rfl⟩:=hb;simp [Bz,hz,hu,hp]
  ·cases hb
def Gx (t:TypeId):Option (TypeId × Nat × List AV):=
 match qp P t with
 |none=>none
 |some e=>
  match dw P e,gk P e with
  |some sz,some z=>bif Nat.beq z.cells.size sz then some (e,sz,z.cells.toList.map .sc) else none
  |_,_=>none
theorem Jk (t:TypeId) (len:Nat) (ps:List (Nat × AV)):qv P t len ps=match Gx P t with
 |some (e,sz,z)=>
  match yt (fun i=>some (i * sz,sz)) (List.replicate len z).flatten ps with
  |some cells=>bif Nat.ble (len * sz) 16777216 && Nat.ble len 16777216 then xa e sz len cells else .fail
  |none=>.fail
 |none=>qv P t len ps:=by
 cases hb:Gx P t with
 |none=>rfl
 |some q=>
  obtain ⟨e,sz,z⟩:=q;simp only [Gx] at hb
  split at hb
  ·cases hb
  ·rename_i e' he
   split at hb
   ·rename_i bC z' hs hz;cases hq:Nat.beq z'.cells.size bC with
    |false=>simp [hq] at hb
    |true=>
     simp [hq] at hb;obtain ⟨rfl,rfl,rfl⟩:=hb;simp only [qv,he,hs,hz,hq,Bool.and_true];rfl
   ·cases hb
end
section ranges
variable (P : Program) (T : fc) (l be : Nat) (R : Mm) (Q : QI) (pe : Option Ex) (L : SL) (st : St)
theorem ajr (f:Operand) (ps:Array Tmp) (a b:Code) (Q:QL):wl P T be (.rangeFunc f ps a b) Q L st=ax7 P T f ps.toList (fun p=>wl P T p a) (fun p=>wl P T p b) be Q L st:=id rfl
theorem ain:sf P T l R be .skip Q pe L st=Q .normal pe L st:=id rfl
theorem Zv (i:Nat) (ops:Array Oper):sf P T l R be (.region i ops false) Q pe L st=I8 P T l R be ops ops.toList (Q .normal) pe L st:=id rfl
theorem aq4 (a b:Code):sf P T l R be (.seq a b) Q pe L st=sf P T l R be a (akh (sf P T l R be b) Q) pe L st:=id rfl
theorem aia (c:Operand) (a b:Code):sf P T l R be (.cond c a b) Q pe L st=Fg (dv L c) (sf P T l R be a Q) (sf P T l R be b Q) pe L st:=id rfl
theorem ade (i:Nat) (a:Code):sf P T l R be (.block i a) Q pe L st=sf P T l R be a (Ws i Q) pe L st:=id rfl
theorem aid (i:Nat):sf P T l R be (.exit i) Q pe L st=Q (.exit i) pe L st:=id rfl
theorem apy:sf P T l R be .ret Q pe L st=Q .ret pe L st:=id rfl
theorem avk (W:QI->Option Ex->SL->St->Prop):akh W Q .normal pe L st=W Q pe L st:=id rfl
theorem awi (W:QI->Option Ex->SL->St->Prop) (i:Nat):akh W Q (.exit i) pe L st=Q (.exit i) pe L st:=id rfl
theorem awx (W:QI->Option Ex->SL->St->Prop):akh W Q .ret pe L st=Q .ret pe L st:=id rfl
theorem azi (i:Nat):Ws i Q .normal pe L st=Q .normal pe L st:=id rfl
theorem aye (i:Nat):Ws i Q .ret pe L st=Q .ret pe L st:=id rfl
theorem au2 (i j:Nat):Ws i Q (.exit j) pe L st=if j=i then Q .normal pe L st else Q (.exit j) pe L st:=by show (bif Nat.beq j i then _ else _)=_;rw [asx];by_cases h:j=i<;>simp [h]
theorem apj (Q':QL):Cm Q' Q .normal pe L st=(pe=none/\Q' .normal L st):=id rfl
theorem aqg (Q':QL) (i:Nat):Cm Q' Q (.exit i) pe L st=Q (.exit i) pe L st:=id rfl
theorem ao5 (Q':QL):Cm Q' Q .ret pe L st=Q .ret pe L st:=id rfl
theorem aqh (Q:QL) (L0:SL):ame Q L0 .normal none L st=Q .normal L0 st:=id rfl
theorem ape (Q:QL) (L0:SL) (e:Ex):ame Q L0 .ret (some e) L st=Q e L0 st:=id rfl
theorem ago (ops:Array Oper) (K:Option Ex->SL->St->Prop):I8 P T l R be ops [] K pe L st=K pe L st:=id rfl
theorem ac5 (ops:Array Oper) (o:Oper) (r:List Oper) (K:Option Ex->SL->St->Prop):I8 P T l R be ops (o::r) K pe L st=Nu ops o.guard (opI P T l R be o (I8 P T l R be ops r K)) (aad o.dst (I8 P T l R be ops r K)) pe L st:=id rfl
theorem Xl (ops:Array Oper) (X Y:Option Ex->SL->St->Prop):Nu ops none X Y pe L st=X pe L st:=id rfl
theorem W5 (ops:Array Oper) (j:Nat) (c:Bool) (X Y:Option Ex->SL->St->Prop):Nu ops (some (j,c)) X Y pe L st=ak1 (lk L (wt ops j)) c X Y pe L st:=id rfl
theorem amg (b:Bool) (X Y:Option Ex->SL->St->Prop):ak1 (.sc (.bool b)) true X Y pe L st=Fg (.sc (.bool b)) X Y pe L st:=by cases b<;>simp [ak1,Dl,Fh,Ka,Fg,tj,AV.bool,AV.exact,qz]
theorem aqx (X Y:Option Ex->SL->St->Prop):Fg (.sc (.bool true)) X Y pe L st=X pe L st:=by simp [Fg,tj,AV.bool,AV.exact,qz]
theorem aq0 (X Y:Option Ex->SL->St->Prop):Fg (.sc (.bool false)) X Y pe L st=Y pe L st:=by simp [Fg,tj,AV.bool,AV.exact,qz]
theorem Aq (b:Bool) (X Y:Option Ex->SL->St->Prop):Fg (.sc (.bool b)) X Y pe L st=((b=true->X pe L st)/\(b=false->Y pe L st)):=by simp [Fg,tj,AV.bool,AV.exact,qz]
theorem X5 (d:Option Tmp) (K:Option Ex->SL->St->Prop):aad d K pe L st=K pe (kn d (.sc undef) L) st:=id rfl
theorem au9 (o:Oper) (K:Option Ex->SL->St->Prop):opI P T l R be o K pe L st=abk P T R be o K pe L st (yieldOf l o L):=id rfl
theorem axp (o:Oper) (K:Option Ex->SL->St->Prop):abk P T R be o K pe L st none=Mf (gw P T o (dv L) st) o.dst L (K pe):=id rfl
theorem aja (d:Option Tmp) (K:Option Ex->SL->St->Prop):alm d L K .normal st=K none (kn d (.sc (.bool true)) L) st:=id rfl
theorem ahp (d:Option Tmp) (K:Option Ex->SL->St->Prop):alm d L K .ret st=K (some .ret) (kn d (.sc (.bool false)) L) st:=id rfl
theorem aph (B:QL->SL->St->Prop) (X:Ex->St->Prop):aDh B X .normal L st=B (fun e _ st=>X e st) L st:=id rfl
theorem ad6 (k:Nat) (va vb:Array Value):Ej l (.sc (.func (.yield k) va vb))=(Nat.beq k l && Nat.beq va.size 0 && Nat.beq vb.size 0):=id rfl
theorem Uw:Et [] [] L=L:=id rfl
theorem Qk (t:Nat) (ts:List Nat) (v:AV) (vs:List AV):Et (t::ts) (v::vs) L=Et ts vs ((t,v)::L):=id rfl
theorem aAd {α:Type} {b:Code} (keep:List Nat) (V : α->List AV) (O : α->List (Option bp)) (I : α->Prop) (μ : α->Nat) (x : α) (hx:I x) (hR:∀ p args (X X':Ex->St->Prop) st,(∀ e st,X e st->X' e st)->R p args X st->R p args X' st)
 (hv:jc be keep L st=V x) (ho:gh be keep L st=O x)
 (step:∀ x,I x->sf P T l R be b (Cm (As be keep (fun vs os=>∃ y,I y /\ μ y < μ x/\vs=V y/\os=O y) (fun _ _ _=>False)) Q) none (jn keep (V x)) (bg (O x))):sf P T l R be (.loop b) Q none L st:=
 ⟨rfl,vu.of (B:=fun Q' L st=>sf P T l R be b (Cm Q' Q) none L st) keep V O I μ x hx hv ho (fun Q1 Q2 h L st hh=>V3 hR b _ _ (fun e pe L st q=>by
  cases e with
  |normal=>exact ⟨q.1,h _ _ _ q.2⟩
  |ret=>exact q
  |exit i=>exact q) none L st hh) step⟩
theorem Uq {ps:List Tmp} {a b:Code} {L0:SL}:∀ p args (X X':Ex->St->Prop) st,(∀ e st,X e st->X' e st)->qa ps (fun p=>wl P T p a) (fun p=>wl P T p b) L0 p args X st->qa ps (fun p=>wl P T p a) (fun p=>wl P T p b) L0 p args X' st:=
 fun p args X X' st hX hr=>⟨hr.1,hr.2.1,En _ _ _ (fun e L st q=>by
  cases e with
  |normal=>exact En _ _ _ (fun e _ st q=>hX e st q) _ _ q
  |_=>exact q.elim) _ _ hr.2.2⟩
end ranges
section yields
variable {lp : Nat} {L : SL} {d : Option Tmp} {ty : TypeId} {pos : String} {af : Array Edge} {gd : Option (Nat × Bool)}
theorem Ph (x):yieldOf lp ⟨d,.move x,ty,pos,af,gd⟩ L=none:=id rfl
theorem Lw (x):yieldOf lp ⟨d,.assign x,ty,pos,af,gd⟩ L=none:=id rfl
theorem Qz (t a):yieldOf lp ⟨d,.load t a,ty,pos,af,gd⟩ L=none:=id rfl
theorem Gz (s x f):yieldOf lp ⟨d,.fieldAddr s x f,ty,pos,af,gd⟩ L=none:=id rfl
theorem Pb (op t x y u):yieldOf lp ⟨d,.binOp op t x y u,ty,pos,af,gd⟩ L=none:=id rfl
theorem P0 (c a b):yieldOf lp ⟨d,.pick c a b,ty,pos,af,gd⟩ L=none:=id rfl
theorem O3 (t a x):yieldOf lp ⟨d,.store t a x,ty,pos,af,gd⟩ L=none:=id rfl
theorem G1 (t x i):yieldOf lp ⟨d,.indexAddr t x i,ty,pos,af,gd⟩ L=none:=id rfl
theorem O5 (t):yieldOf lp ⟨d,.alloc t,ty,pos,af,gd⟩ L=none:=id rfl
theorem Qa (op t x):yieldOf lp ⟨d,.unOp op t x,ty,pos,af,gd⟩ L=none:=id rfl
theorem Ua (x ts):yieldOf lp ⟨d,.call { callee:=.builtin .len,args:=#[x],argTypes:=ts },ty,pos,af,gd⟩ L=none:=id rfl
theorem Re (f:Operand) (args:Array Operand) (ts:Array TypeId):yieldOf lp ⟨d,.call { callee:=.value f,args:=args,argTypes:=ts },ty,pos,af,gd⟩ L=bif Ej lp (dv L f) then some args else none:=id rfl
end yields
end
variable [TK]
noncomputable section
abbrev Name:=List ByteArray
structure cq where
 names:List Name
 nums:List UInt32
 texts:List ByteArray
 raw:List UInt8
def mkD (a:List Name) (b:List UInt32) (c:List ByteArray) (e:List UInt8):cq:=⟨a,b,c,e⟩
theorem apl (d:cq):mkD d.names d.nums d.texts d.raw=d:=id rfl
noncomputable def aj:dp Name:=cg ai
noncomputable def bc:dp cq:=x7 (jq (cg aj) (jq (cg cz) (jq aj (cg ca)))) (fun d=>(d.names,d.nums,d.texts,d.raw)) (fun p=>⟨p.1,p.2.1,p.2.2.1,p.2.2.2⟩) (fun _=>rfl) (fun _=>rfl)
theorem bz (l:Bool) (n:Name):aj.val l n = .vl l 1 (n.map (ai.val l)):=id rfl
theorem ql:aj.sz=1:=id rfl
theorem Zx:bc.sz=4:=id rfl
theorem iy (l:Bool) (d:cq):bc.val l d = .agg [.vl l 1 (d.names.map (aj.val l)),.vl l 1 (d.nums.map (cz.val l)),.vl l 1 (d.texts.map (ai.val l)),.vl l 1 (d.raw.map (ca.val l))]:=id rfl
theorem Ub (fr:Bool) (h:Tr bp) (x1 x2 x3 x4:AV) :
 bc.gv fr h (.agg [x1,x2,x3,x4])=match gm aj fr h x1,gm cz fr h x2,gm ai fr h x3,gm ca fr h x4 with
  |some a,some b,some c,some e=>some (mkD a b c e)
  |_,_,_,_=>none:=by
 rw [vn _ _ _ _ rfl rfl];have h1:bc.dec fr h (AV.agg [x1,x2,x3,x4]).cells=Option.map (fun p=>(⟨p.1,p.2.1,p.2.2.1,p.2.2.2⟩:cq)) ((jq (cg aj) (jq (cg cz) (jq aj (cg ca)))).dec fr h [x1,x2,x3,x4]):=rfl;have d2:∀ {α β:Type} (A:dp α) (B:dp β) (l:List AV),(jq A B).dec fr h l=match A.dec fr h (l.take A.sz),B.dec fr h (l.drop A.sz) with|some x,some y=>some (x,y)|_,_=>none:=fun _ _ _=>rfl
 have l1:∀ {α:Type} (C:dp α) (x:AV),(cg C).dec fr h [x]=gm C fr h x:=fun _ _=>rfl
 have n1:∀ x,aj.dec fr h [x]=gm ai fr h x:=fun _=>rfl
 rw [h1];simp only [d2,yc,ql,List.take_succ_cons,List.take_zero,List.drop_succ_cons,List.drop_zero,l1,n1];cases gm aj fr h x1<;>cases gm cz fr h x2<;>cases gm ai fr h x3<;>cases gm ca fr h x4<;>rfl
theorem Qm {α:Type} (C:dp α) (fr:Bool) (h:Tr bp) (l:Bool) (n:Nat) (es:List AV):(cg C).gv fr h (.vl l n es)=gm C fr h (.vl l n es):=Ee C fr h _ rfl rfl rfl
theorem Rn {α:Type} (C:dp α) (fr:Bool) (h:Tr bp) (o off len n:Nat):(cg C).gv fr h (.sl o off len n)=gm C fr h (.sl o off len n):=Ee C fr h _ rfl rfl rfl
theorem Gr {α:Type} (C:dp α) (fr:Bool) (h:Tr bp):(cg C).gv fr h (.sc (.slice none 0 0))=some []:=by rw [Ee C fr h _ rfl rfl rfl];rfl
theorem Jq (fr:Bool) (h:Tr bp) (l:Bool) (n:Nat) (es:List AV):aj.gv fr h (.vl l n es)=gm ai fr h (.vl l n es):=Ee ai fr h _ rfl rfl rfl
theorem Kh (fr:Bool) (h:Tr bp) (o off len n:Nat):aj.gv fr h (.sl o off len n)=gm ai fr h (.sl o off len n):=Ee ai fr h _ rfl rfl rfl
theorem Iu (fr:Bool) (h:Tr bp):aj.gv fr h (.sc (.slice none 0 0))=some []:=Gr ai fr h
theorem I4 (l:List UInt8):l.map Es=l.map (ca.val false):=id rfl
theorem Rc {α:Type} (C:dp α) (b:Bool) (l:List α):AV.names.go (l.map (C.val b))=[]:=K4 (fun c hc=>by obtain ⟨x,_,rfl⟩:=zyj.1 hc;exact Ke C b x)
theorem Bb:∀ (l:List UInt8) (b:Bool),bytesOf (l.map (ca.val b))=some l
 | [],_=>rfl
 |c::l,b=>by rw [List.map_cons,Ge,bytesOf,Bb l b];simp
end
end Go.Vm
section
namespace Go.Vm.Cx
open Go.Vm
variable [TK]
noncomputable section
theorem F9 {P:Program} (w:World):∀ (ns:List Int) (a:Addr) (i:Nat) (acc:ByteArray),(∀ (j:Nat) x,ns[j]? = some x->(load (a.add (i+j))).run P w = .ok (.int .u8 x) w) ->
 (Extern.Bytes.loadBytes (a.add i) ns.length acc).run P w = .ok ⟨acc.data++(ns.map fun n=>UInt8.ofNat n.toNat).toArray⟩ w
 | [],a,i,acc,_=>by simp [Extern.Bytes.loadBytes]
 |x::l,a,i,acc,h=>by
  have h0:=h 0 x rfl;rw [Nat.add_zero] at h0;have e:(a.add i).add 1=a.add (i+1):=by
   unfold Addr.add;by_cases hj:i=0
   ·subst hj;simp
   ·simp [hj];omega
  have ih:=F9 (P:=P) w l a (i+1) (acc.push x.toNat.toUInt8) (fun j y hy=>by have:=h (j+1) y (by simpa using hy);rw [show i+1+j=i+(j+1) from by omega];exact this)
  simp only [List.length_cons,Extern.Bytes.loadBytes,Sem.run_bind,h0,Result.andThen];rw [e,ih]
  congr 1
  apply ByteArray.ext;simp [ByteArray.push,Nat.toUInt8]
theorem aac {l:List Int} {l':List Value} (h:l'=l.map (Value.int .u8)) (j:Nat) (x:Int) (hx:l[j]? = some x):l'[j]? = some (.int .u8 x):=by rw [h,zzj,hx];rfl
theorem Gi {P:Program} {g st gp w} {a:AV} {v:Value} {l:List AV} {bs:List UInt8} (aB:Ok g st.h w) (hr:Rel g w a v) (h:cellsIn 1 a st=some (l,gp)) (hb:bytesOf l=some bs) :
 (Extern.Bytes.bytesOf v).run P w = .ok ⟨bs.toArray⟩ w:=by
 obtain ⟨_,_,n,news,bK,hrl⟩:=Ag (P:=P) aB hr h;obtain ⟨ns,e1,e2⟩:=Hf _ _ _ hrl hb;obtain ⟨r1,r2⟩:=bK.run w rfl;cases v with
 |slice p len cap=>
  have hn:n=len:=by simp [Builtin.lenOf] at r1;exact r1.symm
  subst hn;cases p with
  |none=>
   have:news=[]:=by simpa [Builtin.firstCells] using r2
   subst this;have:ns=[]:=by simpa using e1.symm
   subst this;subst e2;rfl
  |some a=>
   simp only [Builtin.firstCells,Nat.mul_one] at r2;unfold loadCells at r2;obtain ⟨l',q1,q2,q3⟩:=loadCellsFrom_ok a n 0 #[] _ _ r2;have hl':l'=news:=by simpa using q2.symm
   subst hl';have hlen:ns.length=n:=by rw [<- q1,e1,zzo]
   have:=F9 (P:=P) w ns a 0 .empty (fun j x hx=>by exact q3 j _ (aac e1 j x hx))
   rw [hlen] at this;have e0:a.add 0=a:=by simp [Addr.add]
   rw [e0] at this;show (Extern.Bytes.loadBytes a n .empty).run P w=_;rw [this,e2]
   congr 2
   simp [ByteArray.empty,ByteArray.emptyWithCapacity];rfl
 |string s=>
  have hn:n=s.size:=by simp [Builtin.lenOf] at r1;exact r1.symm
  subst hn;simp only [Builtin.firstCells,Sem.run_pure,Result.ok.injEq,and_true] at r2;have h1:=congrArg Array.toList r2;rw [e1] at h1;show Result.ok s w=_
  congr 1
  apply ByteArray.ext;apply Array.ext';rw [e2];have h2:=congrArg (List.map fun v:Value=>match v with|.int _ n=>UInt8.ofNat n.toNat|_=>0) h1;simp only [List.map_map,Array.toList_map] at h2;have h3:(s.extract 0 s.size).data.toList=s.data.toList:=by simp
  rw [h3] at h2;have h4:(List.map ((fun v:Value=>match v with|.int _ n=>UInt8.ofNat n.toNat|_=>0) ∘ fun b:UInt8=>Value.int .u8 (b.toNat:Int)) s.data.toList)=s.data.toList:=by rw [show ((fun v:Value=>match v with|.int _ n=>UInt8.ofNat n.toNat|_=>0) ∘ fun b:UInt8=>Value.int .u8 (b.toNat:Int))=id from by funext b;simp];simp
  rw [h4] at h2;rw [h2];simp
 |_=>simp [Builtin.lenOf,stuck] at r1
def aIt (args:List AV):M AV:=
 match args with
 | [a]=>.pure a
 |_=>.fail
def mr (args:List AV):M AV:=
 match args with
 | [a,b]=>(cellsIn 1 a).bind fun x=>(cellsIn 1 b).bind fun y=>
  match bytesOf x with
  |some x=>
   match bytesOf y with
   |some y=>.pure (.sc (goInt (Lib.compareBytes x y)))
   |none=>.fail
  |none=>.fail
 |_=>.fail
def fk {α:Type} (m:M α):Prop:=∀ st v gp,m st=some (v,gp)->gp.h=st.h/\gp.nx=st.nx
theorem fk.pure {α:Type} (a : α):fk (M.pure a):=fun st v gp h=>by cases h;exact ⟨rfl,rfl⟩
theorem fk.fail {α:Type}:fk (M.fail:M α):=fun st v gp h=>by cases h
theorem fk.bind {α β:Type} {m:M α} {f : α->M β} (hm:fk m) (h:∀ x,fk (f x)):fk (m.bind f):=fun st v gp hb=>by obtain ⟨x,s1,h1,h2⟩:=bind_some hb;have h3:=hm _ _ _ h1;have h4:=h x _ _ _ h2;exact ⟨h4.1.trans h3.1,h4.2.trans h3.2⟩
theorem fk.er (id:Nat):fk (Vm.er id):=fun zC _v sW h=>(i6 h).2
theorem fk.cond {α:Type} {b:Bool} {x y:M α} (hx:fk x) (hy:fk y):fk (bif b then x else y):=by cases b<;>assumption
theorem fk.cellsIn (sz:Nat) (v:AV):fk (Vm.cellsIn sz v):=by
 unfold Vm.cellsIn Il
 repeat' (first|exact fk.pure _|exact fk.fail|apply fk.cond|(refine fk.bind (fk.er _) fun x=>?_)|split)
theorem D5 (args:List AV):fk (mr args):=by
 unfold mr;split
 ·exact fk.bind (fk.cellsIn _ _) fun x=>fk.bind (fk.cellsIn _ _) fun y=>by
   split
   ·split
    ·exact fk.pure _
    ·exact fk.fail
   ·exact fk.fail
 ·exact fk.fail
theorem Ia {P:Program} {f:Nat} {fn:Func} (hf:P.funcs[f]? = some fn) (h1:(fn.name == "runtime.NumGoroutine")=false) (h2:fn.body.isNone=true) (h3:Extern.findNext fn=none) (h4:Extern.find fn=some Extern.BytealgCompare.compare) (args:List AV) :
 Cr P f args (mr args):=by
 intro g st w vs r st' aB bU hrel hm;refine .inl ?_;have hst:=D5 _ _ _ _ hm;unfold mr at hm
 split at hm
 ·rename_i a c;obtain ⟨x,s1,e1,hm⟩:=bind_some hm;obtain ⟨y,s2,e2,hm⟩:=bind_some hm;cases hx:bytesOf x with
  |none=>rw [hx] at hm;cases hm
  |some bx=>
  cases hy:bytesOf y with
  |none=>rw [hx,hy] at hm;cases hm
  |some yb=>
  rw [hx,hy] at hm;cases hm;have hh:=fk.cellsIn _ _ _ _ _ e1
  match vs,hrel with
  | [v,u],hrel=>
   have r1:=Gi (P:=P) aB hrel.head e1 hx;have r2:=Gi (P:=P) (st:=s1) (by rw [hh.1];exact aB) hrel.tail.head e2 hy;refine ⟨goInt (Lib.compareBytes bx yb),w,g,?_,?_,?_,.sc _⟩
   ·rw [run_callFunc_extern hf h1 h2 h3 h4];have:(Extern.BytealgCompare.compare #[v,u]).run P w = .ok (goInt (Lib.compareBytes bx yb)) w:=by
     change Sem.run P (do pure (goInt (Extern.BytealgCompare.cmp (<- Extern.Bytes.bytesOf v) (<- Extern.Bytes.bytesOf u)))) w=_;simp only [Sem.run_bind,r1,r2,Result.andThen,Sem.run_pure];rw [Lib.cmp_eq]
    show ((Extern.BytealgCompare.compare #[v,u]).run P w).andThen _=_;rw [this];rfl
   ·rw [hst.1,hst.2];exact .refl _ _ _ _ _
   ·rw [hst.1];exact aB
  | [],hrel=>have:=hrel.1;simp at this
  | [v],hrel=>have:=hrel.1;simp at this
  |_::_::_::_,hrel=>have:=hrel.1;simp at this
 ·cases hm
end
end Go.Vm.Cx
end
section
set_option linter.unnecessarySimpa false
namespace Go.Vm
variable [TK]
noncomputable section
def roT (o:Option (Bool × (List AV->M AV))):Bool:=match o with|some (b,_)=>b|none=>false
theorem aCq (b m):roT (some (b,m))=b:=id rfl
theorem fj {o:Oper} {L:SL} {x:Operand} (h:x ∈ o.op.operands):dr o L x=dv L x:=by
 cases x with
 |tmp t=>
  show (bif o.op.operands.any (fun x=>match x with|.tmp u=>Nat.beq u t|_=>false) then lk L t else .bad)=lk L t;have:o.op.operands.any (fun x=>match x with|.tmp u=>Nat.beq u t|_=>false)=true:=by rw [Array.any_eq_true'];exact ⟨_,h,by simp⟩
  rw [this];rfl
 |const v=>rfl
 |global g=>rfl
 |func f=>rfl
theorem i5 {o:Oper} {L:SL} {l:List Operand} (h:∀ x ∈ l,x ∈ o.op.operands):l.map (dr o L)=l.map (dv L):=List.map_congr_left fun x hx=>fj (h x hx)
theorem U6 {o:Oper} {L:SL} {l:List (Nat × Operand)} (h:∀ x ∈ l,x.2 ∈ o.op.operands):l.map (fun p=>(p.1,dr o L p.2))=l.map (fun p=>(p.1,dv L p.2)):=List.map_congr_left fun x hx=>by rw [fj (h x hx)]
def gn (ro:Bool) (F:List Nat) (o:Oper) (recs:List Rec) (K:List Rec->SL->St->Prop) (L:SL) (st:St) (m:M AV):Prop:=Ij ro F o recs K L st (m { h:=tp st.h F,nx:=st.nx,rl:=[],wl:=[] })
theorem aeu (ro F o recs K L st m):gn ro F o recs K L st m=Ij ro F o recs K L st (m { h:=tp st.h F,nx:=st.nx,rl:=[],wl:=[] }):=id rfl
section ops
variable (P : Program) (T : fc) (L : SL) (st : St) (recs : List Rec) (K : List Rec -> SL -> St -> Prop) (d : Option Tmp) (ty : TypeId) (pos : String) (af : Array Edge) (gd : Option (Nat × Bool))
theorem ah0 (x):ia P T ⟨d,.move x,ty,pos,af,gd⟩ recs K L st=gn (true) ([]) ⟨d,.move x,ty,pos,af,gd⟩ recs K L st (mono (M.pure (dv L x))):=by
 unfold ia ma m6 gn;simp only [ke,cond_true];have hm:∀ y,y ∈ ([x]:List Operand)->dr ⟨d,.move x,ty,pos,af,gd⟩ L y=dv L y:=fun y hy=>fj (by simpa [Op.operands,Call.operands] using hy)
 have hmap:([x]:List Operand).map (dr ⟨d,.move x,ty,pos,af,gd⟩ L)=([x]:List Operand).map (dv L):=i5 (fun y hy=>by simpa [Op.operands,Call.operands] using hy);have ho:(⟨d,.move x,ty,pos,af,gd⟩:Oper).op.operands.toList=[x]:=by simp [Op.operands,Call.operands]
 rw [Mz,hm x (by simp)];rfl
theorem X1 (x):ia P T ⟨d,.assign x,ty,pos,af,gd⟩ recs K L st=gn (true) ([]) ⟨d,.assign x,ty,pos,af,gd⟩ recs K L st (mono (M.pure (dv L x))):=by
 unfold ia ma m6 gn;simp only [ke,cond_true];have hm:∀ y,y ∈ ([x]:List Operand)->dr ⟨d,.assign x,ty,pos,af,gd⟩ L y=dv L y:=fun y hy=>fj (by simpa [Op.operands,Call.operands] using hy)
 have hmap:([x]:List Operand).map (dr ⟨d,.assign x,ty,pos,af,gd⟩ L)=([x]:List Operand).map (dv L):=i5 (fun y hy=>by simpa [Op.operands,Call.operands] using hy);have ho:(⟨d,.assign x,ty,pos,af,gd⟩:Oper).op.operands.toList=[x]:=by simp [Op.operands,Call.operands]
 rw [H8,hm x (by simp)];rfl
theorem al7 (t a):ia P T ⟨d,.load t a,ty,pos,af,gd⟩ recs K L st=gn (true) ((dv L a).names) ⟨d,.load t a,ty,pos,af,gd⟩ recs K L st (mono (uh P t (dv L a))):=by
 unfold ia ma m6 gn;simp only [ke,cond_false];have hm:∀ y,y ∈ ([a]:List Operand)->dr ⟨d,.load t a,ty,pos,af,gd⟩ L y=dv L y:=fun y hy=>fj (by simpa [Op.operands,Call.operands] using hy)
 have hmap:([a]:List Operand).map (dr ⟨d,.load t a,ty,pos,af,gd⟩ L)=([a]:List Operand).map (dv L):=i5 (fun y hy=>by simpa [Op.operands,Call.operands] using hy);have ho:(⟨d,.load t a,ty,pos,af,gd⟩:Oper).op.operands.toList=[a]:=by simp [Op.operands,Call.operands]
 rw [Ng,hm a (by simp)];rfl
theorem Ol (s x f):ia P T ⟨d,.fieldAddr s x f,ty,pos,af,gd⟩ recs K L st=gn (true) ([]) ⟨d,.fieldAddr s x f,ty,pos,af,gd⟩ recs K L st (mono (vi P s (dv L x) f)):=by
 unfold ia ma m6 gn;simp only [ke,cond_true];have hm:∀ y,y ∈ ([x]:List Operand)->dr ⟨d,.fieldAddr s x f,ty,pos,af,gd⟩ L y=dv L y:=fun y hy=>fj (by simpa [Op.operands,Call.operands] using hy)
 have hmap:([x]:List Operand).map (dr ⟨d,.fieldAddr s x f,ty,pos,af,gd⟩ L)=([x]:List Operand).map (dv L):=i5 (fun y hy=>by simpa [Op.operands,Call.operands] using hy);have ho:(⟨d,.fieldAddr s x f,ty,pos,af,gd⟩:Oper).op.operands.toList=[x]:=by simp [Op.operands,Call.operands]
 rw [Du,hm x (by simp)];rfl
theorem ab9 (op t x y u):ia P T ⟨d,.binOp op t x y u,ty,pos,af,gd⟩ recs K L st=gn (true) ([]) ⟨d,.binOp op t x y u,ty,pos,af,gd⟩ recs K L st (mono (Nf P (dr ⟨d,.binOp op t x y u,ty,pos,af,gd⟩ L) ⟨d,.binOp op t x y u,ty,pos,af,gd⟩ op t x y)):=by
 unfold ia ma m6 gn;simp only [ke,cond_true];have hm:∀ y,y ∈ ([x,y]:List Operand)->dr ⟨d,.binOp op t x y u,ty,pos,af,gd⟩ L y=dv L y:=fun y hy=>fj (by simpa [Op.operands,Call.operands] using hy)
 have hmap:([x,y]:List Operand).map (dr ⟨d,.binOp op t x y u,ty,pos,af,gd⟩ L)=([x,y]:List Operand).map (dv L):=i5 (fun y hy=>by simpa [Op.operands,Call.operands] using hy);have ho:(⟨d,.binOp op t x y u,ty,pos,af,gd⟩:Oper).op.operands.toList=[x,y]:=by simp [Op.operands,Call.operands]
 rfl
theorem ag2 (c a b):ia P T ⟨d,.pick c a b,ty,pos,af,gd⟩ recs K L st=gn (true) ([]) ⟨d,.pick c a b,ty,pos,af,gd⟩ recs K L st (mono (Ib (dv L c) (dv L a) (dv L b))):=by
 unfold ia ma m6 gn;simp only [ke,cond_true];have hm:∀ y,y ∈ ([c,a,b]:List Operand)->dr ⟨d,.pick c a b,ty,pos,af,gd⟩ L y=dv L y:=fun y hy=>fj (by simpa [Op.operands,Call.operands] using hy)
 have hmap:([c,a,b]:List Operand).map (dr ⟨d,.pick c a b,ty,pos,af,gd⟩ L)=([c,a,b]:List Operand).map (dv L):=i5 (fun y hy=>by simpa [Op.operands,Call.operands] using hy);have ho:(⟨d,.pick c a b,ty,pos,af,gd⟩:Oper).op.operands.toList=[c,a,b]:=by simp [Op.operands,Call.operands]
 rw [Ns,hm c (by simp),hm a (by simp),hm b (by simp)];rfl
theorem ael (t a x):ia P T ⟨d,.store t a x,ty,pos,af,gd⟩ recs K L st=gn (false) ((dv L a).names) ⟨d,.store t a x,ty,pos,af,gd⟩ recs K L st (mono (An P t (dv L a) (dv L x))):=by
 unfold ia ma m6 gn;simp only [ke,cond_false];have hm:∀ y,y ∈ ([a,x]:List Operand)->dr ⟨d,.store t a x,ty,pos,af,gd⟩ L y=dv L y:=fun y hy=>fj (by simpa [Op.operands,Call.operands] using hy)
 have hmap:([a,x]:List Operand).map (dr ⟨d,.store t a x,ty,pos,af,gd⟩ L)=([a,x]:List Operand).map (dv L):=i5 (fun y hy=>by simpa [Op.operands,Call.operands] using hy);have ho:(⟨d,.store t a x,ty,pos,af,gd⟩:Oper).op.operands.toList=[a,x]:=by simp [Op.operands,Call.operands]
 rw [Ks,hm a (by simp),hm x (by simp)];rfl
theorem O8 (t x i):ia P T ⟨d,.indexAddr t x i,ty,pos,af,gd⟩ recs K L st=gn (true) ([]) ⟨d,.indexAddr t x i,ty,pos,af,gd⟩ recs K L st (mono (u9 P t (dv L x) (dv L i))):=by
 unfold ia ma m6 gn;simp only [ke,cond_true];have hm:∀ y,y ∈ ([x,i]:List Operand)->dr ⟨d,.indexAddr t x i,ty,pos,af,gd⟩ L y=dv L y:=fun y hy=>fj (by simpa [Op.operands,Call.operands] using hy)
 have hmap:([x,i]:List Operand).map (dr ⟨d,.indexAddr t x i,ty,pos,af,gd⟩ L)=([x,i]:List Operand).map (dv L):=i5 (fun y hy=>by simpa [Op.operands,Call.operands] using hy);have ho:(⟨d,.indexAddr t x i,ty,pos,af,gd⟩:Oper).op.operands.toList=[x,i]:=by simp [Op.operands,Call.operands]
 rw [Cw,hm x (by simp),hm i (by simp)];rfl
theorem Rw (x):ia P T ⟨d,.nilCheck x,ty,pos,af,gd⟩ recs K L st=gn (true) ([]) ⟨d,.nilCheck x,ty,pos,af,gd⟩ recs K L st (mono (sm (dv L x))):=by
 unfold ia ma m6 gn;simp only [ke,cond_true];have hm:∀ y,y ∈ ([x]:List Operand)->dr ⟨d,.nilCheck x,ty,pos,af,gd⟩ L y=dv L y:=fun y hy=>fj (by simpa [Op.operands,Call.operands] using hy)
 have hmap:([x]:List Operand).map (dr ⟨d,.nilCheck x,ty,pos,af,gd⟩ L)=([x]:List Operand).map (dv L):=i5 (fun y hy=>by simpa [Op.operands,Call.operands] using hy);have ho:(⟨d,.nilCheck x,ty,pos,af,gd⟩:Oper).op.operands.toList=[x]:=by simp [Op.operands,Call.operands]
 rw [E5,hm x (by simp)];rfl
theorem acr (t):ia P T ⟨d,.alloc t,ty,pos,af,gd⟩ recs K L st=gn (true) (reach st.h ga [] []) ⟨d,.alloc t,ty,pos,af,gd⟩ recs K L st (mono (E1 P t)):=by
 unfold ia ma m6 gn;simp only [ke,cond_false];have hm:∀ y,y ∈ ([]:List Operand)->dr ⟨d,.alloc t,ty,pos,af,gd⟩ L y=dv L y:=fun y hy=>fj (by simpa [Op.operands,Call.operands] using hy)
 have hmap:([]:List Operand).map (dr ⟨d,.alloc t,ty,pos,af,gd⟩ L)=([]:List Operand).map (dv L):=i5 (fun y hy=>by simpa [Op.operands,Call.operands] using hy);have ho:(⟨d,.alloc t,ty,pos,af,gd⟩:Oper).op.operands.toList=[]:=by simp [Op.operands,Call.operands]
 rw [ho,hmap];rfl
theorem aec (t ps):ia P T ⟨d,.build t ps,ty,pos,af,gd⟩ recs K L st=gn (true) (reach st.h ga (AV.names.go ((ps.toList.map (·.2)).map (dv L))) []) ⟨d,.build t ps,ty,pos,af,gd⟩ recs K L st (mono (Bz P t (ps.toList.map fun p=>(p.1,dv L p.2)))):=by
 unfold ia ma m6 gn;simp only [ke,cond_false];have hm:∀ y,y ∈ ((ps.toList.map (·.2)):List Operand)->dr ⟨d,.build t ps,ty,pos,af,gd⟩ L y=dv L y:=fun y hy=>fj (by simpa [Op.operands,Call.operands] using hy)
 have hmap:((ps.toList.map (·.2)):List Operand).map (dr ⟨d,.build t ps,ty,pos,af,gd⟩ L)=((ps.toList.map (·.2)):List Operand).map (dv L):=i5 (fun y hy=>by simpa [Op.operands,Call.operands] using hy);have ho:(⟨d,.build t ps,ty,pos,af,gd⟩:Oper).op.operands.toList=(ps.toList.map (·.2)):=by simp [Op.operands,Call.operands]
 rw [ho,hmap];rw [K5,U6 (fun x hx=>by simp [Op.operands];exact ⟨_,by simpa using hx⟩)];rfl
theorem Mu (t n ps):ia P T ⟨d,.buildSlice t n ps,ty,pos,af,gd⟩ recs K L st=gn (true) (reach st.h ga (AV.names.go ((ps.toList.map (·.2)).map (dv L))) []) ⟨d,.buildSlice t n ps,ty,pos,af,gd⟩ recs K L st (mono (qv P t n (ps.toList.map fun p=>(p.1,dv L p.2)))):=by
 unfold ia ma m6 gn;simp only [ke,cond_false];have hm:∀ y,y ∈ ((ps.toList.map (·.2)):List Operand)->dr ⟨d,.buildSlice t n ps,ty,pos,af,gd⟩ L y=dv L y:=fun y hy=>fj (by simpa [Op.operands,Call.operands] using hy)
 have hmap:((ps.toList.map (·.2)):List Operand).map (dr ⟨d,.buildSlice t n ps,ty,pos,af,gd⟩ L)=((ps.toList.map (·.2)):List Operand).map (dv L):=i5 (fun y hy=>by simpa [Op.operands,Call.operands] using hy);have ho:(⟨d,.buildSlice t n ps,ty,pos,af,gd⟩:Oper).op.operands.toList=(ps.toList.map (·.2)):=by simp [Op.operands,Call.operands]
 rw [ho,hmap];rw [Bx,U6 (fun x hx=>by simp [Op.operands];exact ⟨_,by simpa using hx⟩)];rfl
theorem T2 (s u x):ia P T ⟨d,.convert s u x,ty,pos,af,gd⟩ recs K L st=gn (true) (reach st.h ga (AV.names.go ([x].map (dv L))) []) ⟨d,.convert s u x,ty,pos,af,gd⟩ recs K L st (mono (z7 P (dr ⟨d,.convert s u x,ty,pos,af,gd⟩ L) ⟨d,.convert s u x,ty,pos,af,gd⟩ s u (dv L x))):=by
 unfold ia ma m6 gn;simp only [ke,cond_false];have hm:∀ y,y ∈ ([x]:List Operand)->dr ⟨d,.convert s u x,ty,pos,af,gd⟩ L y=dv L y:=fun y hy=>fj (by simpa [Op.operands,Call.operands] using hy)
 have hmap:([x]:List Operand).map (dr ⟨d,.convert s u x,ty,pos,af,gd⟩ L)=([x]:List Operand).map (dv L):=i5 (fun y hy=>by simpa [Op.operands,Call.operands] using hy);have ho:(⟨d,.convert s u x,ty,pos,af,gd⟩:Oper).op.operands.toList=[x]:=by simp [Op.operands,Call.operands]
 rw [ho,hmap];rw [Gw,hm x (by simp)];rfl
theorem ab6 (t x i):ia P T ⟨d,.index t x i,ty,pos,af,gd⟩ recs K L st=gn (true) (reach st.h ga (AV.names.go ([x,i].map (dv L))) []) ⟨d,.index t x i,ty,pos,af,gd⟩ recs K L st (mono (Ek P (dr ⟨d,.index t x i,ty,pos,af,gd⟩ L) ⟨d,.index t x i,ty,pos,af,gd⟩ t x i)):=by
 unfold ia ma m6 gn;simp only [ke,cond_false];have hm:∀ y,y ∈ ([x,i]:List Operand)->dr ⟨d,.index t x i,ty,pos,af,gd⟩ L y=dv L y:=fun y hy=>fj (by simpa [Op.operands,Call.operands] using hy)
 have hmap:([x,i]:List Operand).map (dr ⟨d,.index t x i,ty,pos,af,gd⟩ L)=([x,i]:List Operand).map (dv L):=i5 (fun y hy=>by simpa [Op.operands,Call.operands] using hy);have ho:(⟨d,.index t x i,ty,pos,af,gd⟩:Oper).op.operands.toList=[x,i]:=by simp [Op.operands,Call.operands]
 rw [ho,hmap];rfl
theorem aef (t x l h m):ia P T ⟨d,.slice t x l h m,ty,pos,af,gd⟩ recs K L st=gn (true) (reach st.h ga (AV.names.go ((#[x]++l.toArray++h.toArray++m.toArray).toList.map (dv L))) []) ⟨d,.slice t x l h m,ty,pos,af,gd⟩ recs K L st (mono (D9 P (dr ⟨d,.slice t x l h m,ty,pos,af,gd⟩ L) ⟨d,.slice t x l h m,ty,pos,af,gd⟩ t x l h m)):=by
 unfold ia ma m6 gn;simp only [ke,cond_false];have hm:∀ y,y ∈ ((#[x]++l.toArray++h.toArray++m.toArray).toList:List Operand)->dr ⟨d,.slice t x l h m,ty,pos,af,gd⟩ L y=dv L y:=fun y hy=>fj (by simpa [Op.operands,Call.operands] using hy)
 have hmap:((#[x]++l.toArray++h.toArray++m.toArray).toList:List Operand).map (dr ⟨d,.slice t x l h m,ty,pos,af,gd⟩ L)=((#[x]++l.toArray++h.toArray++m.toArray).toList:List Operand).map (dv L):=i5 (fun y hy=>by simpa [Op.operands,Call.operands] using hy);have ho:(⟨d,.slice t x l h m,ty,pos,af,gd⟩:Oper).op.operands.toList=(#[x]++l.toArray++h.toArray++m.toArray).toList:=by simp [Op.operands,Call.operands]
 rw [ho,hmap];rfl
theorem aAy (op t x):ia P T ⟨d,.unOp op t x,ty,pos,af,gd⟩ recs K L st=gn (true) (reach st.h ga (AV.names.go ([x].map (dv L))) []) ⟨d,.unOp op t x,ty,pos,af,gd⟩ recs K L st (mono (lf P (dr ⟨d,.unOp op t x,ty,pos,af,gd⟩ L) ⟨d,.unOp op t x,ty,pos,af,gd⟩ [x])):=by
 unfold ia ma m6 gn;simp only [ke,cond_false];have hm:∀ y,y ∈ ([x]:List Operand)->dr ⟨d,.unOp op t x,ty,pos,af,gd⟩ L y=dv L y:=fun y hy=>fj (by simpa [Op.operands,Call.operands] using hy)
 have hmap:([x]:List Operand).map (dr ⟨d,.unOp op t x,ty,pos,af,gd⟩ L)=([x]:List Operand).map (dv L):=i5 (fun y hy=>by simpa [Op.operands,Call.operands] using hy);have ho:(⟨d,.unOp op t x,ty,pos,af,gd⟩:Oper).op.operands.toList=[x]:=by simp [Op.operands,Call.operands]
 rw [ho,hmap];rfl
theorem apr (x ts):ia P T ⟨d,.call { callee:=.builtin .len,args:=#[x],argTypes:=ts },ty,pos,af,gd⟩ recs K L st=gn (true) ([]) ⟨d,.call { callee:=.builtin .len,args:=#[x],argTypes:=ts },ty,pos,af,gd⟩ recs K L st (mono (yn ((ts[0]?).bind P.underlying) (dv L x))):=by
 unfold ia ma m6 gn;simp only [ke,cond_true];have hm:∀ y,y ∈ ([x]:List Operand)->dr ⟨d,.call { callee:=.builtin .len,args:=#[x],argTypes:=ts },ty,pos,af,gd⟩ L y=dv L y:=fun y hy=>fj (by simpa [Op.operands,Call.operands] using hy)
 have hmap:([x]:List Operand).map (dr ⟨d,.call { callee:=.builtin .len,args:=#[x],argTypes:=ts },ty,pos,af,gd⟩ L)=([x]:List Operand).map (dv L):=i5 (fun y hy=>by simpa [Op.operands,Call.operands] using hy);have ho:(⟨d,.call { callee:=.builtin .len,args:=#[x],argTypes:=ts },ty,pos,af,gd⟩:Oper).op.operands.toList=[x]:=by simp [Op.operands,Call.operands]
 rw [P2,hm x (by simp)];rfl
theorem Zi (s x ts):ia P T ⟨d,.call { callee:=.builtin .append,args:=#[s,x],argTypes:=ts },ty,pos,af,gd⟩ recs K L st=gn (false) (reach st.h ga (AV.names.go ([s,x].map (dv L))) []) ⟨d,.call { callee:=.builtin .append,args:=#[s,x],argTypes:=ts },ty,pos,af,gd⟩ recs K L st (mono (tc P ts[0]? ((ts[1]?).bind P.underlying) (dv L s) (dv L x))):=by
 unfold ia ma m6 gn;simp only [ke,cond_false];have hm:∀ y,y ∈ ([s,x]:List Operand)->dr ⟨d,.call { callee:=.builtin .append,args:=#[s,x],argTypes:=ts },ty,pos,af,gd⟩ L y=dv L y:=fun y hy=>fj (by simpa [Op.operands,Call.operands] using hy)
 have hmap:([s,x]:List Operand).map (dr ⟨d,.call { callee:=.builtin .append,args:=#[s,x],argTypes:=ts },ty,pos,af,gd⟩ L)=([s,x]:List Operand).map (dv L):=i5 (fun y hy=>by simpa [Op.operands,Call.operands] using hy);have ho:(⟨d,.call { callee:=.builtin .append,args:=#[s,x],argTypes:=ts },ty,pos,af,gd⟩:Oper).op.operands.toList=[s,x]:=by simp [Op.operands,Call.operands]
 rw [ho,hmap];rw [Hy,hm s (by simp),hm x (by simp)];rfl
theorem ait (f args ts):ia P T ⟨d,.call { callee:=.value f,args,argTypes:=ts },ty,pos,af,gd⟩ recs K L st=gn (uw T (dv L) ⟨d,.call { callee:=.value f,args,argTypes:=ts },ty,pos,af,gd⟩) (reach st.h ga (AV.names.go ((f::args.toList).map (dv L))) []) ⟨d,.call { callee:=.value f,args,argTypes:=ts },ty,pos,af,gd⟩ recs K L st (Ap T (dv L f) (args.toList.map (dv L))):=by
 unfold ia ma m6 gn;simp only [ke,cond_false];have h1:⟨d,.call { callee:=.value f,args,argTypes:=ts },ty,pos,af,gd⟩=(⟨d,.call { callee:=.value f,args,argTypes:=ts },ty,pos,af,gd⟩:Oper):=rfl;have hf:dr ⟨d,.call { callee:=.value f,args,argTypes:=ts },ty,pos,af,gd⟩ L f=dv L f:=fj (by simp [Op.operands,Call.operands]);have ha:args.toList.map (dr ⟨d,.call { callee:=.value f,args,argTypes:=ts },ty,pos,af,gd⟩ L)=args.toList.map (dv L):=i5 (fun x hx=>by simp [Op.operands,Call.operands];exact .inr (by simpa using hx));have hr:uw T (dr ⟨d,.call { callee:=.value f,args,argTypes:=ts },ty,pos,af,gd⟩ L) ⟨d,.call { callee:=.value f,args,argTypes:=ts },ty,pos,af,gd⟩=uw T (dv L) ⟨d,.call { callee:=.value f,args,argTypes:=ts },ty,pos,af,gd⟩:=by simp only [uw,hf]
 have ho:(⟨d,.call { callee:=.value f,args,argTypes:=ts },ty,pos,af,gd⟩:Oper).op.operands.toList.map (dr ⟨d,.call { callee:=.value f,args,argTypes:=ts },ty,pos,af,gd⟩ L)=(f::args.toList).map (dv L):=by show ((#[f]++args).toList).map _=_;simp only [Array.toList_append,zzw,ha,List.map_cons,hf];rfl
 rw [hr,ho];show Ij _ _ _ _ _ _ _ (Ap T (dr _ L f) (args.toList.map (dr _ L)) _)=_;rw [hf,ha]
theorem Vf (n args ts):uw T (dv L) ⟨d,.call { callee:=.value (.func n),args,argTypes:=ts },ty,pos,af,gd⟩=roT (T.find n):=by simp only [uw,dv];rfl
end ops
theorem ac7 (P T ops K L st):Hn P T ops true K L st=(Q5 ops=true/\(Ik P T ops ops.toList K [] L st\/Q4 P T ops ops.toList K [] L st)):=id rfl
theorem ac3 (n):Ju n []=true:=id rfl
theorem Za (n o r):Ju n (o::r)=(Nat.blt o n && Ju n r):=id rfl
theorem akz (h h'):same h h' []=True:=id rfl
theorem adv (h h' o r):same h h' (o::r)=(h.get o=h'.get o/\same h h' r):=id rfl
theorem acp (h):tp h [] = .nil:=id rfl
theorem Zf (h o r):tp h (o::r)=Tr.set depth (tp h r) o (h.get o):=id rfl
theorem Yd (h1 h):x5 h1 [] h=h:=id rfl
theorem Vh (h1 o r h):x5 h1 (o::r) h=Tr.set depth (x5 h1 r h) o (h1.get o):=id rfl
theorem aer (t ts v vs):jn (t::ts) (v::vs)=(t,v)::jn ts vs:=id rfl
theorem ady (P T f ps A B p Q L0 st0):ayv P T f ps A B p Q L0 st0=(Nat.ble p 1000=true/\Rz P T ps A B p Q L0 st0 (L8 (dv L0 f))):=id rfl
theorem ahv (P T ps A B p Q L0 st0 g bH):Rz P T ps A B p Q L0 st0 (some (g,bH))=Ru P T ps A B p Q L0 st0 bH (Fp P g):=id rfl
theorem ajw (P T ps A B p Q L0 st0 bH nt code):Ru P T ps A B p Q L0 st0 bH (some (nt,code))=(Nat.ble (bH.length+1) nt=true/\∀ l:Nat,sf P T l (qa ps A B L0) p code (ame Q L0) none (cp 0 (.sc (.func (.yield l) #[] #[])::bH)) st0):=id rfl
theorem ac0 (g c):L8 (.fn (.func g) [] c)=some (g,c):=id rfl
theorem Js {P:Program} {T:fc} {l:Nat} {be:Nat} {L:SL} {st:St} {Q:QI} {ps:List Tmp} {ra rb:Code} {L0:SL} {α:Type} {b:Code} (keep:List Nat) (V : α->List AV) (O : α->List (Option bp)) (I : α->Prop) (μ : α->Nat) (x : α) (hx:I x)
 (hv:jc be keep L st=V x) (ho:gh be keep L st=O x)
 (step:∀ x,I x->sf P T l (qa ps (fun p=>wl P T p ra) (fun p=>wl P T p rb) L0) be b (Cm (As be keep (fun vs os=>∃ y,I y /\ μ y < μ x/\vs=V y/\os=O y) (fun _ _ _=>False)) Q) none (jn keep (V x)) (bg (O x))):sf P T l (qa ps (fun p=>wl P T p ra) (fun p=>wl P T p rb) L0) be (.loop b) Q none L st:=
 aAd (keep:=keep) (V:=V) (O:=O) (I:=I) (μ:=μ) (x:=x) (hx:=hx) (hR:=Uq P T) (hv:=hv) (ho:=ho) (step:=step)
theorem Cu {P:Program} {T:fc} {R:Mm} {be:Nat} {L:SL} {st:St} {o:Oper} {K:Option Ex->SL->St->Prop} {args:Array Operand} (keep:List Nat) (h:Dr R (gh be keep L st).length args o.dst K (jn keep (jc be keep L st)) (bg (gh be keep L st))):abk P T R be o K none L st (some args):=⟨rfl,keep,h⟩
theorem Mj (P:Program):∀ s:Sem Value,ev P (do pure (Next.value (<- s)))=(ev P s).map Next.value:=by
 intro s
 induction s with
 |pure b=>rfl
 |program k ih=>exact ih P
 |choose q k ih=>
  simp only [bind,Sem.bind,ev]
  split
  ·exact ih 0
  ·rfl
 |mark m k ih=>exact ih
 |_=>rfl
def alq (m:M AV):M AV:=m
def al6 (a:AV) (m:M AV):M AV:=
 match a.bool with
 |some b=>M.pure (.sc (.bool (!b)))
 |none=>m
theorem avx (b:Bool) (m:M AV):al6 (.sc (.bool b)) m=M.pure (.sc (.bool (!b))):=id rfl
theorem aEs {a:AV} {b:Bool} (h:a.bool=some b):a = .sc (.bool b):=by
 unfold AV.bool AV.exact qz at h;cases a with
 |sc v=>cases v<;>simp at h;rw [h]
 |_=>cases h
theorem Ym (P:Program) (ρ:Operand->AV) (d ty pos af gd) (t:TypeId) (x:Operand):lf P ρ ⟨d,.unOp .not t x,ty,pos,af,gd⟩ [x]=al6 (ρ x) (alq (lf P ρ ⟨d,.unOp .not t x,ty,pos,af,gd⟩ [x])):=by
 unfold al6
 split
 ·rename_i b hb;have hx:=aEs hb;have h2:execOp (fun z=>((ρ z).iu).getD undef) ⟨d,.unOp .not t x,ty,pos,af,gd⟩=(do pure (Next.value (<- Op.unary .not (.bool b)))):=by
   simp only [execOp,hx,AV.iu,Option.getD_some]
  unfold lf mj tm;simp only [List.all_cons,List.all_nil,hx,AV.iu,Option.isSome_some,Bool.and_true,cond_true];rw [h2,Mj];rfl
 ·rfl
theorem acb (P:Program) (T:fc) (ρ:Operand->AV) (d ty pos af gd) (t:TypeId) (x:Operand):gw P T ⟨d,.unOp .not t x,ty,pos,af,gd⟩ ρ=mono (al6 (ρ x) (alq (lf P ρ ⟨d,.unOp .not t x,ty,pos,af,gd⟩ [x]))):=by exact congrArg mono (Ym ..)
theorem aq1 (P:Program) (T:fc) (L:SL) (st:St) (recs:List Rec) (K:List Rec->SL->St->Prop) (d ty pos af gd) (t x):ia P T ⟨d,.unOp .not t x,ty,pos,af,gd⟩ recs K L st=gn true (reach st.h ga (AV.names.go ([x].map (dv L))) []) ⟨d,.unOp .not t x,ty,pos,af,gd⟩ recs K L st (mono (al6 (dv L x) (alq (lf P (dr ⟨d,.unOp .not t x,ty,pos,af,gd⟩ L) ⟨d,.unOp .not t x,ty,pos,af,gd⟩ [x])))):=by rw [aAy];have h:=Ym P (dr ⟨d,.unOp .not t x,ty,pos,af,gd⟩ L) d ty pos af gd t x;rw [fj (by simp [Op.operands])] at h;rw [<- h]
theorem Wl (l:List UInt8):bytesOf (l.map Es)=some l:=by rw [I4,Bb]
theorem Tw (a b:ByteArray):Cx.mr [.sc (.string a),.sc (.string b)]=M.pure (.sc (goInt (Lib.compareBytes a.data.toList b.data.toList))):=by unfold Cx.mr cellsIn;simp only [Nat.beq_refl,cond_true];unfold M.bind M.pure;simp only [Wl];rfl
theorem Lv {α:Type} (C:dp α) (f:Bool) (h:C.sz=1) (ha:C.agg=false) (l:List α):(l.map (C.val f)).flatMap AV.cells=l.map (C.val f):=by
 induction l with
 |nil=>rfl
 |cons x l ih=>
  simp only [List.map_cons,List.flatMap_cons,ih];obtain ⟨c,h1,h2,_⟩:=C.one ha f x;have:C.val f x=c:=by simp [dp.val,ha,h1]
  rw [this,h2];rfl
theorem T8 (f g:Bool) (a b:List UInt8):Cx.mr [.vl f 1 (a.map (ca.val f)),.vl g 1 (b.map (ca.val g))]=M.pure (.sc (goInt (Lib.compareBytes a b))):=by unfold Cx.mr cellsIn;simp only [Nat.beq_refl,cond_true,Lv ca _ rfl rfl];unfold M.bind M.pure;simp only [Bb];rfl
theorem Ue {L:SL} {d ty pos af gd} {op t u x y}:dr ⟨d,.binOp op t x y u,ty,pos,af,gd⟩ L x=dv L x:=fj (by simp [Op.operands])
theorem T9 {L:SL} {d ty pos af gd} {op t u x y}:dr ⟨d,.binOp op t x y u,ty,pos,af,gd⟩ L y=dv L y:=fj (by simp [Op.operands])
theorem Uh {L:SL} {d ty pos af gd} {i t x}:dr ⟨d,.index t x i,ty,pos,af,gd⟩ L x=dv L x:=fj (by simp [Op.operands])
theorem U8 {L:SL} {d ty pos af gd} {i t x}:dr ⟨d,.index t x i,ty,pos,af,gd⟩ L i=dv L i:=fj (by simp [Op.operands])
theorem Xd {L:SL} {d ty pos af gd} {h l m t x}:dr ⟨d,.slice t x l h m,ty,pos,af,gd⟩ L x=dv L x:=fj (by simp [Op.operands])
theorem Yy {L:SL} {d ty pos af gd} {h l m t x}:dr ⟨d,.slice t x (some l) h m,ty,pos,af,gd⟩ L l=dv L l:=fj (by simp [Op.operands])
theorem Wu {L:SL} {d ty pos af gd} {h l m t x}:dr ⟨d,.slice t x l (some h) m,ty,pos,af,gd⟩ L h=dv L h:=fj (by simp [Op.operands])
def Cd (P:Program) (ρ:Operand->AV) (o:Oper) (l:List Operand):M AV:=lf P ρ o l
def ail (u:Option TypeDesc) (a ix:AV) (m:M AV):M AV:=
 match u with
 |some .string=>
  match a with
  |.sc (.string s)=>
   match ix with
   |.sc (.int _ n)=>
    match (bif decide (0<=n) then s.data.toList[n.toNat]? else none) with
    |some b=>M.pure (.sc (.int .u8 b.toNat))
    |none=>m
   |_=>m
  |_=>m
 |_=>m
theorem aj4 (s:ByteArray) (k:IntKind) (n:Int) (m:M AV):ail (some .string) (.sc (.string s)) (.sc (.int k n)) m=match (bif decide (0<=n) then s.data.toList[n.toNat]? else none) with|some b=>M.pure (.sc (.int .u8 b.toNat))|none=>m:=id rfl
theorem Rp (P:Program) (ρ:Operand->AV) (d ty pos af gd) (t:TypeId) (x i:Operand):lf P ρ ⟨d,.index t x i,ty,pos,af,gd⟩ [x,i]=ail (P.underlying t) (ρ x) (ρ i) (Cd P ρ ⟨d,.index t x i,ty,pos,af,gd⟩ [x,i]):=by
 unfold ail
 split
 ·rename_i hu
  split
  ·rename_i s hx
   split
   ·rename_i k n hi
    split
    ·rename_i b hb;cases h0:decide (0<=n) with
     |false=>rw [h0] at hb;cases hb
     |true=>
     rw [h0,cond_true] at hb;have h0 : 0<=n:=by simpa using h0
     have hb':s[n.toNat]? = some b:=by obtain ⟨h1,h2⟩:=zg.1 hb;simp at h1;rw [getElem?_pos s n.toNat (by simpa using h1)];rw [<- h2];rfl
     have h2:execOp (fun z=>((ρ z).iu).getD undef) ⟨d,.index t x i,ty,pos,af,gd⟩=(do pure (Next.value (<- Instr.index t (.string s) (.int k n)))):=by simp only [execOp,hx,hi,AV.iu,Option.getD_some]
     unfold lf mj tm;simp only [List.all_cons,List.all_nil,hx,hi,AV.iu,Option.isSome_some,Bool.and_true,cond_true];rw [h2,Mj];have h3:ev P (Instr.index t (.string s) (.int k n))=some (.int .u8 b.toNat):=by simp [Instr.index,asIntOf,underlying,program,ev,hu,h0,hb',bind,Sem.bind,pure]
     rw [h3];rfl
    ·rfl
   ·rfl
  ·rfl
 ·rfl
theorem V6 (a n:Nat):(a:Int).fdiv (n:Int)=((a / n:Nat):Int):=by rw [Int.fdiv_eq_ediv_of_nonneg _ zO];rfl
theorem aj9 (a:Nat):(a:Int).fdiv 256=((a / 256:Nat):Int):=V6 a 256
theorem Xz (a:Nat):(a:Int).fdiv 65536=((a / 65536:Nat):Int):=V6 a 65536
theorem Ox (a:Nat):(a:Int).fdiv 16777216=((a / 16777216:Nat):Int):=V6 a 16777216
theorem ako (f:Nat) (m) (T:fc):fc.find ((f,m)::T) f=some m:=by simp [fc.find]
theorem aes (f g:Nat) (m) (T:fc) (h:(f == g)=false):fc.find ((f,m)::T) g=fc.find T g:=by
 have e:f≠g:=by simpa using h
 simp [fc.find,sd e]
end
end Go.Vm
end
namespace Go.Vm
variable [TK]
noncomputable section
def Ec (P:Program) (t:TypeId):Option (Nat × Nat × Nat):=
 match qp P t with
 |some e=>
  match dw P e,lj P e,gk P e with
  |some sz,some bytes,some z=>bif Nat.blt 0 sz && Nat.blt 0 bytes && Nat.beq z.cells.size sz then some (e,sz,bytes) else none
  |_,_,_=>none
 |none=>none
def ai0 (q:Option (Nat × Nat × Nat)) (s x:AV):M AV:=
 match q with
 |some (e,sz,bytes)=>(cellsIn sz x).bind (v5 e sz bytes s)
 |none=>M.fail
theorem ayy (e sz bytes s x):ai0 (some (e,sz,bytes)) s x=(cellsIn sz x).bind (v5 e sz bytes s):=id rfl
theorem Z2 (P:Program) (t e:TypeId) (s x:AV):tc P (some t) (some (.slice e)) s x=ai0 (Ec P t) s x:=by
 unfold tc ai0 Ec;simp only [Option.bind_some];cases qp P t with
 |none=>rfl
 |some e=>
  simp only;cases dw P e with
  |none=>rfl
  |some sz=>
   cases lj P e with
   |none=>rfl
   |some bytes=>
    cases gk P e with
    |none=>rfl
    |some z=>
     simp only;cases (Nat.blt 0 sz && Nat.blt 0 bytes && Nat.beq z.cells.size sz)<;>rfl
theorem Zr (P:Program) (t:TypeId) (s x:AV):tc P (some t) (some .string) s x=ai0 (Ec P t) s x:=by
 unfold tc ai0 Ec;simp only [Option.bind_some];cases qp P t with
 |none=>rfl
 |some e=>
  simp only;cases dw P e with
  |none=>rfl
  |some sz=>
   cases lj P e with
   |none=>rfl
   |some bytes=>
    cases gk P e with
    |none=>rfl
    |some z=>
     simp only;cases (Nat.blt 0 sz && Nat.blt 0 bytes && Nat.beq z.cells.size sz)<;>rfl
theorem T4 (e sz bytes new):v5 e sz bytes (.sc (.slice none 0 0)) new=bif new.isEmpty then M.pure (.sc (.slice none 0 0)) else bif Nat.ble (new.length * bytes) 140737488355328 then xa e sz (new.length / sz) new else M.fail:=id rfl
theorem Yb (e sz bytes o off len bC new):v5 e sz bytes (.sl o off len bC) new=bif Nat.beq sz bC then (er o).bind (Jp e sz bytes o off len new) else M.fail:=id rfl
theorem Tz (e sz bytes o off len new cells k st et):Jp e sz bytes o off len new (.row cells k st et)=(bif Nat.beq et e && new.all AV.one && Nat.ble (off+len * sz) cells.length && Nat.ble ((len * sz+new.length) * bytes) 140737488355328 then
 bif Nat.ble k (off+len * sz) then
  (Nh o).bind fun _=>(oz (.row ((cells.take (off+len * sz)).drop off++new) (k - off) (py (ny off (len * sz) cells.length) st) et)).bind fun id=>M.pure (.sl id 0 (len+new.length / sz) sz)
 else bif new.isEmpty then M.pure (.sl o off len sz)
 else M.fail
 else M.fail):=id rfl
theorem aCs:py true 0=0:=id rfl
theorem ao4 (n):ny 0 n n=true:=by simp [ny]
theorem aqn (n m):ny 0 n m=Nat.beq n m:=id rfl
def cellsOf {α:Type} (C:dp α) (f:Bool) (xs:List α):List AV:=xs.flatMap (C.cells f)
theorem T1 {α:Type} (C:dp α) (f):cellsOf C f []=[]:=id rfl
theorem A6 {α:Type} (C:dp α) (f) (xs:List α):(cellsOf C f xs).length=xs.length * C.sz:=by
 induction xs with
 |nil=>simp [cellsOf]
 |cons x xs ih=>
  simp only [cellsOf] at ih;simp [cellsOf,C.len,ih,Nat.succ_mul];omega
theorem Fo {α:Type} (C:dp α) (f) (xs ys:List α):cellsOf C f (xs++ys)=cellsOf C f xs++cellsOf C f ys:=by simp [cellsOf]
theorem U7 {α:Type} (C:dp α) (f) (x : α):cellsOf C f [x]=C.cells f x:=by simp [cellsOf]
theorem yh {α:Type} (C:dp α) (f) (xs:List α):(cellsOf C f xs).all AV.one=true:=by rw [zz8];intro c hc;obtain ⟨x,_,hx⟩:=List.mem_flatMap.1 hc;exact (C.pl f x c hx).one
theorem O7 {α:Type} (C:dp α) (f) (xs:List α):AV.names.go (cellsOf C f xs)=[]:=K4 (fun c hc=>by obtain ⟨x,_,hx⟩:=List.mem_flatMap.1 hc;exact (C.pl f x c hx).names)
theorem Vk {α:Type} (C:dp α) (τ) (f) (xs:List α):(cellsOf C f xs).map (AV.de τ)=cellsOf C f xs:=by
 rw [<- jt];exact Wg (fun c hc=>by obtain ⟨x,_,hx⟩:=List.mem_flatMap.1 hc;exact (C.pl f x c hx).de τ)
theorem Ih {α:Type} (C:dp α) (f) (xs:List α) (i:Nat):(cellsOf C f xs).drop (i * C.sz)=cellsOf C f (xs.drop i):=by
 induction xs generalizing i with
 |nil=>simp [cellsOf]
 |cons x xs ih=>
  cases i with
  |zero=>simp
  |succ i=>
   have:(i+1) * C.sz=C.sz+i * C.sz:=by rw [Nat.succ_mul];omega
   rw [this,<- List.drop_drop];have h1:(cellsOf C f (x::xs)).drop C.sz=cellsOf C f xs:=by
    have h2:cellsOf C f (x::xs)=C.cells f x++cellsOf C f xs:=by simp [cellsOf]
    rw [h2,<- C.len f x,List.drop_left]
   rw [h1,ih,List.drop_succ_cons]
theorem ak4 {α:Type} (C:dp α) (f) (xs:List α) (i:Nat):(cellsOf C f xs).take (i * C.sz)=cellsOf C f (xs.take i):=by
 induction xs generalizing i with
 |nil=>simp [cellsOf]
 |cons x xs ih=>
  cases i with
  |zero=>simp [cellsOf]
  |succ i=>
   have h2:cellsOf C f (x::xs)=C.cells f x++cellsOf C f xs:=by simp [cellsOf]
   have:(i+1) * C.sz=(C.cells f x).length+i * C.sz:=by rw [Nat.succ_mul,C.len];omega
   rw [h2,this,List.take_length_add_append,ih,List.take_succ_cons];simp [cellsOf]
theorem qu {α:Type} (C:dp α) (f) (x : α) (xs:List α):cellsOf C f (x::xs)=C.cells f x++cellsOf C f xs:=by simp [cellsOf]
theorem Eh {α:Type} {xs:List α} {i:Nat} {x : α} (h:xs[i]? = some x):xs.drop i=x::xs.drop (i+1):=by obtain ⟨h1,h2⟩:=zg.1 h;rw [<- h2];exact zzs h1
theorem Hw {α:Type} (C:dp α) (f) (xs:List α):(xs.map (C.val f)).flatMap AV.cells=cellsOf C f xs:=by rw [List.flatMap_map];congr 1;funext x;exact C.B4 f x
def A5 (fr:Bool) (st sz:Nat) (kd:LK) (et:TypeId):Bool:=!fr || (Nat.beq st 0 && Qp sz kd et)
theorem aDi (st sz kd et):A5 false st sz kd et=true:=id rfl
theorem aCr (sz kd et):A5 true 0 sz kd et=Qp sz kd et:=id rfl
theorem aa4 {fr:Bool} {st n sz:Nat} {kd:LK} {et:TypeId} (h:A5 fr st sz kd et=true):Bg fr sz kd st 0 (n * sz) n et=true:=by
 cases fr with
 |false=>rfl
 |true=>
  simp only [A5,Bool.not_true,Bool.false_or,zzh] at h;simp [Bg,h.1,h.2]
theorem nv {α:Type} (C:dp α) (fr:Bool) (h:Tr bp) (f:Bool) (xs:List α) (k st et) (n:Nat) (hn:n=xs.length) (hf:(f || !fr)=true) (hro:A5 fr st C.sz C.kd et=true):kl C fr h 0 n (.row (cellsOf C f xs) k st et)=some xs:=by subst hn;simp only [kl,Nat.zero_add,A6,Nat.ble_self_eq_true,Bool.true_and,aa4 hro,cond_true,List.drop_zero];have:(cellsOf C f xs).take (xs.length * C.sz)=cellsOf C f xs:=zzp (by rw [A6];exact zza _);rw [this];exact acy C fr h f (fun e=>by subst e;simpa using hf) xs
theorem Yv {α:Type} (C:dp α) (fr h k st et) (hro:A5 fr st C.sz C.kd et=true):kl C fr h 0 0 (.row [] k st et)=some []:=by
 have h0:Bg fr C.sz C.kd st 0 0 0 et=true:=by have:=aa4 (n:=0) hro;rwa [Nat.zero_mul] at this
 have h1:Nat.ble 0 0=true:=rfl;simp [kl,Ay,h0,h1]
def sy {α:Type} (C:dp α) (fr:Bool) (h:Tr bp):List AV->Option (List α)
 | []=>some []
 |a::l=>match C.dec fr h [a],sy C fr h l with
  |some x,some xs=>some (x::xs)
  |_,_=>none
def aGk {α:Type} (a b:Option (List α)):Option (List α):=match a,b with|some x,some y=>some (x++y)|_,_=>none
def aC3 {α:Type} (a:Option α) (b:Option (List α)):Option (List α):=match a,b with|some x,some y=>some (x::y)|_,_=>none
theorem ay3 {α:Type} (a b:List α):aGk (some a) (some b)=some (a++b):=id rfl
theorem aqc {α:Type} (a : α) (b:List α):aC3 (some a) (some b)=some (a::b):=id rfl
theorem Wr {α:Type} (C:dp α) (fr h):sy C fr h []=some []:=id rfl
theorem Ji {α:Type} (C:dp α) (fr h a l):sy C fr h (a::l)=aC3 (C.dec fr h [a]) (sy C fr h l):=id rfl
theorem Wh {α:Type} (C:dp α) (fr h):∀ a b,sy C fr h (a++b)=aGk (sy C fr h a) (sy C fr h b)
 | [],b=>by simp only [List.nil_append,Wr];cases sy C fr h b<;>rfl
 |x::a,b=>by simp only [List.cons_append,Ji,Wh C fr h a b];cases C.dec fr h [x]<;>cases sy C fr h a<;>cases sy C fr h b<;>rfl
theorem ahe {α:Type} (C:dp α) (hz:C.sz=1) (fr h):∀ cells:List AV,Ay C fr h cells.length cells=sy C fr h cells
 | []=>rfl
 |a::l=>by
  have h1:(a::l).take C.sz=[a]:=by rw [hz];rfl
  have h2:(a::l).drop C.sz=l:=by rw [hz];rfl
  simp only [List.length_cons,Ay,h1,h2,ahe C hz fr h l];rfl
theorem Aw {α:Type} (C:dp α) (hz:C.sz=1) (fr h n cells k st et) (hn:n=cells.length) (hro:A5 fr st 1 C.kd et=true):kl C fr h 0 n (.row cells k st et)=sy C fr h cells:=by
 subst hn;have h0:Bg fr 1 C.kd st 0 cells.length cells.length et=true:=by have:=aa4 (n:=cells.length) hro;rwa [Nat.mul_one] at this
 simp only [kl,hz,Nat.mul_one,Nat.zero_add,Nat.ble_self_eq_true,Bool.true_and,h0,cond_true,List.drop_zero,zz7];exact ahe C hz fr h cells
theorem Ip {α:Type} (C:dp α) (hz:C.sz=1) (ha:C.agg=false) (fr h f) (hf:fr=true->f=true):∀ l:List α,sy C fr h (l.map (C.val f))=some l
 | []=>rfl
 |x::l=>by
  obtain ⟨c,h1,_⟩:=C.one ha f x;have hv:C.val f x=c:=by simp [dp.val,ha,h1]
  have hd:=C.rt fr h f x hf;rw [h1] at hd;rw [List.map_cons,Ji,Ip C hz ha fr h f hf l,hv,hd];rfl
theorem alw {α β:Type} (f : α -> β) (l:List α) (n:Nat):(l.map f).take n=(l.take n).map f:=List.map_take.symm
theorem ahk {α β:Type} (f : α -> β) (l:List α) (n:Nat):(l.map f).drop n=(l.drop n).map f:=List.map_drop.symm
theorem H7 {α β:Type} (f : α -> β) (l:List α):(l.map f).isEmpty=l.isEmpty:=by cases l<;>rfl
theorem Kd {α:Type} (l:List α) (x : α):(l++[x]).isEmpty=false:=by cases l<;>rfl
theorem Ld (a b:List AV):AV.names.go (a++b)=AV.names.go a++AV.names.go b:=by
 induction a with
 |nil=>rfl
 |cons x a ih=>simp only [List.cons_append,AV.names.go,ih,zzc]
theorem rtT {α:Type} (C:dp α) (h:Tr bp) (x : α):C.gv true h (C.val true x)=some x:=C.K7 true h true x (fun _=>rfl)
theorem rtF {α:Type} (C:dp α) (h:Tr bp) (l:Bool) (x : α):C.gv false h (C.val l x)=some x:=C.K7 false h l x (fun e=>by cases e)
theorem ahx (s:ByteArray):s.data.toList.length=s.size:=by simp
theorem apn {α:Type} {l:List α} {n:Nat} (h:l.length<=n):l.take n=l:=zzp h
theorem aGq {α:Type} (C:dp α) (fr:Bool) (h:Tr bp) (x : α):C.gv fr h (C.val fr x)=some x:=C.K7 fr h fr x (fun e=>e)
theorem bu {a b:Nat} (h:a<=b):decide (a<=b)=true:=by simpa using h
theorem br {a b:Nat} (h:a<b):decide (a<b)=true:=by simpa using h
theorem bt {a b:Int} (h:a<=b):decide (a<=b)=true:=by simpa using h
theorem bq {a b:Int} (h:a<b):decide (a<b)=true:=by simpa using h
theorem ah (x:Int) (h0 : -9223372036854775808<=x) (h1:x<9223372036854775808):IntKind.i64.wrap x=x:=by simp [IntKind.wrap,IntKind.bits,IntKind.signed];omega
theorem zW:type_of% @ah/\type_of% @bu/\type_of% @br/\type_of% @bt/\type_of% @bq:=⟨@ah,@bu,@br,@bt,@bq⟩
theorem ax5 (n:Nat):IntKind.u8.wrap (n:Int)=((UInt8.ofNat n).toNat:Int):=by simp [IntKind.wrap,IntKind.bits,IntKind.signed]
theorem bh {p:Prop} [Decidable p] {X Y:SL->St->Prop} {L st}:yp (.sc (.bool (decide p))) X Y L st=((p->X L st)/\(¬ p->Y L st)):=by by_cases h:p<;>simp [h,Lm,Lr]
theorem cf {a b:Int} {X Y:SL->St->Prop} {L st}:yp (.sc (.bool (a == b))) X Y L st=(((a == b)=true/\a=b->X L st)/\((a == b)=false/\a≠b->Y L st)):=by
 by_cases h:a=b
 ·subst h;simp [Lm]
 ·have:(a == b)=false:=by simpa using h
  simp [h,this,Lr]
theorem dh {a b:Int} {X Y:SL->St->Prop} {L st}:yp (.sc (.bool (a != b))) X Y L st=(((a != b)=true/\a≠b->X L st)/\((a != b)=false/\a=b->Y L st)):=by
 by_cases h:a=b
 ·subst h;simp [Lr]
 ·have:(a != b)=true:=by simpa using h
  simp [h,this,Lm]
theorem adh (P:Program) (T:fc) (ρ:Operand->AV) (d ty pos af gd) (x ts):gw P T ⟨d,.call { callee:=.builtin .cap,args:=#[x],argTypes:=ts },ty,pos,af,gd⟩ ρ=mono (N1 ((ts[0]?).bind P.underlying) (ρ x)):=id rfl
theorem adk (e a n c):N1 (some (.slice e)) (.sc (.slice a n c))=M.pure (.sc (goInt c)):=id rfl
def aCc (P:Program) (q:Option (Nat × Nat × Nat)) (s x:AV):M AV:=
 match q with
 |some (e,sz,bytes)=>
  match Ho P e sz x with
  |some new=>v5 e sz bytes s new
  |none=>M.fail
 |none=>M.fail
theorem axq (P:Program) (e sz bytes s x):aCc P (some (e,sz,bytes)) s x=match Ho P e sz x with|some new=>v5 e sz bytes s new|none=>M.fail:=id rfl
theorem Zq (P:Program) (t:TypeId) (k:IntKind) (s x:AV):tc P (some t) (some (.int k)) s x=aCc P (Ec P t) s x:=by
 unfold tc aCc Ec;simp only [Option.bind_some];cases qp P t with
 |none=>rfl
 |some e=>
  simp only;cases dw P e with
  |none=>rfl
  |some sz=>
   cases lj P e with
   |none=>rfl
   |some bytes=>
    cases gk P e with
    |none=>rfl
    |some z=>
     simp only;cases (Nat.blt 0 sz && Nat.blt 0 bytes && Nat.beq z.cells.size sz)<;>rfl
def ak0 (z:Option Value) (sz:Nat) (n:Int):Option (List AV):=
 match z with
 |some z=>bif decide (0<=n) && decide (n<=1073741824) && Nat.beq z.cells.size sz then some ((List.replicate n.toNat (z.cells.toList.map AV.sc)).flatten) else none
 |none=>none
theorem akn (z sz n):ak0 (some z) sz n=bif decide (0<=n) && decide (n<=1073741824) && Nat.beq z.cells.size sz then some ((List.replicate n.toNat (z.cells.toList.map AV.sc)).flatten) else none:=id rfl
theorem ac4 (P:Program) (e sz:Nat) (k:IntKind) (n:Int):Ho P e sz (.sc (.int k n))=ak0 (gk P e) sz n:=by simp only [Ho,ak0,wm,AV.int,AV.exact,Option.bind_some,intOf,Option.map_some];cases gk P e<;>rfl
theorem ao8 {α:Type} (n:Nat) (x : α):(List.replicate n [x]).flatten=List.replicate n x:=by
 induction n with
 |zero=>rfl
 |succ n ih=>simp [List.replicate_succ,ih]
theorem Uc {α:Type} {n:Nat} {x : α} (h : 0<n):(List.replicate n x).isEmpty=false:=by
 cases n with
 |zero=>omega
 |succ n=>rfl
theorem nc0:((0:Nat):Int)=0:=id rfl
theorem nc1:((1:Nat):Int)=1:=id rfl
theorem ax1 (n:Nat):List.replicate n (AV.sc (.int .u8 0))=(List.replicate n (0:UInt8)).map (ca.val false):=by rw [List.map_replicate];rfl
def auk (P:Program) (u:Option TypeDesc) (x hi:AV) (m:M AV):M AV:=
 match u with
 |some (.slice e)=>
  match dw P e with
  |some _=>
   match x with
   |.sc (.slice none 0 0)=>
    match hi with
    |.sc (.int .i64 0)=>M.pure (.sc (.slice none 0 0))
    |_=>m
   |_=>m
  |none=>m
 |_=>m
theorem awy (P:Program) (e m) (h:(dw P e).isSome=true):auk P (some (.slice e)) (.sc (.slice none 0 0)) (.sc (.int .i64 0)) m=M.pure (.sc (.slice none 0 0)):=by obtain ⟨n,hn⟩:=zzv.1 h;simp only [auk,hn]
theorem Jf (P:Program) (ρ:Operand->AV) (d ty pos af gd) (t:TypeId) (x h:Operand):lf P ρ ⟨d,.slice t x none (some h) none,ty,pos,af,gd⟩ (.slice t x none (some h) none:Op).operands.toList=auk P (P.underlying t) (ρ x) (ρ h) (Cd P ρ ⟨d,.slice t x none (some h) none,ty,pos,af,gd⟩ (.slice t x none (some h) none:Op).operands.toList):=by
 unfold auk
 split
 ·rename_i e hu
  split
  ·rename_i n hn
   split
   ·rename_i hx
    split
    ·rename_i hh;have h2:execOp (fun z=>((ρ z).iu).getD undef) ⟨d,.slice t x none (some h) none,ty,pos,af,gd⟩=(do pure (Next.value (<- Instr.sliceAt t (.slice none 0 0) none (some (.int .i64 0)) none))):=by
      simp only [execOp,hx,hh,AV.iu,Option.getD_some,Option.map_some,Option.map_none]
     have hi:∃ i,P.info? e=some i:=by
      unfold dw at hn;cases hq:P.info? e with
      |none=>rw [hq] at hn;cases hn
      |some i=>exact ⟨i,rfl⟩
     obtain ⟨i,hi⟩:=hi;have h3:ev P (Instr.sliceAt t (.slice none 0 0) none (some (.int .i64 0)) none)=some (.slice none 0 0):=by simp [Instr.sliceAt,Instr.slice,Instr.sliceBounds,Instr.sliceBound,asIntOf,underlying,program,ev,hu,sizeOf,typeInfo,hi,bind,Sem.bind,pure]
     unfold lf mj tm;simp only [Op.operands];simp [hx,hh,AV.iu];rw [h2,Mj,h3];rfl
    ·rfl
   ·rfl
  ·rfl
 ·rfl
def aBn {α:Type} (o sz:Nat) (l:List α):AV:=bif l.isEmpty then .sc (.slice none 0 0) else .sl o 0 l.length sz
def arc (cells:List AV) (k st:Nat) (et:TypeId):List (Option bp):=bif cells.isEmpty then [] else [some (.row cells k st et)]
theorem aws {α:Type} {o sz} {l:List α} (h:l.isEmpty=false):aBn o sz l = .sl o 0 l.length sz:=by simp [aBn,h]
theorem acq {α:Type} (o sz) (l:List α) (c : α):aBn o sz (l++[c]) = .sl o 0 (l.length+1) sz:=by rw [aws (Kd l c)];simp
theorem avi {cells:List AV} {k st et} (h:cells.isEmpty=false):arc cells k st et=[some (.row cells k st et)]:=by simp [arc,h]
theorem aCd {α:Type} {f : α->AV} {l:List α} {k st et} (h:l.isEmpty=false):arc (l.map f) k st et=[some (.row (l.map f) k st et)]:=avi (by rw [H7,h])
theorem ad9 {α:Type} (f : α->AV) (l:List α) (c : α) (k st et):arc ((l++[c]).map f) k st et=[some (.row (l.map f++[f c]) k st et)]:=by rw [aCd (Kd l c)];simp
theorem du {α:Type} {l:List α} {i:Nat} (h:decide ((i:Int)<(l.length:Int))=true):∃ c,l[i]? = some c/\l.drop i=c::l.drop (i+1)/\i<l.length:=by
 have h1:i<l.length:=by simp at h;omega
 exact ⟨l[i],zh h1,zzs h1,h1⟩
theorem eu {α:Type} {l:List α} {i:Nat} (h:decide ((i:Int)<(l.length:Int))=false):l.drop i=[]:=by
 have h1:¬ i<l.length:=by simp at h;omega
 exact zzx zO
def xg (D:List Nat):Nat->List (Option bp)->List (Option bp)
 |_,[]=>[]
 |i,x::r=>(bif Br i D then x else none)::xg D (i+1) r
def Bj (D:List Nat):Nat->List (Option bp)->List (Option bp)
 |_,[]=>[]
 |i,x::r=>(bif Br i D then none else x)::Bj D (i+1) r
theorem aeh (D):∀ (i:Nat) (os:List (Option bp)),(xg D i os).length=os.length
 |_,[]=>rfl
 |i,x::r=>by simp [xg,aeh D (i+1) r]
theorem Pj (D):∀ (i:Nat) (os:List (Option bp)),(Bj D i os).length=os.length
 |_,[]=>rfl
 |i,x::r=>by simp [Bj,Pj D (i+1) r]
theorem ach (D):∀ (os:List (Option bp)) (i j:Nat),((xg D i os)[j]?).join=if (i+j) ∈ D then (os[j]?).join else none
 | [],i,j=>by simp [xg]
 |x::r,i,0=>by
  simp only [xg,List.getElem?_cons_zero,Option.join_some,Nat.add_zero];cases hb:Br i D with
  |true=>rw [if_pos ((Bo i D).1 hb)];rfl
  |false=>rw [if_neg (fun h=>by rw [(Bo i D).2 h] at hb;cases hb)];rfl
 |x::r,i,j+1=>by simp only [xg,List.getElem?_cons_succ];rw [ach D r (i+1) j,show i+1+j=i+(j+1) from by omega]
theorem acg (D):∀ (os:List (Option bp)) (i j:Nat),((Bj D i os)[j]?).join=if (i+j) ∈ D then none else (os[j]?).join
 | [],i,j=>by simp [Bj]
 |x::r,i,0=>by
  simp only [Bj,List.getElem?_cons_zero,Option.join_some,Nat.add_zero];cases hb:Br i D with
  |true=>rw [if_pos ((Bo i D).1 hb)];rfl
  |false=>rw [if_neg (fun h=>by rw [(Bo i D).2 h] at hb;cases hb)];rfl
 |x::r,i,j+1=>by simp only [Bj,List.getElem?_cons_succ];rw [acg D r (i+1) j,show i+1+j=i+(j+1) from by omega]
theorem Hp (os:List (Option bp)) (h:os.length<=dm) (o:Nat):(bg os).h.get o=(os[o]?).join:=by simp only [bg];rw [wi _ _ _ zO,if_pos (zzb _),Nat.sub_zero]
inductive eh (h:Tr bp):AV->AV->Prop
 |same (a:AV):eh h a a
 |data {α:Type} (C:dp α) (fr:Bool) (x : α) (a:AV) (hd:C.gv fr h a=some x):eh h a (C.val fr x)
 |bad (a:AV):eh h a .bad
 |nil (o off sz:Nat):eh h (.sc (.slice none 0 0)) (.sl o off 0 sz)
 |k8 (loc:Bool) (sz:Nat):eh h (.sc (.slice none 0 0)) (.vl loc sz [])
inductive dx (h:Tr bp):List AV->List AV->Prop
 |nil:dx h [] []
 |cons {a b:AV} {l m:List AV} (h1:eh h a b) (h2:dx h l m):dx h (a::l) (b::m)
theorem dx.len {h l m} (hl:dx h l m):m.length=l.length:=by
 induction hl with
 |nil=>rfl
 |cons _ _ ih=>simp [ih]
theorem dx.refl (h):∀ l,dx h l l
 | []=>.nil
 |a::l=>.cons (.same a) (dx.refl h l)
theorem dx.get {h l m} (hl:dx h l m):∀ (i:Nat) b,m[i]? = some b->∃ a,l[i]? = some a/\eh h a b:=by
 induction hl with
 |nil=>intro i b hb;simp at hb
 |cons h1 h2 ih=>
  intro i b hb;cases i with
  |zero=>simp at hb;subst hb;exact ⟨_,rfl,h1⟩
  |succ i=>exact ih i b (by simpa using hb)
inductive bw (h:Tr bp):List (Option bp)->List (Option bp)->Prop
 |nil:bw h [] []
 |ghost {st et m} (h2:bw h [] m):bw h [] (some (.row [] 0 st et)::m)
 |same {x l m} (h2:bw h l m):bw h (x::l) (x::m)
 |gone {x l m} (h2:bw h l m):bw h (x::l) (none::m)
 |row {cells cells' k st et l m} (h1:dx h cells cells') (h2:bw h l m):bw h (some (.row cells k st et)::l) (some (.row cells' k st et)::m)
theorem bw.refl (h):∀ l,bw h l l
 | []=>.nil
 |x::l=>.same (bw.refl h l)
theorem bw.len {h l m} (hl:bw h l m):l.length<=m.length:=by induction hl<;>simp_all
theorem bw.get {h l m} (hl:bw h l m):∀ (i:Nat) y,(m[i]?).join=some y->(l[i]?).join=some y\/(∃ cells cells' k st et,y = .row cells' k st et/\(l[i]?).join=some (.row cells k st et)/\dx h cells cells')\/(l.length<=i/\Mh y):=by
 induction hl with
 |nil=>intro i y hy;simp at hy
 | @ghost st et m h2 ih=>
  intro i y hy;cases i with
  |zero=>simp at hy;subst hy;exact .inr (.inr ⟨zza _,st,et,rfl⟩)
  |succ i=>exact .inr (.inr ⟨zzb _,(by
   rcases ih i y (by simpa using hy) with h|⟨_,_,_,_,_,_,h,_⟩|h
   ·simp at h
   ·simp at h
   ·exact h.2)⟩)
 |same h2 ih=>
  intro i y hy;cases i with
  |zero=>exact .inl hy
  |succ i=>exact (ih i y (by simpa using hy)).imp id (Or.imp id (fun h=>⟨Nat.succ_le_succ h.1,h.2⟩))
 |gone h2 ih=>
  intro i y hy;cases i with
  |zero=>simp at hy
  |succ i=>exact (ih i y (by simpa using hy)).imp id (Or.imp id (fun h=>⟨Nat.succ_le_succ h.1,h.2⟩))
 |row h1 h2 ih=>
  intro i y hy;cases i with
  |zero=>simp at hy;subst hy;exact .inr (.inl ⟨_,_,_,_,_,rfl,rfl,h1⟩)
  |succ i=>exact (ih i y (by simpa using hy)).imp id (Or.imp id (fun h=>⟨Nat.succ_le_succ h.1,h.2⟩))
theorem ir.lax {vs vs':List AV} {os os':List (Option bp)} {be:Nat} (D:List Nat) (hlen':os'.length<=dm) (hv:dx (bg (xg D 0 os)).h vs vs') (ho:bw (bg (xg D 0 os)).h (Bj D 0 os) os'):ir be vs os vs' os':=by
 have fQ:os.length<=os'.length:=by have:=ho.len;rw [Pj] at this;exact this
 have hlen:os.length<=dm:=zzu fQ hlen';refine ⟨hv.len,fun q=>zzu q fQ,fun g w us aB bU hr=>?_⟩;obtain ⟨hD,uU⟩:∃ hD,(bg (xg D 0 os)).h=hD:=⟨_,rfl⟩;rw [uU] at hv ho;have er:∀ o,(bg os).h.get o=(os[o]?).join:=Hp os hlen;have nK:∀ o,hD.get o=if o ∈ D then (os[o]?).join else none:=fun o=>by rw [<- uU,Hp _ (by rw [aeh];exact hlen),ach,Nat.zero_add]
 have fZ:∀ o y,(bg os').h.get o=some y->(o ∉ D/\((bg os).h.get o=some y\/∃ cells cells' k st et,y = .row cells' k st et/\(bg os).h.get o=some (.row cells k st et)/\dx hD cells cells'))\/(os.length<=o/\Mh y):=fun o y hy=>by
  rw [Hp _ hlen'] at hy;have iD:∀ z,((Bj D 0 os)[o]?).join=some z->o ∉ D/\(os[o]?).join=some z:=fun z hz=>by
   rw [acg,Nat.zero_add] at hz;by_cases hd:o ∈ D
   ·rw [if_pos hd] at hz;cases hz
   ·rw [if_neg hd] at hz;exact ⟨hd,hz⟩
  rw [er];rcases ho.get o y hy with h1|⟨cells,cells',k,st,et,h1,h2,h3⟩|h1
  ·exact .inl ⟨(iD _ h1).1,.inl (iD _ h1).2⟩
  ·exact .inl ⟨(iD _ h2).1,.inr ⟨cells,cells',k,st,et,h1,(iD _ h2).2,h3⟩⟩
  ·rw [Pj] at h1;exact .inr h1
 have aZ:∀ o x,hD.get o=some x->o ∈ D/\(bg os).h.get o=some x:=fun o x hx=>by
  rw [nK] at hx;by_cases hd:o ∈ D
  ·rw [if_pos hd] at hx;rw [er];exact ⟨hd,hx⟩
  ·rw [if_neg hd] at hx;cases hx
 have mP:Ok g hD w:=aB.part (fun o x hx=>(aZ o x hx).2);obtain ⟨K',eK⟩:∃ K':Nat->Nat->Prop,(fun b j=>g.K b j\/∃ o base cells k s e,hD.get o=some (.row cells k s e)/\g.inj o=some (b,base)/\∃ i,(s=0\/i<cells.length)/\j=base+i)=K':=⟨_,rfl⟩;have hK':∀ b j,K' b j↔(g.K b j\/∃ o base cells k s e,hD.get o=some (.row cells k s e)/\g.inj o=some (b,base)/\∃ i,(s=0\/i<cells.length)/\j=base+i):=fun b j=>by rw [<- eK]
 have nA:yv g hD K':=⟨fun b j h=>(hK' b j).2 (.inl h),fun o cells k s e h b base hi j hj=>(hK' _ _).2 (.inr ⟨o,base,cells,k,s,e,h,hi,j,hj,rfl⟩)⟩;have nB:∀ {a b:AV} {v:Value},eh hD a b->Rel g w a v->Rel { g with K:=K' } w b v:=fun {a b v} hl hrel=>by
  have qA:Rel { g with K:=K' } w a v:=Rel.ext (g:=g) (w:=w) (g':={ g with K:=K' }) (w':=w) ⟨rfl,fun _ _ h=>h,fun b j h=>(hK' b j).2 (.inl h),fun _ _ _=>rfl,fun b cs e fr h=>⟨cs,fr,h,rfl⟩,fun b l h=>⟨l,h⟩,fun _ _ _ _ _ _=>rfl⟩ hrel;cases hl with
  |same=>exact qA
  |data C fr x a hd=>exact (C.okV mP nA (fun _=>zza g.b0) hrel hd).lift (zza _) (fun _ _ h=>h)
  |bad=>exact .bad _
  |nil o off sz=>obtain rfl:=qA.exact rfl;exact .xp _ _ _
  |k8 loc sz=>obtain rfl:=qA.exact rfl;exact .lx _ _
 refine ⟨{ g with K:=K' },⟨aB.size,fun o y hy=>?_,fun o o' x x' b base base' hne hx hx' hb hb'=>?_,fun b j hk=>?_⟩,⟨by rw [hv.len];exact hr.1,fun i b v hb hv'=>?_⟩,rfl,fun o q=>bU o (zzu fQ q),fun _ _=>rfl,fun b j h=>(hK' b j).2 (.inl h),fun o b base bZ hi'=>?_,fun b j hk=>?_⟩
 ·rcases fZ o y hy with ⟨cE,hy⟩|⟨hge,pD⟩
  case inr=>exact .inl ⟨bU o hge,pD⟩
  have uO:∀ b base,g.inj o=some (b,base)->((bg os).h.get o).isSome=true->∀ j,K' b j->g.K b j:=fun b base hi hs j hk=>by
   rcases (hK' b j).1 hk with h|⟨o2,aK,cells,k,s,e,h1,h2,_⟩
   ·exact h
   ·exfalso;obtain ⟨dM,h1'⟩:=aZ o2 _ h1;obtain ⟨x,hx⟩:=zzv.1 hs;exact aB.sep o o2 x _ b base aK (fun e=>cE (by rw [e];exact dM)) hx h1' hi h2
  have aH:Ext g w { g with K:=K' } w:=⟨rfl,fun _ _ h=>h,fun b j h=>(hK' b j).2 (.inl h),fun _ _ _=>rfl,fun b cs e fr h=>⟨cs,fr,h,rfl⟩,fun b l h=>⟨l,h⟩,fun _ _ _ _ _ _=>rfl⟩;rcases hy with hy|⟨cells,cells',k,st,et,rfl,hy,hcl⟩
  ·refine (aB.oa o y hy).imp id ?_;rintro ⟨b,base,h1,h2,h3⟩;exact ⟨b,base,h1,h2,h3.ext aH rfl (fun j hj=>uO b base h1 (by rw [hy];rfl) j hj)⟩
  ·refine (aB.oa o _ hy).imp (fun q=>⟨q.1,by
    obtain ⟨s0,e0,he⟩:=q.2;simp only [bp.row.injEq] at he;obtain ⟨rfl,rfl,rfl,rfl⟩:=he;cases hcl;exact ⟨_,_,rfl⟩⟩) ?_
   rintro ⟨b,base,h1,h2,cs,fr,r1,r2,r3,r4,r5,r6,r7⟩;refine ⟨b,base,h1,h2,cs,fr,r1,by rw [hcl.len];exact r2,fun j c hc=>?_,r4,fun j hj=>r5 j (uO b base h1 (by rw [hy];rfl) j hj),r6,fun e=>by rw [hcl.len];exact r7.1 e,fun e=>by rw [hcl.len];exact r7.2 e⟩;obtain ⟨a,ha,kD⟩:=hcl.get j c hc;obtain ⟨u,hu,qK⟩:=r3 j a ha;exact ⟨u,hu,nB kD qK⟩
 ·have q:∀ o y p,(bg os').h.get o=some y->g.inj o=some p->∃ z,(bg os).h.get o=some z:=fun o y p hy hp=>by
   rcases fZ o y hy with ⟨_,h|⟨_,_,_,_,_,_,h,_⟩⟩|⟨h,_⟩
   ·exact ⟨_,h⟩
   ·exact ⟨_,h⟩
   ·rw [bU o h] at hp;cases hp
  obtain ⟨z,hz⟩:=q o x _ hx hb;obtain ⟨z',hz'⟩:=q o' x' _ hx' hb';exact aB.sep o o' z z' b base base' hne hz hz' hb hb'
 ·rcases (hK' b j).1 hk with h|⟨o,base,cells,k,s,e,h1,h2,_⟩
  ·exact aB.K b j h
  ·obtain ⟨b',base',h3,_,h4⟩:=mP.obj o _ h1;rw [h2] at h3;cases h3;exact h4.lt
 ·obtain ⟨a,ha,kD⟩:=hv.get i b hb;exact nB kD (hr.2 i a v ha hv')
 ·obtain ⟨y,hy⟩:=zzv.1 bZ;rcases fZ o y hy with ⟨_,h|⟨_,_,_,_,_,_,h,_⟩⟩|⟨h,_⟩
  ·exact ⟨o,base,by rw [h];rfl,hi'⟩
  ·exact ⟨o,base,by rw [h];rfl,hi'⟩
  ·have:g.inj o=some (b,base):=hi';rw [bU o h] at this;cases this
 ·rcases (hK' b j).1 hk with h|⟨o,base,cells,k,s,e,h1,h2,_⟩
  ·exact .inl h
  ·exact .inr ⟨o,base,by rw [(aZ o _ h1).2];rfl,h2⟩
theorem J6 {α:Type} {P:Program} {T:fc} {be:Nat} {b:Code} {Q:QL} {L:SL} {st:St} (keep:List Nat) (V : α->List AV) (O : α->List (Option bp)) (I : α->Prop) (μ : α->Nat) (x : α) (hx:I x)
 (hv:ir be (jc be keep L st) (gh be keep L st) (V x) (O x))
 (step:∀ x,I x->wl P T be b (As be keep (fun vs os=>∃ y,I y /\ μ y < μ x/\ir be vs os (V y) (O y)) Q) (jn keep (V x)) (bg (O x))):vu be (wl P T be b) Q L st:=
 vu.aBc keep V O I μ x hx hv (fun _ _ h=>En b _ _ h) step
theorem fg {α:Type} {P:Program} {T:fc} {be:Nat} {b:Code} {Q:QL} {L:SL} {st:St} (keep:List Nat) (V : α->List AV) (O : α->List (Option bp)) (I : α->Prop) (μ : α->Nat) (x : α) (hx:I x)
 (hv:ir be (jc be keep L st) (gh be keep L st) (V x) (O x))
 (step:∀ x,I x->wl P T be b (As be keep (fun vs os=>∃ y,I y /\ μ y < μ x/\vs=V y/\os=O y) Q) (jn keep (V x)) (bg (O x))):vu be (wl P T be b) Q L st:=
 J6 keep V O I μ x hx hv (fun x hi=>En b _ _ (fun e L' st' hq=>by
  cases e with
  |normal=>
   obtain ⟨y,h1,h2,h3,h4⟩:=hq;refine ⟨y,h1,h2,?_⟩;rw [h3,h4];exact .refl _ _ _
  |exit id=>exact hq
  |ret=>exact hq) _ _ (step x hi))
theorem Kz (f) (l):(List.map (ai.val f) l).flatMap AV.cells=l.map (ai.val f):=Lv ai f rfl rfl l
theorem Zb (f) (l):(List.map (ai.val f) l).all AV.one=true:=by rw [<- Kz f l,Hw];exact yh _ _ _
theorem Ow (fr h n cells k st et) (hn:n=cells.length) (hro:A5 fr st 1 .str et=true):kl ai fr h 0 n (.row cells k st et)=sy ai fr h cells:=Aw ai rfl fr h n cells k st et hn hro
theorem aca:ai.kd = .str:=id rfl
theorem Uo (fr h f) (l):sy ai fr h (List.map (ai.val f) l)=some l:=by
 have e:List.map (ai.val f) l=List.map (ai.val true) l:=by cases f<;>rfl
 rw [e];exact Ip ai rfl rfl fr h true (fun _=>rfl) l
theorem Od (f) (l):(List.map (ca.val f) l).flatMap AV.cells=l.map (ca.val f):=Lv ca f rfl rfl l
theorem aey (f) (l):(List.map (ca.val f) l).all AV.one=true:=by rw [<- Od f l,Hw];exact yh _ _ _
theorem P4 (fr h n cells k st et) (hn:n=cells.length) (hro:A5 fr st 1 (.int .u8) et=true):kl ca fr h 0 n (.row cells k st et)=sy ca fr h cells:=Aw ca rfl fr h n cells k st et hn hro
theorem aij:ca.kd=(.int .u8):=id rfl
theorem Xb (fr h f) (l):sy ca fr h (List.map (ca.val f) l)=some l:=by
 have e:List.map (ca.val f) l=List.map (ca.val true) l:=by cases f<;>rfl
 rw [e];exact Ip ca rfl rfl fr h true (fun _=>rfl) l
theorem Ky (f) (l):(List.map (cz.val f) l).flatMap AV.cells=l.map (cz.val f):=Lv cz f rfl rfl l
theorem Zd (f) (l):(List.map (cz.val f) l).all AV.one=true:=by rw [<- Ky f l,Hw];exact yh _ _ _
theorem Oy (fr h n cells k st et) (hn:n=cells.length) (hro:A5 fr st 1 (.int .u32) et=true):kl cz fr h 0 n (.row cells k st et)=sy cz fr h cells:=Aw cz rfl fr h n cells k st et hn hro
theorem ad5:cz.kd=(.int .u32):=id rfl
theorem T3 (fr h f) (l):sy cz fr h (List.map (cz.val f) l)=some l:=by
 have e:List.map (cz.val f) l=List.map (cz.val true) l:=by cases f<;>rfl
 rw [e];exact Ip cz rfl rfl fr h true (fun _=>rfl) l
theorem Ix (f) (l):(List.map (aj.val f) l).flatMap AV.cells=l.map (aj.val f):=Lv aj f rfl rfl l
theorem Vq (f) (l):(List.map (aj.val f) l).all AV.one=true:=by rw [<- Ix f l,Hw];exact yh _ _ _
theorem Lg (fr h n cells k st et) (hn:n=cells.length) (hro:A5 fr st 1 .no et=true):kl aj fr h 0 n (.row cells k st et)=sy aj fr h cells:=Aw aj rfl fr h n cells k st et hn hro
theorem Qb (fr h f) (l) (hf:(f || !fr)=true):sy aj fr h (List.map (aj.val f) l)=some l:=Ip aj rfl rfl fr h f (fun e=>by subst e;simpa using hf) l
theorem Se (fr h l n xs) (hn:n=1) (hl:(l || !fr)=true):gm ai fr h (.vl l n (xs.map (ai.val false)))=some xs:=by
 cases l with
 |true=>exact vv ai fr h true xs n hn hl
 |false=>exact vv ai fr h false xs n hn hl
theorem Y1:ai.val true=ai.val false:=id rfl
theorem Vc (fr h l n xs) (hn:n=1) (hl:(l || !fr)=true):gm ca fr h (.vl l n (xs.map (ca.val false)))=some xs:=by
 cases l with
 |true=>exact vv ca fr h true xs n hn hl
 |false=>exact vv ca fr h false xs n hn hl
theorem ac9:ca.val true=ca.val false:=id rfl
theorem Pt (fr h l n xs) (hn:n=1) (hl:(l || !fr)=true):gm cz fr h (.vl l n (xs.map (cz.val false)))=some xs:=by
 cases l with
 |true=>exact vv cz fr h true xs n hn hl
 |false=>exact vv cz fr h false xs n hn hl
theorem X4:cz.val true=cz.val false:=id rfl
theorem Zz (fr h s):ai.dec fr h [.sc (.string s)]=some s:=id rfl
theorem acj (fr h) (c:UInt8):ca.dec fr h [.sc (.int .u8 c.toNat)]=some c:=ca.rt fr h true c (fun _=>rfl)
theorem Zs (fr h) (c:UInt16):cj.dec fr h [.sc (.int .u16 c.toNat)]=some c:=cj.rt fr h true c (fun _=>rfl)
theorem Xj (fr h) (c:UInt32):cz.dec fr h [.sc (.int .u32 c.toNat)]=some c:=cz.rt fr h true c (fun _=>rfl)
theorem Ux (fr h b):bk.dec fr h [.sc (.bool b)]=some b:=id rfl
theorem Vd (fr h a):aj.dec fr h [a]=gm ai fr h a:=id rfl
theorem adm (a b:List AV):AV.fresh.go (a++b)=(AV.fresh.go a && AV.fresh.go b):=by
 induction a with
 |nil=>rfl
 |cons x a ih=>simp only [List.cons_append,AV.fresh.go,ih,Bool.and_assoc]
theorem ali (f) (l:List UInt8):AV.fresh.go (l.map (ca.val f))=true:=by
 induction l with
 |nil=>rfl
 |cons x l ih=>simp only [List.map_cons,AV.fresh.go,ih];rfl
theorem Uj (f) (c:Name):(aj.val f c).one=true:=id rfl
theorem Ot (f) (c:Name):(aj.val f c).cells=[aj.val f c]:=id rfl
theorem ac2 (fr h a):(cg ca).dec fr h [a]=gm ca fr h a:=id rfl
theorem Rr (fr h n cells k st et) (hn:n=cells.length) (hro:A5 fr st 1 .no et=true):kl (cg ca) fr h 0 n (.row cells k st et)=sy (cg ca) fr h cells:=Aw (cg ca) rfl fr h n cells k st et hn hro
structure gj (B:fi) (nt:NT) (L:SL) (st:St) (g:Gh) (a:Act) (w:World):Prop where
 cur:kz B g st w
 sl:js g w nt L a.tmps
 Cc:Marks B.D B.n0 st.h g w a.defers
theorem vg.n0 {B:fi} {n d g h w} (q:vg B g h w):vg { B with n0:=n,D:=d } g h w:=⟨q.b0,q.pins,q.K,q.cell,q.size,q.os,q.tape,q.output,q.frame,q.own,q.ox,q.ta,q.lp,q.whole⟩
theorem vg.aDd {B:fi} {n d g h w} (q:vg { B with n0:=n,D:=d } g h w):vg B g h w:=⟨q.b0,q.pins,q.K,q.cell,q.size,q.os,q.tape,q.output,q.frame,q.own,q.ox,q.ta,q.lp,q.whole⟩
theorem kz.n0 {B:fi} {n d g st w} (q:kz B g st w):kz { B with n0:=n,D:=d } g st w:=⟨q.ok,q.fresh,q.base.n0,q.be⟩
theorem piece {P:Program} [KP P] {T:fc} (hT:ar P T) (hm:P.follows .mixedOrders=true) {N:Nat} {B:fi} {nt:NT} (aG:B.k6) (hp:B.be<=1000) (aN:B.n0<=B.w.heap.size) {c:Code} (hs:ey nt c=true) {Q:QL} {L:SL} {st:St} {g:Gh} {a:Act} {w:World}
 (h:wl P T B.be c Q L st) (hh:gj B nt L st g a w) :
 c.wpIn (fu none) N P (fun ex a' w'=>∃ e L' st' g',ex=uo e/\Q e L' st'/\gj B nt L' st' g' a' w'/\vg (ku g st.h w B.be (fun _=>False)) g' st'.h w') a w:=by
 have hc1:kz { ku g st.h w B.be (fun _=>False) with n0:=B.n0,D:=B.D } g st w:=(hh.cur.Po B.be (fun _=>False) hh.cur.be (fun o h=>(aG o h).elim)).n0;refine wpIn_mono (af2 hT hm (N:=N) (B:={ ku g st.h w B.be (fun _=>False) with n0:=B.n0,D:=B.D }) (nt:=nt) (fun _ h=>h) hp (zzu aN hh.cur.base.size) c hs Q L st g w a h hc1 hh.sl hh.Cc) ?_;rintro ex a' w' ⟨e,L',st',g',rfl,hq,hc',hr',bA⟩;have hb:=hc'.base.aDd (B:=ku g st.h w B.be (fun _=>False));exact ⟨e,L',st',g',rfl,hq,⟨⟨hc'.ok,fun o h1 _=>hc'.fresh o h1 (fun h=>h),hh.cur.base.comp hb (zza _) (fun o h=>(aG o h).elim) (fun _ h=>h.elim),hc'.be⟩,hr',bA⟩,hb⟩
structure Sh (g:Gh) (w:World) (g':Gh) (w':World):Prop where
 b0:g'.b0=g.b0
 K:∀ b j,g.K b j->g'.K b j
 cell:∀ b j,g.K b j->w'.cell? ⟨b,j,none⟩=w.cell? ⟨b,j,none⟩
 ta:∀ (b:Nat) (cs:Array Value) (e:TypeId) (fr:Nat × Nat),w.heap[b]? = some (Obj.cells cs e fr)->∃ (cs':Array Value) (cX:Nat × Nat),w'.heap[b]? = some (Obj.cells cs' e cX)/\cs'.size=cs.size
 lp:∀ (b:Nat) (l:Loop),w.heap[b]? = some (Obj.loop l)->∃ l',w'.heap[b]? = some (Obj.loop l')
 whole:∀ (b:Nat) (cs:Array Value) (e:TypeId) (fr:Nat × Nat),w.heap[b]? = some (Obj.cells cs e fr)->(∀ j,g.K b j)->w'.heap[b]? = w.heap[b]?
theorem Sh.more {g g':Gh} {w:World} (h1:g'.b0=g.b0) (h2:∀ b j,g.K b j->g'.K b j):Sh g w g' w:=⟨h1,h2,fun _ _ _=>rfl,fun b cs e fr h=>⟨cs,fr,h,rfl⟩,fun b l h=>⟨l,h⟩,fun _ _ _ _ _ _=>rfl⟩
theorem Rel.plain {g g' w w' a v} (ha:a.de (fun _=>none)=a) (h:Rel g w a v) (hl:Sh g w g' w'):Rel g' w' a v:=by have h1:=h.de (τ:=fun _=>none) (N:=[]) (fun o p e=>by cases e);rw [ha] at h1;have hx:Ext (g.de []) w g' w':=⟨hl.b0,fun o p e=>(by cases e),hl.K,hl.cell,hl.ta,hl.lp,hl.whole⟩;exact h1.ext hx
def Sp (cells:List AV):Prop:=AV.de.go (fun _=>none) cells=cells
theorem ayn {cells:List AV} (h:Sp cells) {j:Nat} {a:AV} (ha:cells[j]? = some a):a.de (fun _=>none)=a:=by unfold Sp at h;rw [jt] at h;have:=congrArg (·[j]?) h;simp only [zzj,ha,Option.map_some,Option.some.injEq] at this;exact this
theorem avg {g w g' w' b base cells k s et} (hcl:Sp cells) (hl:Sh g w g' w') (hh:w'.heap[b]? = w.heap[b]?) (hK:∀ j,g'.K b j->g.K b j) (h:nw g w b base (.row cells k s et)):nw g' w' b base (.row cells k s et):=by obtain ⟨cs,fr,h1,h2,h3,h4,h5,h6⟩:=h;refine ⟨cs,fr,hh.trans h1,h2,fun j a ha=>?_,h4,fun j hj=>h5 j (hK j hj),h6⟩;obtain ⟨c,hc,hr⟩:=h3 j a ha;exact ⟨c,hc,hr.plain (ayn hcl ha) hl⟩
theorem gj.canon {B:fi} {nt L st g a w} (aG:B.k6) (hp:B.be<=1000) (keep:List Nat) (h:gj B nt L st g a w):gj B nt (jn keep (jc B.be keep L st)) (bg (gh B.be keep L st)) (g.de (jd B.be keep L st)) a w:=
 ⟨(H3 aG hp keep h.cur h.sl).1,(H3 aG hp keep h.cur h.sl).2,Ff hp keep h.Cc⟩
theorem gj.congr {B:fi} {nt L st g a w} {st':St} (hh:gj B nt L st g a w) (hn:st'.nx=st.nx) (hg:∀ o,st'.h.get o=st.h.get o):gj B nt L st' g a w:=by have hb:=hh.cur.base;refine ⟨⟨⟨hh.cur.ok.size,fun o x hx=>hh.cur.ok.oa o x (by rw [<- hg];exact hx),fun o o' x x' b1 aS aK hne hx hx'=>hh.cur.ok.sep o o' x x' b1 aS aK hne (by rw [<- hg];exact hx) (by rw [<- hg];exact hx'),hh.cur.ok.K⟩,by rw [hn];exact hh.cur.fresh,⟨hb.b0,hb.pins,hb.K,hb.cell,hb.size,hb.os,hb.tape,hb.output,hb.frame,fun o b1 aS h1=>hb.own o b1 aS (by rw [<- hg];exact h1),hb.ox,hb.ta,hb.lp,hb.whole⟩,by rw [hn];exact hh.cur.be⟩,hh.sl,?_⟩;obtain ⟨bs,m1,m2,m3⟩:=hh.Cc;exact ⟨bs,m1,m2,fun c hc=>⟨(m3 c hc).1,(m3 c hc).2.1,fun o aS h1=>(m3 c hc).2.2 o aS (by rw [<- hg];exact h1)⟩⟩
theorem asm {P:Program} [KP P] {N:Nat} {F:Fence} {c:Code} {Q:Exit->Act->World->Prop} {α:Type} (I : α->Act->World->Prop) (μ : α->Nat)
 (h:∀ x a w,I x a w->c.wpIn F N P (Exit.then (fun a' w'=>∃ y,μ y < μ x/\I y a' w') Q) a w) (x : α) (a:Act) (w:World) (hi:I x a w):(Code.loop c).wpIn F N P Q a w:=by
 refine Cv fun X hX=>?_
 have key:∀ n x a w,μ x=n->I x a w->X a w:=by
  intro n
  induction n using Nat.strongRecOn with
  |_ n ih=>
   intro x a w hn hi;refine hX a w (wpIn_mono (h x a w hi) ?_);intro ex a' w' hq;cases ex with
   |normal=>
    obtain ⟨y,h1,h2⟩:=hq;exact ih (μ y) zO y a' w' rfl h2
   |exit id=>exact hq
   |goto l=>exact hq
   |ret=>exact hq
   |panic ch=>exact hq
   |outgrown=>exact hq
 exact key _ x a w rfl hi
theorem Bt {P:Program} [KP P] {f:Nat} {fn:Func} {body:Code} (hf:P.funcs[f]? = some fn) (hb:fn.body=some body) (he:oi P f=true)
 {args:List AV} (hl:args.length<=fn.ntmps) {ρ:Type} (R:RC ρ) (fr:Bool) (x : ρ)
 (h:∀ (B:fi) (g:Gh) (a:Act) (w:World),B.k6->B.be=0->(∀ b,¬ B.O b)->B.n0<=B.w.heap.size->gj B fn.ntmps (cp 0 args) (bg []) g a w->body.wpIn (fu none) 0 P (Fin B fn.ntmps (c9 P fn.results.toList (fun r st=>R.get fr st.h r=some x))) a w):bj P f args (R.E fr x):=by
 intro K w vs hK hrel;refine .inr ⟨si he _ _,xb (ro:=none) (n:=0) (callsIn_of_wp_marks hf hb trivial ?_)⟩
 let B:fi:={ b0:=w.heap.size,w,K,O:=fun _=>False,be:=0,pb:=fun _=>none,n0:=w.heap.size }
 have eB:kz B (gK w.heap.size K) (bg []) w:=by
  refine ⟨⟨zza _,fun o x hx=>?_,fun o o' x x' b base base' _ hx=>?_,hK⟩,fun o _ _=>rfl,⟨rfl,(fun o ho=>(by rcases ho with ho|ho;cases ho;exact ho.elim)),fun _ _ h=>h,fun _ _ _=>rfl,zza _,rfl,rfl,rfl,fun _ _ _=>rfl,fun o b base ho=>?_,fun _ _ h=>.inl h,fun b cs e fr h=>⟨cs,fr,h,rfl⟩,fun b l h=>⟨l,h⟩,fun _ _ _ _ _ _=>rfl⟩,zzb _⟩
  ·simp [bg,ng,Tr.get_nil] at hx
  ·simp [bg,ng,Tr.get_nil] at hx
  ·simp [bg,ng,Tr.get_nil] at ho
 refine wpIn_mono (h B (gK w.heap.size K) _ w (fun _ h=>h) rfl (fun _ h=>h) (zza _) ⟨eB,Dw hrel hl,Marks.nil _ _ _ _⟩) ?_;rintro ex a w' ⟨e,L,st,g,rfl,hq,hc,hr,hd⟩;have fin:Kx (wa P L st fn.results.toList) (fun r st=>R.get fr st.h r=some x) st->bodyPostM (fu none) 0 P fn (fun e w'=>∃ v,e = .returned v/\qk w w'/\Rel (gK w.heap.size (N0 K w w')) w' (R.E fr x) v) .ret a w':=by
  intro hq;show LeavesInM (fu none) 0 P fn a.tmps _ a.defers .returning w';unfold Kx at hq;cases hres:wa P L st fn.results.toList with
  |none=>rw [hres] at hq;exact hq.elim
  |some l=>
   rw [hres] at hq;have aX:=hc.base;obtain ⟨bs,e1,e2,e3⟩:=hd;have e1:=e1.trans (zzn _);rw [e1];refine Fq (Good:=fun u=>Ok g st.h u/\qk w u/\(∀ a v,Rel g w' a v->Rel g u a v)/\u.heap.size=w'.heap.size) (S:=fun b=>w.heap.size<=b/\jv g st.h b) ?_ ?_ bs w'
    ⟨hc.ok,⟨aX.size,fun b hlt=>aX.frame b hlt (fun h=>h),aX.os,aX.tape,aX.output⟩,fun _ _ h=>h,rfl⟩ e2 (fun b hb=>⟨⟨(e3 b hb).1,(e3 b hb).2.2⟩,(e3 b hb).2.1⟩)
   ·rintro u b ⟨g1,g2,g3,g4⟩ ⟨hb1,hb2⟩ hb3;have hput:=Ok.Kp (ds':=none) g1 hb3 hb2;exact ⟨hput.1,⟨by rw [ni];exact g2.size,fun c hc=>(fo u _ zO).trans (g2.heap c hc),g2.os,g2.tape,g2.output⟩,fun a v h=>hput.2 a v (g3 a v h),by rw [ni];exact g4⟩
   ·rintro u ⟨g1,g2,g3,g4⟩;obtain ⟨us,h1,h2⟩:=aai (P:=P) g1 ⟨hr.1,fun t=>g3 _ _ (hr.2 t)⟩ fn.results.toList l hres;obtain ⟨v,h3,h4⟩:=aa9 h1 h2;refine ⟨v,h3,v,rfl,g2,?_⟩;refine R.ok g1 ⟨fun b j hk=>?_,fun o cells k s e ho b base hi j hj=>?_⟩ (fun _=>?_) h4 hq
    ·rcases aX.ox b j hk with h5|h5|h5
     ·exact .inl h5
     ·exact .inr ⟨h5,g1.K b j hk⟩
     ·exact h5.elim
    ·obtain ⟨b',base',h5,_,h6⟩:=g1.obj o _ ho;rw [hi] at h5;cases h5;rcases aX.own o b base (by rw [ho];rfl) hi with h7|h7
     ·exact .inr ⟨h7,h6.lt⟩
     ·exact h7.elim
    ·rw [aX.b0];exact zza _
 cases e with
 |normal=>exact fin hq
 |ret=>exact fin hq
 |exit id=>exact hq.elim
def qh (S:Nat->Prop) (M:Nat) (w:World) (k:LK) (v:Value):Prop:=
 (∃ a,v = .slice a 0 0)\/∃ (b off n cap:Nat) (cs:Array Value) (e:TypeId),v = .slice (some ⟨b,off,none⟩) n cap/\S b/\(n<=cap/\cap<=maxLen)/\w.heap[b]? = some (.cells cs e (0,0))/\TK.sz e=some 1/\off+cap<=cs.size /\
  ∀ (j:Nat) x,j<cap->cs[off+j]? = some x->o0 x=k/\∀ s,x = .string s->s.size<=M
def mc (S:Nat->Prop) (N:Nat) (w:World) (sz:Nat) (E:World->List Value->Prop) (v:Value):Prop:=
 (∃ a,v = .slice a 0 0)\/∃ (b off n cap:Nat) (cs:Array Value) (e:TypeId),v = .slice (some ⟨b,off,none⟩) n cap/\n<=N/\S b/\(n<=cap/\cap<=maxLen)/\w.heap[b]? = some (.cells cs e (0,0))/\TK.sz e=some sz/\off % sz=0/\off+cap * sz<=cs.size /\
  ∀ j,j<n->E w ((List.range sz).map fun i=>cs.getD (off+j * sz+i) undef)
theorem qh.slice {S M w k v} (h:qh S M w k v):o0 v = .no:=by rcases h with ⟨a,rfl⟩|⟨b,off,n,cap,cs,e,rfl,_⟩<;>rfl
theorem mc.slice {S N w sz E v} (h:mc S N w sz E v):o0 v = .no:=by rcases h with ⟨a,rfl⟩|⟨b,off,n,cap,cs,e,rfl,_⟩<;>rfl
def Kept (S:Nat->Prop) (m:Nat) (xx:Bool) (w':World) (e:TypeId) (j:Nat) (x x':Value):Prop:=
 x'=x\/(o0 x ≠ .no/\o0 x'=o0 x/\∀ s',x' = .string s'->∃ s,x = .string s/\s'.size<=s.size+m)\/((xx=true/\TK.sz e=some 4)/\((j % 4≠2/\x' = .slice none 0 0)\/(j % 4=2/\qh S (4+m) w' .str x')))
structure ji (S:Nat->Prop) (m:Nat) (xx:Bool) (w w':World):Prop where
 size:w.heap.size<=w'.heap.size
 os:w'.os=w.os
 tape:w'.tape=w.tape
 output:w'.output=w.output
 low:∀ b,b<w.heap.size->¬ S b->w'.heap[b]? = w.heap[b]?
 obj:∀ (b:Nat) o,w.heap[b]? = some o->(∀ cs e fr,o ≠ .cells cs e fr)->w'.heap[b]? = some o
 cells:∀ (b:Nat) (cs:Array Value) (e:TypeId) (fr:Nat × Nat),w.heap[b]? = some (.cells cs e fr)->∃ cs',w'.heap[b]? = some (.cells cs' e fr)/\cs'.size=cs.size /\
  ∀ (j:Nat) x x',cs[j]? = some x->cs'[j]? = some x'->Kept S m xx w' e j x x'
theorem ji.refl (S:Nat->Prop) (m:Nat) (xx:Bool) (w:World):ji S m xx w w where
 size:=zza _
 os:=rfl
 tape:=rfl
 output:=rfl
 low _ _ _:=rfl
 obj _ _ h _:=h
 cells _ cs _ _ h:=⟨cs,h,rfl,fun j x x' h1 h2=>.inl (by rw [h1] at h2;cases h2;rfl)⟩
theorem ji.quiet (S:Nat->Prop) (m:Nat) (xx:Bool) {w w':World} (hs:w.heap.size<=w'.heap.size) (ho:w'.os=w.os) (ht:w'.tape=w.tape) (hu:w'.output=w.output) (hh:∀ b,b<w.heap.size->w'.heap[b]? = w.heap[b]?):ji S m xx w w' where
 size:=hs
 os:=ho
 tape:=ht
 output:=hu
 low b hb _:=hh b hb
 obj b o h _:=(hh b (cr h)).trans h
 cells b cs e fr h:=⟨cs,(hh b (cr h)).trans h,rfl,fun j x x' h1 h2=>.inl (by rw [h1] at h2;cases h2;rfl)⟩
theorem qh.mono {S M M' w k v} (h:qh S M w k v) (hM:M<=M'):qh S M' w k v:=by
 rcases h with h|⟨b,off,n,cap,cs,e,h0,h1,h2,h3,h4,h5,h6⟩
 ·exact .inl h
 ·exact .inr ⟨b,off,n,cap,cs,e,h0,h1,h2,h3,h4,h5,fun j x hj hx=>⟨(h6 j x hj hx).1,fun s hs=>zzu ((h6 j x hj hx).2 s hs) hM⟩⟩
theorem qh.sv {S m M xx w w' k v} (hk:k ≠ .no) (h:ji S m xx w w') (hl:qh S M w k v):qh S (M+m) w' k v:=by
 rcases hl with hl|⟨b,off,n,cap,cs,e,rfl,h1,h2,h3,h4,h5,h6⟩
 ·exact .inl hl
 ·obtain ⟨cs',q1,q2,q3⟩:=h.cells b cs e _ h3;refine .inr ⟨b,off,n,cap,cs',e,rfl,h1,h2,q1,h4,zO,fun j x' hj hx'=>?_⟩;have hlt:off+j<cs.size:=zO;have hx:=zz3 hlt;obtain ⟨kZ,eG⟩:=h6 j _ hj hx;rcases q3 _ _ _ hx hx' with q|⟨_,q,qs⟩|⟨q,_⟩
  ·rw [q];exact ⟨kZ,fun s hs=>by have:=eG s hs;omega⟩
  ·refine ⟨by rw [q];exact kZ,fun s hs=>?_⟩;obtain ⟨s0,e1,e2⟩:=qs s hs;have:=eG s0 e1;omega
  ·have:=q.2;rw [h4] at this;cases this
theorem Kept.mono {S:Nat->Prop} {m m':Nat} {xx:Bool} {w:World} {e:TypeId} {j:Nat} {x y:Value} (hm:m<=m') (h:Kept S m xx w e j x y):Kept S m' xx w e j x y:=by
 rcases h with h|⟨h1,h2,h3⟩|⟨h1,h2⟩
 ·exact .inl h
 ·exact .inr (.inl ⟨h1,h2,fun s' hs=>by obtain ⟨s,e1,e2⟩:=h3 s' hs;exact ⟨s,e1,zO⟩⟩)
 ·exact .inr (.inr ⟨h1,h2.imp id (fun q=>⟨q.1,q.2.mono zO⟩)⟩)
theorem Kept.any {S:Nat->Prop} {m:Nat} {xx:Bool} {w:World} {e:TypeId} {j:Nat} {x y:Value} (h:Kept S m false w e j x y):Kept S m xx w e j x y:=by
 rcases h with h|h|⟨⟨h,_⟩,_⟩
 ·exact .inl h
 ·exact .inr (.inl h)
 ·cases h
theorem ji.mono {S m m' xx w w'} (hm:m<=m') (h:ji S m xx w w'):ji S m' xx w w':=
 ⟨h.size,h.os,h.tape,h.output,h.low,h.obj,fun b cs e fr hb=>by obtain ⟨cs',q1,q2,q3⟩:=h.cells b cs e fr hb;exact ⟨cs',q1,q2,fun j x x' hx hx'=>(q3 j x x' hx hx').mono hm⟩⟩
theorem ji.any {S m xx w w'} (h:ji S m false w w'):ji S m xx w w':=
 ⟨h.size,h.os,h.tape,h.output,h.low,h.obj,fun b cs e fr hb=>by obtain ⟨cs',q1,q2,q3⟩:=h.cells b cs e fr hb;exact ⟨cs',q1,q2,fun j x x' hx hx'=>(q3 j x x' hx hx').any⟩⟩
theorem Kept.trans {S:Nat->Prop} {m1 m2:Nat} {xx:Bool} {w1 w2:World} {e:TypeId} {j:Nat} {x y z:Value} (h1:Kept S m1 xx w1 e j x y) (ho:ji S m2 xx w1 w2) (h2:Kept S m2 xx w2 e j y z):Kept S (m1+m2) xx w2 e j x z:=by
 rcases h1 with rfl|⟨a1,a2,a3⟩|⟨a1,a2⟩
 ·exact h2.mono zO
 ·rcases h2 with rfl|⟨b1,b2,b3⟩|b
  ·exact .inr (.inl ⟨a1,a2,fun s' hs=>by obtain ⟨s,e1,e2⟩:=a3 s' hs;exact ⟨s,e1,zO⟩⟩)
  ·refine .inr (.inl ⟨a1,b2.trans a2,fun s' hs=>?_⟩);obtain ⟨s1,e1,e2⟩:=b3 s' hs;obtain ⟨s,e3,e4⟩:=a3 s1 e1;exact ⟨s,e3,zO⟩
  ·exact .inr (.inr ⟨b.1,b.2.imp id (fun q=>⟨q.1,q.2.mono zO⟩)⟩)
 ·rcases h2 with rfl|⟨b1,b2,b3⟩|b
  ·refine .inr (.inr ⟨a1,a2.imp id (fun q=>⟨q.1,(q.2.sv (by decide) ho).mono zO⟩)⟩)
  ·rcases a2 with ⟨_,rfl⟩|⟨_,q⟩
   ·exact absurd rfl b1
   ·exact absurd q.slice b1
  ·exact .inr (.inr ⟨b.1,b.2.imp id (fun q=>⟨q.1,q.2.mono zO⟩)⟩)
theorem ji.trans {S m1 m2 xx w1 w2 w3} (h1:ji S m1 xx w1 w2) (h2:ji S m2 xx w2 w3):ji S (m1+m2) xx w1 w3 where
 size:=zzu h1.size h2.size
 os:=h2.os.trans h1.os
 tape:=h2.tape.trans h1.tape
 output:=h2.output.trans h1.output
 low b hb hS:=(h2.low b (zyc hb h1.size) hS).trans (h1.low b hb hS)
 obj b o h hn:=h2.obj b o (h1.obj b o h hn) hn
 cells b cs e fr h:=by
  obtain ⟨cs1,a1,a2,a3⟩:=h1.cells b cs e fr h;obtain ⟨jJ,b1,b2,b3⟩:=h2.cells b cs1 e fr a1;refine ⟨jJ,b1,b2.trans a2,fun j x z hx hz=>?_⟩;have hlt:j<cs1.size:=by rw [a2];exact (zz1.1 hx).1
  have hy:=zz3 hlt;exact (a3 j x _ hx hy).trans h2 (b3 j _ z hy hz)
def agb (S:Nat->Prop) (sz:Nat) (E:Nat->World->List Value->Prop):Prop:=
 ∀ {m M:Nat} {xx:Bool} {w w':World} {e:TypeId} {j0:Nat} {l l':List Value},4<=M->ji S m xx w w'->TK.sz e=some sz->j0 % sz=0->l.length=sz->l'.length=sz->(∀ (i:Nat) x x',l[i]? = some x->l'[i]? = some x'->Kept S m xx w' e (j0+i) x x')->E M w l->E (M+m) w' l'
theorem mc.sv {S N m M xx w w' sz E v} (hE:agb S sz E) (hM : 4<=M) (h:ji S m xx w w') (hl:mc S N w sz (E M) v):mc S N w' sz (E (M+m)) v:=by
 rcases hl with hl|⟨b,off,n,cap,cs,e,rfl,h0,h1,h2,h3,h4,h5,h6,h7⟩
 ·exact .inl hl
 ·obtain ⟨cs',q1,q2,q3⟩:=h.cells b cs e _ h3;refine .inr ⟨b,off,n,cap,cs',e,rfl,h0,h1,h2,q1,h4,h5,zO,fun j hj=>?_⟩;have hle:(j+1) * sz<=cap * sz:=zz4 _ zO;rw [Nat.succ_mul] at hle;refine hE (j0:=off+j * sz) hM h h4 (by rw [Nat.add_mul_mod_self_right];exact h5) (by simp) (by simp) (fun i x x' hx hx'=>?_) (h7 j hj);rw [zzj,zzk] at hx hx';obtain ⟨i1,e1,rfl⟩:=hx;obtain ⟨i2,e2,rfl⟩:=hx';obtain ⟨hi,rfl⟩:=zg.1 e1;obtain ⟨_,rfl⟩:=zg.1 e2;simp only [List.length_range] at hi;simp only [List.getElem_range];have hlt:off+j * sz+i<cs.size:=zO;refine q3 _ _ _ ?_ ?_
  ·rw [zze,zz3 hlt];rfl
  ·rw [zze,zz3 zO];rfl
def af3 (S:Nat->Prop) (M:Nat) (w:World) (l:List Value):Prop:=∃ v,l=[v]/\qh S M w .str v
def So (S:Nat->Prop) (Nn M:Nat) (w:World) (l:List Value):Prop:=∃ a b c d,l=[a,b,c,d]/\mc S Nn w 1 (af3 S M) a/\qh S M w (.int .u32) b/\qh S M w .str c/\qh S M w (.int .u8) d
def Ea (S:Nat->Prop) (Nn Nd M:Nat) (w:World) (l:List Value):Prop:=∃ o t c u d,l=[o,t,c,u,d]/\qh S M w .str o/\o0 t = .int .u16/\o0 c = .int .u16/\o0 u = .int .u32/\mc S Nd w 4 (So S Nn M) d
theorem Kept.same {S m xx w' e j x x' sz} (h:Kept S m xx w' e j x x') (hs:TK.sz e=some sz) (hz:sz≠4) (hx:o0 x = .no):x'=x:=by
 rcases h with h|⟨h,_⟩|⟨h,_⟩
 ·exact h
 ·exact absurd hx h
 ·have h:=h.2;rw [hs] at h;cases h;exact absurd rfl hz
theorem Kept.kind {S m xx w' e j x x' sz k} (h:Kept S m xx w' e j x x') (hs:TK.sz e=some sz) (hz:sz≠4) (hx:o0 x=k):o0 x'=k:=by
 rcases h with rfl|⟨_,h,_⟩|⟨h,_⟩
 ·exact hx
 ·rw [h];exact hx
 ·have h:=h.2;rw [hs] at h;cases h;exact absurd rfl hz
theorem aom (S:Nat->Prop):agb S 1 (af3 S):=by
 rintro m M xx w w' e j0 l l' hM ho hs hj h1 h2 hk ⟨v,rfl,hv⟩
 match l',h2 with
 | [v'],_=>
  have:=(hk 0 v v' rfl rfl).same hs (by decide) hv.slice;subst this;exact ⟨_,rfl,hv.sv (by decide) ho⟩
theorem aew {S N m M xx w w' v} (hM : 4<=M) (h:ji S m xx w w') (hl:mc S N w 1 (af3 S M) v):mc S N w' 1 (af3 S (M+m)) v:=hl.sv (aom S) hM h
theorem anb (S:Nat->Prop) (Nn:Nat):agb S 4 (So S Nn):=by
 rintro m M xx w w' e j0 l l' hM ho hs hj h1 h2 hk ⟨a,b,c,d,rfl,ha,hb,hc,hd⟩
 match l',h2 with
 | [a',b',c',d'],_=>
  refine ⟨a',b',c',d',rfl,?_,?_,?_,?_⟩
  ·rcases hk 0 a a' rfl rfl with rfl|⟨q,_⟩|⟨_,⟨_,rfl⟩|⟨q,_⟩⟩
   ·exact aew hM ho ha
   ·exact absurd ha.slice q
   ·exact .inl ⟨none,rfl⟩
   ·omega
  ·rcases hk 1 b b' rfl rfl with rfl|⟨q,_⟩|⟨_,⟨_,rfl⟩|⟨q,_⟩⟩
   ·exact hb.sv (by decide) ho
   ·exact absurd hb.slice q
   ·exact .inl ⟨none,rfl⟩
   ·omega
  ·rcases hk 2 c c' rfl rfl with rfl|⟨q,_⟩|⟨_,⟨q,rfl⟩|⟨_,q⟩⟩
   ·exact hc.sv (by decide) ho
   ·exact absurd hc.slice q
   ·exact .inl ⟨none,rfl⟩
   ·exact q.mono zO
  ·rcases hk 3 d d' rfl rfl with rfl|⟨q,_⟩|⟨_,⟨_,rfl⟩|⟨q,_⟩⟩
   ·exact hd.sv (by decide) ho
   ·exact absurd hd.slice q
   ·exact .inl ⟨none,rfl⟩
   ·omega
theorem P6 {S N Nn m M xx w w' v} (hM : 4<=M) (h:ji S m xx w w') (hl:mc S N w 4 (So S Nn M) v):mc S N w' 4 (So S Nn (M+m)) v:=hl.sv (anb S Nn) hM h
theorem atg (S:Nat->Prop) (Nn Nd:Nat):agb S 5 (Ea S Nn Nd):=by
 rintro m M xx w w' e j0 l l' hM ho hs hj h1 h2 hk ⟨o,t,c,u,d,rfl,hO,ht,hc,hu,hd⟩
 match l',h2 with
 | [o',t',c',u',d'],_=>
  have e1:=(hk 0 o o' rfl rfl).same hs (by decide) hO.slice;have e2:=(hk 4 d d' rfl rfl).same hs (by decide) hd.slice;subst e1 e2;exact ⟨_,t',c',u',_,rfl,hO.sv (by decide) ho,(hk 1 t t' rfl rfl).kind hs (by decide) ht,(hk 2 c c' rfl rfl).kind hs (by decide) hc,(hk 3 u u' rfl rfl).kind hs (by decide) hu,P6 hM ho hd⟩
theorem wx {S N Nn Nd m M xx w w' v} (hM : 4<=M) (h:ji S m xx w w') (hl:mc S N w 5 (Ea S Nn Nd M) v):mc S N w' 5 (Ea S Nn Nd (M+m)) v:=hl.sv (atg S Nn Nd) hM h
theorem ab3 {α:Type} (C:dp α) (hz:C.sz=1) (ha:C.agg=false) {k:LK} (hk:C.kd=k) (hn:k ≠ .no) {M:Nat} {g:Gh} {w:World} {l:Bool} {xs:List α} {v:Value} (hM:∀ x ∈ xs,∀ c ∈ C.cells l x,∀ s,c = .sc (.string s)->s.size<=M) (hx:∀ x ∈ xs,∀ c ∈ C.cells l x,∃ u,c = .sc u) {S:Nat->Prop} (hS:∀ b,g.b0<=b->(∀ j,g.K b j)->S b) (hr:Rel g w (.vl true 1 (xs.map (C.val l))) v):qh S M w k v:=by
 generalize hes:xs.map (C.val l)=es at hr;cases hr with
 |lx=>exact .inl ⟨none,rfl⟩
 |vo _ _ a=>exact .inl ⟨some a,rfl⟩
 |vl _ _ _ b off cap c hsz hl aL h hrel hw=>
  obtain ⟨w1,⟨cs,e,w2,w3,w4,w5,w6⟩,w7,w8⟩:=hw rfl;rcases Nat.eq_zero_or_pos es.length with h0|h0
  ·have:=w7 rfl h0;subst this;rw [h0];exact .inl ⟨_,rfl⟩
  ·refine .inr ⟨b,off,es.length,cap,cs,e,rfl,hS b (hl rfl) w1,⟨aL,w8⟩,w2,w4,zO,fun j x hj kU=>?_⟩;have gB:es.flatMap AV.cells=xs.flatMap (C.cells l):=by rw [<- hes,List.flatMap_map];congr 1;funext x;exact C.B4 l x
   have hlen:(es.flatMap AV.cells).length=es.length * 1:=Kr es hsz;have yL:(es.flatMap AV.cells)[0]? = some ((es.flatMap AV.cells)[0]'zO):=zh _;have hm:(es.flatMap AV.cells)[0]'zO ∈ xs.flatMap (C.cells l):=by rw [<- gB];exact zyl _
   obtain ⟨y,_,hy⟩:=List.mem_flatMap.1 hm;have hc0:=C.Nq hz hy (hrel 0 _ yL);rcases w6 rfl j x hj kU with q|⟨q,qt⟩
   ·rw [hc0,hk] at q;exact absurd q hn
   ·refine ⟨by rw [q,hc0,hk],fun s hs=>?_⟩;by_cases hjn:j<es.length
    ·have uB:(es.flatMap AV.cells)[j]? = some ((es.flatMap AV.cells)[j]'zO):=zh _;have wP:(es.flatMap AV.cells)[j]'zO ∈ xs.flatMap (C.cells l):=by rw [<- gB];exact zyl _
     obtain ⟨y2,hy2,jP⟩:=List.mem_flatMap.1 wP;obtain ⟨u,hu⟩:=hx y2 hy2 _ jP;have tO:=hrel j _ uB;rw [hu] at tO;have:=tO.exact rfl;have jB:c j=x:=by have h9:=(h j _ uB).2;rw [j9 w2,kU] at h9;exact (Option.some.inj h9).symm
     rw [jB,hs] at this;exact hM y2 hy2 _ jP s (by rw [hu,<- this])
    ·have:=qt zO;rw [hs] at this;have:s.size=0:=zzg this;omega
theorem aao {α:Type} (C:dp α) {N sz:Nat} (hz:C.sz=sz) {E:World->List Value->Prop} {g:Gh} {w:World} {l:Bool} {xs:List α} {v:Value} (hN:xs.length<=N) (hE:∀ x ∈ xs,∀ vs,cb g w (C.cells l x) vs->E w vs) {S:Nat->Prop} (hS:∀ b,g.b0<=b->(∀ j,g.K b j)->S b) (hr:Rel g w (.vl true sz (xs.map (C.val l))) v):mc S N w sz E v:=by
 generalize hes:xs.map (C.val l)=es at hr;cases hr with
 |lx=>exact .inl ⟨none,rfl⟩
 |vo _ _ a=>exact .inl ⟨some a,rfl⟩
 |vl _ _ _ b off cap c hsz hl aL h hrel hw=>
  obtain ⟨w1,⟨cs,e,w2,w3,w4,w5,w6⟩,w7,w8⟩:=hw rfl;refine .inr ⟨b,off,es.length,cap,cs,e,rfl,by rw [<- hes,zzo];exact hN,hS b (hl rfl) w1,⟨aL,w8⟩,w2,w4,w5,w3,fun j hj=>?_⟩;have hj':j<xs.length:=by rw [<- hes,zzo] at hj;exact hj
  refine hE (xs[j]) (zyl hj') _ ⟨by rw [C.len];simp [hz],fun i a u ha hu=>?_⟩;rw [zzj,zzk] at hu;obtain ⟨i1,e1,rfl⟩:=hu;obtain ⟨hi,rfl⟩:=zg.1 e1;simp only [List.length_range] at hi;simp only [List.getElem_range];have hcell:(es.flatMap AV.cells)[j * sz+i]? = some a:=by
   have gB:es.flatMap AV.cells=xs.flatMap (C.cells l):=by rw [<- hes,List.flatMap_map];congr 1;funext x;exact C.B4 l x
   have hd:∀ (ys:List α) (m:Nat),(ys.flatMap (C.cells l)).drop (m * C.sz)=(ys.drop m).flatMap (C.cells l):=by
    intro ys
    induction ys with
    |nil=>intro m;simp
    |cons y ys ih=>
     intro m;cases m with
     |zero=>simp
     |succ m=>
      rw [show (m+1) * C.sz=(C.cells l y).length+m * C.sz from by rw [C.len,Nat.succ_mul];omega,<- List.drop_drop,List.flatMap_cons,List.drop_left,ih,List.drop_succ_cons]
   have h1:=hd xs j;rw [hz] at h1;rw [gB,<- zz6,h1,zzs hj',List.flatMap_cons,zzi (by rw [C.len];omega)];exact ha
  have h1:=h (j * sz+i) a hcell;have h2:=hrel (j * sz+i) a hcell;have h3:cs.getD (off+j * sz+i) undef=c (j * sz+i):=by have:=h1.2;rw [j9 w2] at this;rw [zyk,zze,this];rfl
  rw [h3];exact h2
end
variable [TK]
structure Lp (w:World) (b:Nat) (cs:Array Value) (e:TypeId) (off m k:Nat) (wr:World):Prop where
 size:wr.heap.size=w.heap.size
 os:wr.os=w.os
 tape:wr.tape=w.tape
 output:wr.output=w.output
 other:∀ c,c≠b->wr.heap[c]? = w.heap[c]?
 row:∃ cs',wr.heap[b]? = some (.cells cs' e (0,0))/\cs'.size=cs.size/\∀ (j:Nat) x x',cs[j]? = some x->cs'[j]? = some x' ->
  x'=x\/(off<=j/\j<off+k/\o0 x ≠ .no/\o0 x'=o0 x/\∀ s',x' = .string s'->∃ s,x = .string s/\s'.size<=s.size+m)
theorem Lp.start {w b cs e off m} (h:w.heap[b]? = some (.cells cs e (0,0))):Lp w b cs e off m 0 w where
 size:=rfl
 os:=rfl
 tape:=rfl
 output:=rfl
 other _ _:=rfl
 row:=⟨cs,h,rfl,fun j x x' h1 h2=>.inl (by rw [h1] at h2;cases h2;rfl)⟩
theorem Lp.frozen {w b cs e off m k wr} (h:Lp w b cs e off m k wr) (j:Nat):wr.frozen? ⟨b,j,none⟩=false:=by obtain ⟨cs',h1,_⟩:=h.row;unfold World.frozen?;simp only [h1];simp
theorem Lp.cell {w b cs e off m k wr x} (h:Lp w b cs e off m k wr) (hx:cs[off+k]? = some x):wr.cell? ⟨b,off+k,none⟩=some x:=by
 obtain ⟨cs',h1,h2,h3⟩:=h.row;rw [j9 h1];have hlt:off+k<cs'.size:=by rw [h2];exact (zz1.1 hx).1
 have hx':=zz3 hlt;rcases h3 _ _ _ hx hx' with q|⟨_,q,_⟩
 ·rw [hx',q]
 ·omega
theorem Lp.step {w b cs e off m k wr x v} (h:Lp w b cs e off m k wr) (hx:cs[off+k]? = some x) (h1:o0 x ≠ .no) (h2:o0 v=o0 x) (h3:∀ s',v = .string s'->∃ s,x = .string s/\s'.size<=s.size+m) :
 Lp w b cs e off m (k+1) (wr.setCell ⟨b,off+k,none⟩ v):=by
 obtain ⟨cs',r1,r2,r3⟩:=h.row;have hb:=cr r1;refine ⟨by simp [World.setCell,h.size],h.os,h.tape,h.output,fun c hc=>?_,cs'.setIfInBounds (off+k) v,?_,by simp [r2],fun j y y' hy hy'=>?_⟩
 ·rw [<- h.other c hc];simp only [World.setCell];rw [Array.getElem?_modify,if_neg (fun e=>hc e.symm)]
 ·simp only [World.setCell];rw [Array.getElem?_modify,if_pos rfl,r1];rfl
 ·rw [zzz] at hy';by_cases hj:off+k=j
  ·subst hj;rw [hx] at hy;cases hy;have hlt:off+k<cs'.size:=by rw [r2];exact (zz1.1 hx).1
   rw [if_pos rfl,if_pos hlt] at hy';cases hy';exact .inr ⟨zO,zO,h1,h2,h3⟩
  ·rw [if_neg hj] at hy';exact (r3 j y y' hy hy').imp id (fun q=>⟨q.1,zO,q.2.2⟩)
theorem Lp.sv {S w b cs e off m k wr} (h:Lp w b cs e off m k wr) (hw:w.heap[b]? = some (.cells cs e (0,0))) (hn:S b):ji S m false w wr where
 size:=by rw [h.size];exact zza _
 os:=h.os
 tape:=h.tape
 output:=h.output
 low c _ hc:=h.other c (fun e=>hc (e ▸ hn))
 obj c o hc hn:=by
  by_cases e:c=b
  ·subst e;rw [hw] at hc;cases hc;exact absurd rfl (hn _ _ _)
  ·rw [h.other c e];exact hc
 cells c cs0 e0 lI hc:=by
  by_cases e:c=b
  ·subst e;rw [hw] at hc;cases hc;obtain ⟨cs',r1,r2,r3⟩:=h.row;exact ⟨cs',r1,r2,fun j x x' hx hx'=>(r3 j x x' hx hx').imp id (fun q=>.inl ⟨q.2.2.1,q.2.2.2.1,q.2.2.2.2⟩)⟩
  ·exact ⟨cs0,(h.other c e).trans hc,rfl,fun j x x' hx hx'=>.inl (by rw [hx] at hx';cases hx';rfl)⟩
theorem qh.form {S M w k v} (h:qh S M w k v):∃ base n cap,v = .slice base n cap/\n<=cap/\cap<=maxLen/\(base=none->cap=0):=by
 rcases h with ⟨a,rfl⟩|⟨b,off,n,cap,cs,e,rfl,h1,⟨h2,h3⟩,_⟩
 ·exact ⟨a,0,0,rfl,zza _,zzb _,fun _=>rfl⟩
 ·exact ⟨_,n,cap,rfl,h2,h3,fun e=>by cases e⟩
def Pu (S:Nat->Prop) (m k:Nat) (w:World) (v:Value) (wr:World):Prop:=
 (∃ a,v = .slice a 0 0/\wr=w)\/∃ (b off n cap:Nat) (cs:Array Value) (e:TypeId),v = .slice (some ⟨b,off,none⟩) n cap/\S b/\w.heap[b]? = some (.cells cs e (0,0))/\Lp w b cs e off m k wr
theorem Pu.start {S m M w k v} (h:qh S M w k v):Pu S m 0 w v w:=by
 rcases h with ⟨a,rfl⟩|⟨b,off,n,cap,cs,e,rfl,h1,_,h3,_⟩
 ·exact .inl ⟨a,rfl,rfl⟩
 ·exact .inr ⟨b,off,n,cap,cs,e,rfl,h1,h3,.start h3⟩
theorem Pu.sv {S m k w v wr} (h:Pu S m k w v wr):ji S m false w wr:=by
 rcases h with ⟨a,_,rfl⟩|⟨b,off,n,cap,cs,e,_,h1,h3,h⟩
 ·exact .refl _ _ _ _
 ·exact h.sv h3 h1
theorem Pu.at {S m M k w kd base n cap wr} (hk:kd ≠ .no) (hv:qh S M w kd (.slice base n cap)) (h:Pu S m k w (.slice base n cap) wr) (hlt:k<cap) :
 ∃ b off x,base=some ⟨b,off,none⟩/\wr.cell? ⟨b,off+k,none⟩=some x/\wr.frozen? ⟨b,off+k,none⟩=false/\o0 x=kd/\(∀ s,x = .string s->s.size<=M) /\
  ∀ v',o0 v'=kd->(∀ s',v' = .string s'->∃ s,x = .string s/\s'.size<=s.size+m)->Pu S m (k+1) w (.slice base n cap) (wr.setCell ⟨b,off+k,none⟩ v'):=by
 rcases hv with ⟨a,e⟩|⟨b,off,n',cap',cs,e,he,h1,_,h3,h4,h5,h6⟩
 ·cases e;omega
 cases he;rcases h with ⟨a,e,_⟩|⟨b',cA,n',cap',cs',e',he',q1,q3,q⟩
 ·cases e;omega
 cases he';rw [h3] at q3;cases q3;have hl:off+k<cs.size:=zO;have hx:=zz3 hl;obtain ⟨r1,r2⟩:=h6 k _ hlt hx;exact ⟨b,off,_,rfl,q.cell hx,q.frozen _,r1,r2,fun v' e1 e2=>.inr ⟨b,off,n,cap,cs,e,rfl,h1,h3,q.step hx (by rw [r1];exact hk) (by rw [r1];exact e1) e2⟩⟩
theorem mc.form {S N w sz E v} (h:mc S N w sz E v):∃ base n cap,v = .slice base n cap/\n<=N/\n<=cap/\cap<=maxLen/\(base=none->cap=0):=by
 rcases h with ⟨a,rfl⟩|⟨b,off,n,cap,cs,e,rfl,h0,h1,⟨h2,h3⟩,_⟩
 ·exact ⟨a,0,0,rfl,zzb _,zza _,zzb _,fun _=>rfl⟩
 ·exact ⟨_,n,cap,rfl,h0,h2,h3,fun e=>by cases e⟩
theorem mc.at {S N w sz E base n cap} (h:mc S N w sz E (.slice base n cap)) {j:Nat} (hj:j<n) :
 ∃ b off cs e,base=some ⟨b,off,none⟩/\S b/\w.heap[b]? = some (.cells cs e (0,0))/\TK.sz e=some sz/\off % sz=0/\off+cap * sz<=cs.size/\(j+1) * sz<=cap * sz/\E w ((List.range sz).map fun i=>cs.getD (off+j * sz+i) undef):=by
 rcases h with ⟨a,e⟩|⟨b,off,n',cap',cs,e,he,h0,h1,⟨h2,h3⟩,h4,h5,h6,h7,h8⟩
 ·cases e;omega
 ·cases he;exact ⟨b,off,cs,e,rfl,h1,h4,h5,h6,h7,zz4 _ zO,h8 j hj⟩
theorem cell_of {w:World} {b j:Nat} {cs:Array Value} {e:TypeId} {fr:Nat × Nat} (h:w.heap[b]? = some (.cells cs e fr)) (hj:j<cs.size):w.cell? ⟨b,j,none⟩=some (cs.getD j undef):=by rw [j9 h,zze,zz3 hj];rfl
theorem Qu {w:World} {b:Nat} {cs:Array Value} {e:TypeId} (h:w.heap[b]? = some (.cells cs e (0,0))) (j:Nat):w.frozen? ⟨b,j,none⟩=false:=by unfold World.frozen?;simp only [h];simp
theorem ji.set {S:Nat->Prop} {w:World} {b:Nat} {cs:Array Value} {e:TypeId} {j:Nat} {x v:Value} (h:w.heap[b]? = some (.cells cs e (0,0))) (hn:S b) (hx:cs[j]? = some x) (h1:o0 x ≠ .no) (h2:o0 v=o0 x) (h3:∀ s,v ≠ .string s) :
 ji S 0 false w (w.setCell ⟨b,j,none⟩ v)/\(w.setCell ⟨b,j,none⟩ v).heap[b]? = some (.cells (cs.setIfInBounds j v) e (0,0)):=by
 refine ⟨((Lp.start (off:=j) (m:=0) h).step (k:=0) hx h1 h2 (fun s' q=>absurd q (h3 s'))).sv h hn,?_⟩;simp only [World.setCell];rw [Array.getElem?_modify,if_pos rfl,h];rfl
theorem mc.room {S N w sz E base n cap} (h:mc S N w sz E (.slice base n cap)) {j:Nat} (hj:j<cap) :
 ∃ b off cs e,base=some ⟨b,off,none⟩/\S b/\w.heap[b]? = some (.cells cs e (0,0))/\TK.sz e=some sz/\off % sz=0/\off+cap * sz<=cs.size/\(j+1) * sz<=cap * sz:=by
 rcases h with ⟨a,e⟩|⟨b,off,n',cap',cs,e,he,h0,h1,⟨h2,h3⟩,h4,h5,h6,h7,h8⟩
 ·cases e;omega
 ·cases he;exact ⟨b,off,cs,e,rfl,h1,h4,h5,h6,h7,zz4 _ zO⟩
theorem ajm {w:World} {b:Nat} {cs:Array Value} {e:TypeId} (h:w.heap[b]? = some (.cells cs e (0,0))) (o:Obj) (j:Nat):(w.alloc o).frozen? ⟨b,j,none⟩=false:=
 Qu ((Go.RowKit.Below.heap_alloc w o b (cr h)).trans h) j
theorem Ha {w:World} {b:Nat} {cs:Array Value} {e:TypeId} {fr:Nat × Nat} (h:w.heap[b]? = some (.cells cs e fr)) (o:Obj) {j:Nat} (hj:j<cs.size):(w.alloc o).cell? ⟨b,j,none⟩=some (cs.getD j undef):=
 cell_of ((Go.RowKit.Below.heap_alloc w o b (cr h)).trans h) hj
theorem ji.alloc {S m xx w} (o:Obj):ji S m xx w (w.alloc o):=by
 have hold:∀ b,b<w.heap.size->(w.alloc o).heap[b]? = w.heap[b]? := fun b hb=>Go.RowKit.Below.heap_alloc w o b hb
 refine ⟨(by show w.heap.size<=(w.heap.push o).size;simp),rfl,rfl,rfl,fun b hb _=>hold b hb,fun b x hb _=>(hold b (cr hb)).trans hb,fun b cs e fr hb=>⟨cs,(hold b (cr hb)).trans hb,rfl,fun j x x' h1 h2=>.inl (by rw [h1] at h2;cases h2;rfl)⟩⟩
theorem tz (w:World) {b c:Nat} (j:Nat) (v:Value) (h:c≠b):(w.setCell ⟨b,j,none⟩ v).heap[c]? = w.heap[c]? := by simp only [World.setCell];rw [Array.getElem?_modify,if_neg (fun e=>h e.symm)]
theorem ji.arv {S:Nat->Prop} {w:World} {b:Nat} {cs:Array Value} {e:TypeId} {j:Nat} {v:Value} (h:w.heap[b]? = some (.cells cs e (0,0))) (hn:S b) (hsz:TK.sz e=some 4)
 (hv:(j % 4≠2/\v = .slice none 0 0)\/(j % 4=2/\qh S 4 (w.setCell ⟨b,j,none⟩ v) .str v)) :
 ji S 0 true w (w.setCell ⟨b,j,none⟩ v)/\(w.setCell ⟨b,j,none⟩ v).heap[b]? = some (.cells (cs.setIfInBounds j v) e (0,0)):=by
 have hb:(w.setCell ⟨b,j,none⟩ v).heap[b]? = some (.cells (cs.setIfInBounds j v) e (0,0)):=by simp only [World.setCell];rw [Array.getElem?_modify,if_pos rfl,h];rfl
 refine ⟨⟨by simp [World.setCell],rfl,rfl,rfl,fun c _ hc=>tz w j v (fun e=>hc (e ▸ hn)),fun c o hc hno=>?_,fun c cs0 e0 lI hc=>?_⟩,hb⟩
 ·by_cases e1:c=b
  ·subst e1;rw [h] at hc;cases hc;exact absurd rfl (hno _ _ _)
  ·rw [tz w j v e1];exact hc
 ·by_cases e1:c=b
  ·subst e1;rw [h] at hc;cases hc;refine ⟨_,hb,by simp,fun i x x' hx hx'=>?_⟩;rw [zzz] at hx';by_cases hi:j=i
   ·subst hi;have hlt:=(zz1.1 hx).1;rw [if_pos rfl,if_pos hlt] at hx';cases hx';exact .inr (.inr ⟨⟨rfl,hsz⟩,hv⟩)
   ·rw [if_neg hi,hx] at hx';cases hx';exact .inl rfl
  ·exact ⟨cs0,(tz w j v e1).trans hc,rfl,fun i x x' hx hx'=>.inl (by rw [hx] at hx';cases hx';rfl)⟩
theorem ji.spare {S:Nat->Prop} {w:World} {b j:Nat} {cs:Array Value} {e t:TypeId} {s:ByteArray} (h:w.heap[b]? = some (.cells cs e (0,0))) (hn:S b) (hsz:TK.sz e=some 4) (hS:S w.heap.size) (hj:j % 4=0) (ht:TK.sz t=some 1) (hs:s.size<=4) :
 ji S 0 true w (((((w.alloc (.cells #[.string s] t)).setCell ⟨b,j,none⟩ (.slice none 0 0)).setCell ⟨b,j+1,none⟩ (.slice none 0 0)).setCell ⟨b,j+2,none⟩ (.slice (some ⟨w.heap.size,0,none⟩) 1 1)).setCell ⟨b,j+3,none⟩ (.slice none 0 0)):=by
 have hne:w.heap.size≠b:=by have:=cr h;omega
 have h0:(w.alloc (.cells #[.string s] t)).heap[b]? = _:=(Go.RowKit.Below.heap_alloc w _ b (cr h)).trans h;have oz:(w.alloc (.cells #[.string s] t)).heap[w.heap.size]? = some (.cells #[.string s] t (0,0)):=Bv w _;have q1:=ji.arv (j:=j) (v:=.slice none 0 0) h0 hn hsz (.inl ⟨zO,rfl⟩);have q2:=ji.arv (j:=j+1) (v:=.slice none 0 0) q1.2 hn hsz (.inl ⟨zO,rfl⟩);have q3:=ji.arv (j:=j+2) (v:=.slice (some ⟨w.heap.size,0,none⟩) 1 1) q2.2 hn hsz (.inr ⟨zO,.inr ⟨w.heap.size,0,1,1,#[.string s],t,rfl,hS,⟨zza _,by decide⟩,?_,ht,zza _,fun i x hi hx=>?_⟩⟩);have q4:=ji.arv (j:=j+3) (v:=.slice none 0 0) q3.2 hn hsz (.inl ⟨zO,rfl⟩)
 ·exact ((((ji.alloc (S:=S) (m:=0) (xx:=true) _).trans q1.1).trans q2.1).trans q3.1).trans q4.1
 ·rw [tz _ _ _ hne,tz _ _ _ hne,tz _ _ _ hne];exact oz
 ·have fC:i=0:=zO;subst fC;cases hx;exact ⟨rfl,fun s' e=>by cases e;exact hs⟩
theorem ji.stay {S m w w'} (h:ji S m false w w') {b j:Nat} {x:Value} (hx:w.cell? ⟨b,j,none⟩=some x) (hn:o0 x = .no):w'.cell? ⟨b,j,none⟩=some x:=by
 unfold World.cell? at hx
 split at hx
 ·rename_i cs e fr hb;simp at hx;obtain ⟨cs',q1,q2,q3⟩:=h.cells b cs e fr hb;have hlt:j<cs'.size:=by rw [q2];exact (zz1.1 hx).1
  have hx':=zz3 hlt;rw [j9 q1];rcases q3 j x _ hx hx' with q|⟨q,_⟩|⟨⟨q,_⟩,_⟩
  ·rw [hx',q]
  ·exact absurd hn q
  ·cases q
 ·cases hx
theorem ji.ar3 {S m xx w w'} (h:ji S m xx w w') {b j sz:Nat} {cs:Array Value} {e:TypeId} {fr:Nat × Nat} {x:Value} (hb:w.heap[b]? = some (.cells cs e fr)) (hs:TK.sz e=some sz) (hz:sz≠4) (hx:cs[j]? = some x) (hn:o0 x = .no):w'.cell? ⟨b,j,none⟩=some x:=by
 obtain ⟨cs',q1,q2,q3⟩:=h.cells b cs e fr hb;have hlt:j<cs'.size:=by rw [q2];exact (zz1.1 hx).1
 have hx':=zz3 hlt;rw [j9 q1,hx',(q3 j x _ hx hx').same hs hz hn]
variable [TK]
noncomputable section
def mz:Nat->Code->Code
 |0,_=>.skip
 |1,.seq a _=>a
 |n+2,.seq a b=>.seq a (mz (n+1) b)
 |_,c=>c
def fm:Nat->Code->Code
 |0,c=>c
 |n+1,.seq _ b=>fm n b
 |_+1,_=>.skip
def Ps:Nat->Code->Bool
 |0,_=>true
 |n+1,.seq _ b=>Ps n b
 |_+1,_=>false
theorem gx {P:Program} {T:fc} {be:Nat} {a b:Code} {Q:QL} {L:SL} {st:St}:wl P T be (mz 1 (.seq a b)) Q L st=wl P T be a Q L st:=rfl
theorem kc {P:Program} {T:fc} {be n:Nat} {a b:Code} {Q:QL} {L:SL} {st:St}:wl P T be (mz (n+2) (.seq a b)) Q L st=wl P T be a (Kw (wl P T be (mz (n+1) b)) Q) L st:=rfl
theorem ig {P:Program} {T:fc} {be n:Nat} {c:Code} {Q:QL} {L:SL} {st:St}:wl P T be (mz n (fm 0 c)) Q L st=wl P T be (mz n c) Q L st:=rfl
theorem ij {P:Program} {T:fc} {be n m:Nat} {a b:Code} {Q:QL} {L:SL} {st:St}:wl P T be (mz n (fm (m+1) (.seq a b))) Q L st=wl P T be (mz n (fm m b)) Q L st:=rfl
theorem jk {P:Program} {T:fc} {be:Nat} {c:Code} {Q:QL} {L:SL} {st:St}:wl P T be (fm 0 c) Q L st=wl P T be c Q L st:=rfl
theorem jl {P:Program} {T:fc} {be m:Nat} {a b:Code} {Q:QL} {L:SL} {st:St}:wl P T be (fm (m+1) (.seq a b)) Q L st=wl P T be (fm m b) Q L st:=rfl
theorem Kc {F:Fence} {N:Nat} {P:Program} {X:Exit->Act->World->Prop} {a:Act} {w:World} {c x y:Code} {m:Nat} (he:fm m c = .seq x y) (h:(Code.seq x y).wpIn F N P X a w):(fm m c).wpIn F N P X a w:=by rw [he];exact h
def tq (X:SL->St->Prop) (Y:QL):QL:=fun e L st=>
 match e with
 |.normal=>X L st
 |e=>Y e L st
theorem ly {X:SL->St->Prop} {Y:QL} {L st}:tq X Y .normal L st=X L st:=rfl
theorem mg {X:SL->St->Prop} {Y:QL} {L st}:tq X Y .ret L st=Y .ret L st:=rfl
theorem mh {X:SL->St->Prop} {Y:QL} {L st} (i:Nat):tq X Y (.exit i) L st=Y (.exit i) L st:=rfl
def Mn:QL:=fun _ _ _=>False
theorem wk {P:Program} [KP P] {T:fc} (hT:ar P T) (hm:P.follows .mixedOrders=true) {N:Nat} {B:fi} {nt:NT} (aG:B.k6) (hp:B.be<=1000) (aN:B.n0<=B.w.heap.size) {X:Exit->Act->World->Prop} {Q:QL} :
 ∀ (n:Nat) (c:Code),Ps (n+1) c=true->ey nt c=true ->
  (∀ e L' st' g' a' w',Q e L' st'->gj B nt L' st' g' a' w'->match e with|.normal=>(fm (n+1) c).wpIn (fu none) N P X a' w'|e=>X (uo e) a' w') ->
  ∀ L st g a w,wl P T B.be (mz (n+1) c) Q L st->gj B nt L st g a w->c.wpIn (fu none) N P X a w:=by
 intro n
 induction n with
 |zero=>
  intro c hsp hs hX L st g a w h hh;cases c with
  |seq x y=>
   simp only [ey,zzh] at hs;refine wpIn_seq (wpIn_mono (piece hT hm (N:=N) aG hp aN hs.1 h hh) ?_);rintro ex a' w' ⟨e,L',st',g',rfl,hq,bT,_⟩;have:=hX e L' st' g' a' w' hq bT;cases e with
   |normal=>exact this
   |ret=>exact this
   |exit id=>exact this
  |_=>cases hsp
 |succ n ih=>
  intro c hsp hs hX L st g a w h hh;cases c with
  |seq x y=>
   simp only [ey,zzh] at hs;refine wpIn_seq (wpIn_mono (piece hT hm (N:=N) aG hp aN hs.1 (Q:=Kw (wl P T B.be (mz (n+1) y)) Q) h hh) ?_);rintro ex a' w' ⟨e,L',st',g',rfl,hq,bT,_⟩;cases e with
   |normal=>exact ih y hsp hs.2 hX L' st' g' a' w' hq bT
   |ret=>exact hX .ret L' st' g' a' w' hq bT
   |exit id=>exact hX (.exit id) L' st' g' a' w' hq bT
  |_=>cases hsp
def vj (w:World):Nat->Nat->Prop:=fun b _=>b<w.heap.size
def af8 (w:World) (D:List Deferred):fi:={ b0:=w.heap.size,w,K:=vj w,O:=fun _=>False,be:=0,pb:=fun _=>none,n0:=w.heap.size,D }
theorem zl (w D):(af8 w D).k6:=fun _ h=>h
structure rn (S:Nat->Prop) (w1:World) (D:List Deferred) (ds:List Deferred) (w:World):Prop where
 size:w1.heap.size<=w.heap.size
 low:∀ b,b<w1.heap.size->¬ S b->w.heap[b]? = w1.heap[b]?
 obj:∀ (b:Nat) o,w1.heap[b]? = some o->(∀ cs e fr,o ≠ .cells cs e fr)->w.heap[b]? = some o
 os:w.os=w1.os
 tape:w.tape=w1.tape
 output:w.output=w1.output
 Cc:∃ bs:List Nat,ds=bs.map mark++D/\bs.Nodup/\∀ b ∈ bs,w1.heap.size<=b/\w.heap[b]? = some (.deferred (some []))
theorem rn.start (S:Nat->Prop) (w:World) (D:List Deferred):rn S w D D w:=⟨zza _,fun _ _ _=>rfl,fun _ _ h _=>h,rfl,rfl,rfl,[],rfl,List.nodup_nil,fun b h=>by cases h⟩
theorem rn.wide {S S':Nat->Prop} {w1 D ds w} (hS:∀ b,b<w1.heap.size->S b->S' b) (h:rn S w1 D ds w):rn S' w1 D ds w:=⟨h.size,fun b hb hn=>h.low b hb (fun hs=>hn (hS b hb hs)),h.obj,h.os,h.tape,h.output,h.Cc⟩
theorem rn.later {S:Nat->Prop} {w1 D ds w nt L st g a w'} (h:rn S w1 D ds w) (hh:gj (af8 w ds) nt L st g a w'):rn S w1 D a.defers w':=by
 have hb:=hh.cur.base;have hf:∀ b,b<w.heap.size->w'.heap[b]? = w.heap[b]? := fun b h=>hb.frame b h (fun h=>h)
 refine ⟨zzu h.size hb.size,fun b hlt hn=>(hf b (zyc hlt h.size)).trans (h.low b hlt hn),fun b o ho hn=>?_,hb.os.trans h.os,hb.tape.trans h.tape,hb.output.trans h.output,?_⟩
 ·have:=h.obj b o ho hn;exact (hf b (cr this)).trans this
 ·obtain ⟨bs,e1,e2,e3⟩:=h.Cc;obtain ⟨cs,c1,c2,c3⟩:=hh.Cc;refine ⟨cs++bs,by rw [c1,zzw,zzc];exact congrArg _ e1,?_,fun b hb=>?_⟩
  ·rw [List.nodup_append];refine ⟨c2,e2,fun x hx y hy e=>?_⟩;subst e;have h1:w.heap.size<=x:=(c3 x hx).1;have h2:=cr (e3 x hy).2;omega
  ·rcases zzq.1 hb with hb|hb
   ·exact ⟨zzu h.size (c3 b hb).1,(c3 b hb).2.1⟩
   ·have:=(e3 b hb).2;exact ⟨(e3 b hb).1,(hf b (cr this)).trans this⟩
theorem rn.sv {S:Nat->Prop} {w1 D ds w m xx w'} (h:rn S w1 D ds w) (ho:ji S m xx w w'):rn S w1 D ds w':=by refine ⟨zzu h.size ho.size,fun b hlt hn=>(ho.low b (zyc hlt h.size) hn).trans (h.low b hlt hn),fun b o hb hn=>ho.obj b o (h.obj b o hb hn) hn,ho.os.trans h.os,ho.tape.trans h.tape,ho.output.trans h.output,?_⟩;obtain ⟨bs,e1,e2,e3⟩:=h.Cc;exact ⟨bs,e1,e2,fun b hb=>⟨(e3 b hb).1,ho.obj b _ (e3 b hb).2 (fun cs e fr q=>by cases q)⟩⟩
theorem Ck {nt:NT} {Ls:SL} {a:Act} {w:World} (mS:qx nt a.tmps) (hr:∀ t,Rel (gK w.heap.size (vj w)) w (lk Ls t) (a.tmps.getD t undef)):gj (af8 w a.defers) nt Ls (bg []) (gK w.heap.size (vj w)) a w:=by
 refine ⟨⟨⟨zza _,fun o x hx=>?_,fun o o' x x' b base base' _ hx=>?_,fun _ _ h=>h⟩,fun o _ _=>rfl,⟨rfl,(fun o ho=>(by rcases ho with ho|ho;cases ho;exact ho.elim)),fun _ _ h=>h,fun _ _ _=>rfl,zza _,rfl,rfl,rfl,fun _ _ _=>rfl,fun o b base ho=>?_,fun _ _ h=>.inl h,fun b cs e fr h=>⟨cs,fr,h,rfl⟩,fun b l h=>⟨l,h⟩,fun _ _ _ _ _ _=>rfl⟩,zzb _⟩,⟨mS,hr⟩,Marks.start _ _ _ _ _⟩
 ·simp [bg,ng,Tr.get_nil] at hx
 ·simp [bg,ng,Tr.get_nil] at hx
 ·simp [bg,ng,Tr.get_nil] at ho
theorem avq (t:Nat):lk [] t = .bad:=rfl
theorem aty {g:Gh} {w:World} {f:Nat->Value}:∀ {ts:List Nat} {vs:List AV},cb g w vs (ts.map f)->∀ t,Rel g w (lk (jn ts vs) t) (f t)
 | [],vs,h,t=>by cases vs<;>exact .bad _
 |t0::ts,[],h,t=>.bad _
 |t0::ts,v::vs,h,t=>by
  rw [jn,og];by_cases e:t0=t
  ·subst e;rw [if_pos rfl];exact h.head
  ·rw [if_neg e];exact aty h.tail t
theorem gj.read {B:fi} {nt L st g a w} (hh:gj B nt L st g a w) {α:Type} (A:AC α) (ts:List Nat) {x : α} (hd:A.get st.h (ts.map (lk L))=some x):cb (gK w.heap.size (vj w)) w (A.E x) (ts.map fun t=>a.tmps.getD t undef):=by
 refine A.ok (b0:=w.heap.size) (K:=vj w) hh.cur.ok ⟨fun b j hk=>hh.cur.ok.K b j hk,fun o cells k s e ho b base hi j hj=>?_⟩ ⟨by simp,fun i x v hx hv=>?_⟩ hd
 ·obtain ⟨b',base',h5,_,h6⟩:=hh.cur.ok.obj o _ ho;rw [hi] at h5;cases h5;exact h6.lt
 ·rw [zzj,zzk] at hx hv;obtain ⟨t,e1,rfl⟩:=hx;obtain ⟨t',e2,rfl⟩:=hv;rw [e1] at e2;cases e2;exact hh.sl.2 t
def s6 (n:Nat) (ts:List Nat) (tmps:Array Value):NT:=⟨n,ts.map fun t=>(t,tmps.getD t undef)⟩
theorem S0 {nt:NT} {tmps:Array Value} (ts:List Nat) (h:qx nt tmps):qx (s6 nt.n ts tmps) tmps:=⟨h.size,fun p hp=>by obtain ⟨t,_,rfl⟩:=zyj.1 hp;rfl⟩
theorem B3 {n:Nat} {ts:List Nat} {tmps dC:Array Value} (h:qx (s6 n ts tmps) dC) {t:Nat} (ht:t ∈ ts):dC.getD t undef=tmps.getD t undef:=h.fix _ (zyj.2 ⟨t,ht,rfl⟩)
theorem Vv {n:Nat} {ts:List Nat} {tmps dC:Array Value} (h:qx (s6 n ts tmps) dC) {us:List Nat} (hu:∀ u ∈ us,u ∈ ts):us.map (fun t=>dC.getD t undef)=us.map (fun t=>tmps.getD t undef):=List.map_congr_left fun t ht=>B3 h (hu t ht)
theorem Rel.stay {b0 b1:Nat} {K K':Nat->Nat->Prop} {w w':World} {a:AV} {v:Value} (hb0:∀ b,b0<=b->(∀ j,K b j)->b1<=b) (hK:∀ b j,K b j->K' b j) (hh:∀ b j,K b j->w'.heap[b]? = w.heap[b]?) (h:Rel (gK b0 K) w a v):Rel (gK b1 K') w' a v:=by
 have hno:∀ o p,(gK b0 K).inj o≠some p:=fun o p e=>by cases e
 generalize hg:gK b0 K=g0 at h hno;have lF:∀ b j,g0.K b j->K b j:=by subst hg;exact fun _ _ h=>h
 have hb:g0.b0=b0:=by subst hg;rfl
 clear hg;have hc:∀ (b j:Nat),g0.K b j->w'.cell? ⟨b,j,none⟩=w.cell? ⟨b,j,none⟩:=fun b j hk=>rh (hh b j (lF b j hk))
 induction h with
 |sc x=>exact .sc x
 |agg l vs hs _ ih=>exact .agg l vs hs ih
 |iw l vs hs _ ih=>exact .iw l vs hs ih
 |vl loc sz es b off cap c hsz hl aL h _ hw ih=>
  refine .vl loc sz es b off cap c hsz (fun e=>hb0 b (by rw [<- hb];exact hl e) (fun j=>lF _ _ ((hw e).K j))) aL (fun j a hj=>⟨hK _ _ (lF _ _ (h j a hj).1),(hc _ _ (h j a hj).1).trans (h j a hj).2⟩) ih (fun e=>?_);obtain ⟨w1,⟨cs,e,w2,w3⟩,w4,w5⟩:=hw e;exact ⟨fun j=>hK _ _ (lF _ _ (w1 j)),⟨cs,e,(hh b 0 (lF _ _ (w1 0))).trans w2,w3⟩,w4,w5⟩
 |lx loc sz=>exact .lx loc sz
 |vo loc sz a=>exact .vo loc sz a
 |sl o off len sz b base cap hi hc hm hr=>exact (hno _ _ hi).elim
 |wo o off sz a=>exact .wo o off sz a
 |xp o off sz=>exact .xp o off sz
 |ez a=>exact .ez a
 |ptr o off b base hi=>exact (hno _ _ hi).elim
 |fe l b off c h _ ih=>exact .fe l b off c (fun j a hj=>⟨hK _ _ (lF _ _ (h j a hj).1),(hc _ _ (h j a hj).1).trans (h j a hj).2⟩) ih
 |fn f first captured va vb hs _ hs' _ ih ih'=>exact .fn f first captured va vb hs ih hs' ih'
 |mp o b base hi=>exact (hno _ _ hi).elim
 |tt t a v _ ih=>exact .tt t a v ih
 |yl o b base hi=>exact (hno _ _ hi).elim
 |bad v=>exact .bad v
theorem Rel.low {S:Nat->Prop} {w1 D ds w} (h:rn S w1 D ds w) (hS:∀ b,b<w1.heap.size->¬ S b) {a:AV} {v:Value} (hr:Rel (gK w1.heap.size (vj w1)) w1 a v):Rel (gK w.heap.size (vj w)) w a v:=
 hr.stay (K:=vj w1) (K':=vj w) (fun b h1 h2=>absurd (h2 0) (Nat.not_lt.2 h1)) (fun b _ (hk:b<w1.heap.size)=>zyc hk h.size) (fun b _ (hk:b<w1.heap.size)=>h.low b hk (hS b hk))
theorem cb.low {S:Nat->Prop} {w1 D ds w} (h:rn S w1 D ds w) (hS:∀ b,b<w1.heap.size->¬ S b) {l:List AV} {vs:List Value} (hr:cb (gK w1.heap.size (vj w1)) w1 l vs):cb (gK w.heap.size (vj w)) w l vs:=⟨hr.1,fun i a v ha hv=>(hr.2 i a v ha hv).low h hS⟩
theorem rn.fin {B:fi} {tG nt:NT} {L st g a1 w1} (hp:B.be=0) (aG:B.k6) (aN:B.n0<=B.w.heap.size) (h1:gj B nt L st g a1 w1) {S:Nat->Prop} {a:Act} {w:World} (hm:rn S w1 a1.defers a.defers w) (hS:∀ b,b<w1.heap.size->¬ S b) (hO:∀ b,¬ B.O b) {r:Nat} {v:Value} (mS:qx tG a.tmps) (hv:a.tmps.getD r undef=v) {Q:QL} {e:Ex} (hq:Q e [(r,.sc v)] (bg [])):Fin B tG Q (uo e) a w:=by
 have hb:=h1.cur.base;have aB:=h1.cur.ok;have aY:∀ b,b<w1.heap.size->w.heap[b]? = w1.heap[b]? := fun b hlt=>hm.low b hlt (hS b hlt)
 have uP:∀ b j,B.K b j->b<w1.heap.size:=fun b j hk=>aB.K b j (hb.K b j hk)
 refine Fin.mk' (g:={ b0:=B.b0,inj:=fun _=>none,K:=B.K }) hq ⟨⟨?_,fun o x hx=>?_,fun o o' x x' b base base' _ hx=>?_,fun b j hk=>zyc (uP b j hk) hm.size⟩,fun o _ _=>rfl,⟨rfl,fun o ho=>?_,fun _ _ h=>h,fun b j hk=>?_,zzu hb.size hm.size,hm.os.trans hb.os,hm.tape.trans hb.tape,hm.output.trans hb.output,fun b hlt hn=>?_,fun o b base ho=>?_,fun _ _ h=>.inl h,fun b cs e fr h=>?_,fun b l h=>?_,fun b cs e fr h hk=>?_⟩,by rw [hp];exact zzb _⟩ ⟨mS,fun t=>?_⟩ ?_
 ·have:=aB.size;rw [hb.b0] at this;exact zzu this hm.size
 ·simp [bg,ng,Tr.get_nil] at hx
 ·simp [bg,ng,Tr.get_nil] at hx
 ·rcases ho with ho|ho
  ·rw [hp] at ho;cases ho
  ·exact (aG o ho).elim
 ·exact (rh (aY b (uP b j hk))).trans (hb.cell b j hk)
 ·have rB:=zyc hlt hb.size;exact (aY b rB).trans (hb.frame b hlt hn)
 ·simp [bg,ng,Tr.get_nil] at ho
 ·obtain ⟨cs',cX,q1,q2⟩:=hb.ta b cs e fr h;exact ⟨cs',cX,(aY b (cr q1)).trans q1,q2⟩
 ·obtain ⟨l',q1⟩:=hb.lp b l h;exact ⟨l',(aY b (cr q1)).trans q1⟩
 ·have q1:=hb.whole b cs e fr h hk;exact (aY b (cr (q1.trans h))).trans q1
 ·rw [og];by_cases e:r=t
  ·subst e;rw [if_pos rfl,hv];exact .sc _
  ·rw [if_neg e];exact .bad _
 ·obtain ⟨bs,e1,e2,e3⟩:=hm.Cc;obtain ⟨cs,c1,c2,c3⟩:=h1.Cc;refine ⟨bs++cs,by rw [e1,c1,zzw,zzc],?_,fun b hb'=>?_⟩
  ·rw [List.nodup_append];refine ⟨e2,c2,fun x hx y hy e=>?_⟩;subst e;have h2:=cr (c3 x hy).2.1;have h3:=(e3 x hx).1;omega
  ·have fB:jv { b0:=B.b0,inj:=fun _=>none,K:=B.K } (bg []).h b:=fun o base ho=>by simp [bg,ng,Tr.get_nil] at ho
   rcases zzq.1 hb' with hb'|hb'
   ·exact ⟨zzu aN (zzu hb.size (e3 b hb').1),(e3 b hb').2,fB⟩
   ·have q:=c3 b hb';exact ⟨q.1,(aY b (cr q.2.1)).trans q.2.1,fB⟩
def asp (x:Operand):Option Nat:=
 match x with
 |.tmp t=>some t
 |_=>none
def Ga (o:Oper):Option (Option Nat × Nat × List Nat):=
 match o.op,o.guard with
 |.call { callee:=.value (.func f),args,.. },none=>(args.toList.mapM asp).map fun ts=>(o.dst,f,ts)
 |_,_=>none
def N9 (ops:Array Oper) (n:Nat):Option (Option Nat × Nat × List Nat):=
 match ops.toList.drop n with
 | [o]=>Ga o
 |_=>none
theorem aaw:∀ {l:List Operand} {ts:List Nat},l.mapM asp=some ts->l=ts.map Operand.tmp
 | [],ts,h=>by simp at h;subst h;rfl
 |x::l,ts,h=>by
  simp only [List.mapM_cons,Option.bind_eq_bind,Option.bind_eq_some_iff] at h;obtain ⟨t,h1,us,h2,h3⟩:=h;cases h3;cases x with
  |tmp u=>simp only [asp,Option.some.injEq] at h1;subst h1;rw [List.map_cons,aaw h2]
  |_=>cases h1
theorem anr {ops:Array Oper} {n f:Nat} {d:Option Nat} {args:List Nat} (h:N9 ops n=some (d,f,args)):∃ c ts pos af ty,ops.toList.drop n=[⟨d,.call { callee:=.value (.func f),args:=(args.map Operand.tmp).toArray,argTypes:=ts },ty,pos,af,none⟩]/\c=():=by
 unfold N9 at h
 split at h
 ·rename_i o ho;obtain ⟨dst,op,ty,pos,af,gd⟩:=o;unfold Ga at h
  split at h
  ·rename_i f' aa ats h1 h2;simp only [zzk,Prod.mk.injEq] at h;obtain ⟨ts,h3,rfl,rfl,rfl⟩:=h;subst h1 h2;refine ⟨(),ats,pos,af,ty,?_,rfl⟩;rw [ho,<- aaw h3]
  ·cases h
 ·cases h
theorem am1 {P:Program} [KP P] {T:fc} (hT:ar P T) {B:fi} {nt:NT} (aG:B.k6) {N id n:Nat} {ops:Array Oper} {K:SL->St->Prop} {X:Exit->Act->World->Prop} {L st g a w} (hs:ey nt (.region id ops false)=true)
 {f:Nat} {args:List Nat} {d:Option Nat} (hl:N9 ops n=some (d,f,args)) (he:oi P f=true)
 (h:opsL P T ops (ops.toList.take n) K L st) (hh:gj B nt L st g a w)
 (hK:∀ L' st' g' a' w',K L' st'->gj B nt L' st' g' a' w'->Calls P f (args.map fun t=>a'.tmps.getD t undef).toArray w' (fun e w''=>∃ r,e = .returned r/\∀ a'',a''.defers=a'.defers->qx nt a''.tmps->(∀ dd,d=some dd->a''.tmps.getD dd undef=r)->X .normal a'' w'')) :
 (Code.region id ops false).wpIn (fu none) N P X a w:=by
 simp only [ey,zzh] at hs;obtain ⟨hd,hg⟩:=hs;obtain ⟨_,ts,pos,af,ty,hl,_⟩:=anr hl;have key:∀ (l:List Oper) (is:List Nat),(∀ o ∈ l,o ∈ ops)->is.map (fun i=>ops[i]?)=(l++ops.toList.drop n).map some->∀ L st g a w,opsL P T ops l K L st->gj B nt L st g a w->wpOpsIn (fu none) N P ops X is a w:=by
  intro l
  induction l with
  |nil=>
   intro is _ aI L st g a w h hh;rw [hl,List.nil_append] at aI
   match is,aI with
   | [i],aI=>
    simp only [List.map_cons,List.map_nil,List.cons.injEq,and_true] at aI;have hK':=hK L st g a w h hh;have ho:(⟨d,.call { callee:=.value (.func f),args:=(args.map Operand.tmp).toArray,argTypes:=ts },ty,pos,af,none⟩:Oper) ∈ ops:=by
     have:(⟨d,.call { callee:=.value (.func f),args:=(args.map Operand.tmp).toArray,argTypes:=ts },ty,pos,af,none⟩:Oper) ∈ ops.toList.drop n:=by rw [hl];exact zz0.2 rfl
     exact Array.mem_toList_iff.1 (List.mem_of_mem_drop this)
    simp only [wpOpsIn,aI];have hw:Region.wanted (⟨d,.call { callee:=.value (.func f),args:=(args.map Operand.tmp).toArray,argTypes:=ts },ty,pos,af,none⟩:Oper) (yielded ops a.tmps)=true:=by simp [Region.wanted]
    rw [hw,if_pos rfl];refine ⟨ka none P _ a w,?_⟩;rw [Oper.semAt_eq _ _ _ (by intro c e;cases e)];have hrun:(execOp a.eval (⟨d,.call { callee:=.value (.func f),args:=(args.map Operand.tmp).toArray,argTypes:=ts },ty,pos,af,none⟩:Oper)).run P w=(callFunc f (args.map fun t=>a.tmps.getD t undef).toArray).run P w:=by
     rw [D6 (h:=f) (first:=#[]) (captured:=#[]) (f:=.func f) rfl rfl]
     congr 2
     apply Array.ext';simp [Act.eval]
    rw [hrun,si he];refine ⟨(fun h=>(by cases h)),(qg (ro:=none) (n:=N - 1) hK').mono ?_⟩;rintro e w' ⟨r,rfl,hX⟩;have hdd:=fun dd (e:d=some dd)=>lu hd ho dd e
    show wpOpsIn (fu none) N P ops X [] (a.put d r) w';refine hX _ (put_defers _ _ _) (hh.sl.1.put hdd) (fun dd e=>?_);subst e;have:=(NT.I7 (hdd dd rfl)).1;show (a.tmps.setIfInBounds dd r).getD dd undef=r;rw [zze,zzz,if_pos rfl,if_pos (by rw [hh.sl.1.size];exact this)];rfl
   | [],aI=>cases aI
   |_::_::_,aI=>simp at aI
  |cons o l ih=>
   intro is hmem aI L st g a w h hh;obtain ⟨hc,hr,bL⟩:=hh;cases is with
   |nil=>cases aI
   |cons i is=>
    simp only [List.cons_append,List.map_cons,List.cons.injEq] at aI;obtain ⟨hi,aI⟩:=aI;have ho:=hmem o (by simp);simp only [wpOpsIn,hi];rcases wz hr (zy hg ho) h with ⟨hw,h1⟩|⟨hw,h1⟩
    ·rw [hw,if_pos rfl];unfold Nj Dj at h1;cases hop:gw P T o (dv L) st with
     |none=>
      rw [hop] at h1;refine H9 hc.ok (fun o ho=>hc.fresh o ho (aG o)) hr.eval h1 none N _ _ ?_;rintro u w' ⟨g',v,st',q0,q1,q2,q3,q4⟩;exact ih is (fun o ho=>hmem o (by simp [ho])) aI _ st' g' _ w' q0 ⟨hc.step (aG.tu _ _) ⟨q1,q2⟩ q3,(hr.ext q2.ext).put q4 (lu hd ho),by rw [put_defers];exact bL.step q2⟩
     |some p=>
      obtain ⟨v,st'⟩:=p;rw [hop] at h1;refine D4 hT hc.ok (hc.free (aG.tu _ _)) hr.eval hop none N _ _ ?_;rintro u w' ⟨g',q1,q2,q3⟩;exact ih is (fun o ho=>hmem o (by simp [ho])) aI _ st' g' _ w' h1 ⟨hc.step (aG.tu _ _) ⟨Ac hop,q1⟩ q2,(hr.ext q1.ext).put q3 (lu hd ho),by rw [put_defers];exact bL.step q1⟩
    ·rw [hw,if_neg (by simp)];refine ⟨ka none P o a w,?_⟩;exact ih is (fun o ho=>hmem o (by simp [ho])) aI _ st g _ w h1 ⟨hc,hr.put (.sc _) (lu hd ho),by rw [put_defers];exact bL⟩
 refine wpIn_region ?_;exact key (ops.toList.take n) (List.range ops.size) (fun o ho=>Array.mem_toList_iff.1 (zzr ho)) (by rw [zzm];exact Jg ops) L st g a w h hh
def ff:Nat->Code->Code
 |0,.seq a _=>a
 |n+1,.seq _ b=>ff n b
 |_,_=>.skip
def jh:Code->Array Oper
 |.region _ ops _=>ops
 |_=>#[]
def idC:Code->Nat
 |.region i _ _=>i
 |_=>0
theorem me {a b:Code}:ff 0 (.seq a b)=a:=rfl
theorem mf {n:Nat} {a b:Code}:ff (n+1) (.seq a b)=ff n b:=rfl
theorem ot {i ops d}:jh (.region i ops d)=ops:=rfl
theorem Ar:∀ {n:Nat} {c:Code},Ps (n+1) c=true->fm n c = .seq (ff n c) (fm (n+1) c)
 |0,.seq a b,_=>rfl
 |n+1,.seq a b,h=>Ar (n:=n) (c:=b) h
theorem aqq (n:Nat) (ts:List Nat) (x y:Array Value) (t:Nat):(s6 n ts x).has t=(s6 n ts y).has t:=by unfold NT.has s6;rw [List.all_map,List.all_map];rfl
theorem Gp {n:Nat} {ts:List Nat} {x y:Array Value}:∀ {c:Code},ey (s6 n ts x) c=true->ey (s6 n ts y) c=true:=by
 intro c
 induction c with
 |region i ops d=>
  intro h;simp only [ey,ri,mq,aqq n ts y x] at h ⊢;exact h
 |seq a b dR dQ=>intro h;simp only [ey,zzh] at h ⊢;exact ⟨dR h.1,dQ h.2⟩
 |cond c a b dR dQ=>intro h;simp only [ey,zzh] at h ⊢;exact ⟨dR h.1,dQ h.2⟩
 |block i b ih=>intro h;exact ih h
 |loop b ih=>intro h;exact ih h
 |scope b ih=>intro h;exact ih h
 |rangeFunc f ps a b dR dQ=>
  intro h;simp only [ey,zzh,aqq n ts y x] at h ⊢;exact ⟨⟨⟨⟨h.1.1.1.1,dR h.1.1.1.2⟩,dQ h.1.1.2⟩,h.1.2⟩,h.2⟩
 |_=>intro _;rfl
theorem ayq {P:Program} [KP P] {T:fc} (hT:ar P T) {B:fi} {nt:NT} (aG:B.k6) {N k n:Nat} {c:Code} (hsp:Ps (k+1) c=true) (fP:ff k c = .region (idC (ff k c)) (jh (ff k c)) false) (hs:ey nt (ff k c)=true)
 {d:Option Nat} {f:Nat} {args:List Nat} (dN:N9 (jh (ff k c)) n=some (d,f,args)) (he:oi P f=true) {K:SL->St->Prop} {L st g a w} (h:opsL P T (jh (ff k c)) ((jh (ff k c)).toList.take n) K L st) (hh:gj B nt L st g a w) {X:Exit->Act->World->Prop}
 (hK:∀ L' st' g' a' w',K L' st'->gj B nt L' st' g' a' w'->Calls P f (args.map fun t=>a'.tmps.getD t undef).toArray w' (fun e w''=>∃ r,e = .returned r/\∀ a'',a''.defers=a'.defers->qx nt a''.tmps->(∀ dd,d=some dd->a''.tmps.getD dd undef=r)->(fm (k+1) c).wpIn (fu none) N P X a'' w'')) :
 (fm k c).wpIn (fu none) N P X a w:=by
 rw [Ar hsp];refine wpIn_seq ?_;rw [fP] at hs ⊢;exact am1 hT aG hs dN he h hh hK
end
variable [TK]
theorem gj.exact {B:fi} {nt L st g a w} (hh:gj B nt L st g a w) {t:Nat} {x:Value} (h:lk L t = .sc x):a.tmps.getD t undef=x:=by have:=hh.sl.2 t;rw [h] at this;exact this.exact rfl
theorem gj.box {B:fi} {nt L st g a w} (hh:gj B nt L st g a w) {t o k:Nat} {cells:List AV} {et:TypeId} (hl:lk L t = .ptr o 0) (ho:st.h.get o=some (.row cells k 2 et)) :
 ∃ b cs,a.tmps.getD t undef = .pointer (some ⟨b,0,none⟩)/\B.b0<=b/\w.heap[b]? = some (.cells cs et (0,0))/\cb g w cells cs.toList:=by
 have h1:=hh.sl.2 t;rw [hl] at h1;obtain ⟨v,hv⟩:∃ v,a.tmps.getD t undef=v:=⟨_,rfl⟩;rw [hv] at h1 ⊢;cases h1 with
 |ptr _ _ b base hi=>
  obtain ⟨b',base',q1,q2,cs,fr,q3,q4,q5,q6,q7,q8,q9,kS⟩:=hh.cur.ok.obj o _ ho;rw [hi] at q1;cases q1;have hf:=q8 (by decide);obtain ⟨e1,e2⟩:=q9 rfl;subst hf e1;refine ⟨b,cs,rfl,by rw [<- hh.cur.base.b0];exact q2,q3,by simp [e2],fun i x v hx hv=>?_⟩;obtain ⟨c,hc,hr⟩:=q5 i x hx;rw [Nat.zero_add,<- zz2,hv] at hc;cases hc;exact hr
theorem aEy {g:Gh} {w:World} {b:Nat} {cs:Array Value} {e:TypeId} {fr:Nat × Nat} (h:w.heap[b]? = some (.cells cs e fr)) (hK:∀ j,g.K b j):Rel g w (.fe (cs.toList.map .sc)) (.pointer (some ⟨b,0,none⟩)):=by
 refine .fe _ b 0 (fun j=>cs.getD j undef) (fun j a ha=>⟨hK _,?_⟩) (fun j a ha=>?_)
 ·rw [zzj,zzk] at ha;obtain ⟨x,hx,rfl⟩:=ha;rw [Nat.zero_add];exact cell_of h (by have:=(zg.1 hx).1;simpa using this)
 ·rw [zzj,zzk] at ha;obtain ⟨x,hx,rfl⟩:=ha;rw [zz2] at hx;rw [zze,hx];exact .sc x
theorem aam {g:Gh} {w:World} {tmps:Array Value}:∀ {Ls:SL},(∀ p ∈ Ls,Rel g w p.2 (tmps.getD p.1 undef))->∀ t,Rel g w (lk Ls t) (tmps.getD t undef)
 | [],_,t=>.bad _
 |p::Ls,h,t=>by
  rw [og];by_cases e:p.1=t
  ·rw [if_pos e,<- e];exact h p (by simp)
  ·rw [if_neg e];exact aam (fun q hq=>h q (by simp [hq])) t
theorem gj.quiet {w0:World} {D:List Deferred} {nt L st g a w} (hh:gj (af8 w0 D) nt L st g a w) (S:Nat->Prop) (m:Nat) (xx:Bool):ji S m xx w0 w:=by have hb:=hh.cur.base;exact .quiet S m xx hb.size hb.os hb.tape hb.output (fun b h=>hb.frame b h (fun h=>h))
theorem gj.aIl {B:fi} {nt L st g a w} (hh:gj B nt L st g a w):yv g st.h (vj w):=⟨fun b j hk=>hh.cur.ok.K b j hk,fun o cells k s e ho b base hi j hj=>by obtain ⟨b',base',h5,_,h6⟩:=hh.cur.ok.obj o _ ho;rw [hi] at h5;cases h5;exact h6.lt⟩
theorem gj.aC2 {B:fi} {nt L st g a w} (hh:gj B nt L st g a w) {α:Type} (C:dp α) {x : α} {vs:List Value} (h:cb g w (C.cells true x) vs):cb (gK B.b0 (vj w)) w (C.cells true x) vs:=
 C.ok hh.cur.ok hh.aIl (fun _=>Nat.le_of_eq hh.cur.base.b0.symm) h (C.rt true st.h true x (fun _=>rfl))
theorem Qf {nt:NT} {n:Nat} {tmps:Array Value} (h:qx nt tmps) (hn:nt.n=n):qx (n:NT) tmps:=⟨by rw [h.size,hn],fun p hp=>by cases hp⟩
variable [TK]
noncomputable section
section
variable (P : Program) (ρ : Operand -> AV) (d : Option Tmp) (ty : TypeId) (pos : String) (af : Array Edge) (gd : Option (Nat × Bool)) (t u : TypeId) (x y : Operand)
theorem Rx (op:BinOp) (k k':IntKind) (a b:Int) (hx : ρ x = .sc (.int k a)) (hy : ρ y = .sc (.int k' b)) :
 rq P ρ ⟨d,.binOp op t x y u,ty,pos,af,gd⟩ op t (.sc (.int k a)) (.sc (.int k' b))=M.of ((ev P (binOp op t (.int k a) (.int k' b))).map .sc):=by
 have h1:∀ s:Sem Value,ev P (do pure (Next.value (<- s)))=(ev P s).map Next.value:=by
  intro s
  induction s with
  |pure b=>rfl
  |program k ih=>exact ih P
  |choose q k ih=>
   simp only [bind,Sem.bind,ev]
   split
   ·exact ih 0
   ·rfl
  |mark m k ih=>exact ih
  |_=>rfl
 have h2:execOp (fun z=>((ρ z).iu).getD undef) ⟨d,.binOp op t x y u,ty,pos,af,gd⟩=(do pure (Next.value (<- (do eqGuard op t x y (.int k a) (.int k' b);binOp op t (.int k a) (.int k' b))))):=by simp only [execOp,hx,hy,AV.iu,Option.getD_some]
 have h3:ev P (do eqGuard op t x y (.int k a) (.int k' b);binOp op t (.int k a) (.int k' b))=ev P (binOp op t (.int k a) (.int k' b)):=by cases op<;>rfl
 unfold rq tm;simp only [AV.iu,Option.isSome_some,Bool.and_self,cond_true];rw [h2,h1,h3];cases ev P (binOp op t (.int k a) (.int k' b))<;>rfl
theorem ax3 (k k':IntKind) (a b:Int) (h : 0<=b):ev P (binOp .shl t (.int k a) (.int k' b))=some (.int k (k.wrap (a * 2 ^ (min b.toNat k.bits)))):=by have:¬ b<0:=zO;simp [binOp,Op.shift,this,Hk]
theorem ax4 (k k':IntKind) (a b:Int) (h : 0<=b):ev P (binOp .shr t (.int k a) (.int k' b))=some (.int k (a.fdiv (2 ^ (min b.toNat k.bits)))):=by have:¬ b<0:=zO;simp [binOp,Op.shift,this,Hk]
theorem O1 (op:BinOp) (a b:Bool) (hx : ρ x = .sc (.bool a)) (hy : ρ y = .sc (.bool b)) :
 rq P ρ ⟨d,.binOp op t x y u,ty,pos,af,gd⟩ op t (.sc (.bool a)) (.sc (.bool b))=M.of ((ev P (binOp op t (.bool a) (.bool b))).map .sc):=by
 have h1:∀ s:Sem Value,ev P (do pure (Next.value (<- s)))=(ev P s).map Next.value:=by
  intro s
  induction s with
  |pure b=>rfl
  |program k ih=>exact ih P
  |choose q k ih=>
   simp only [bind,Sem.bind,ev]
   split
   ·exact ih 0
   ·rfl
  |mark m k ih=>exact ih
  |_=>rfl
 have h2:execOp (fun z=>((ρ z).iu).getD undef) ⟨d,.binOp op t x y u,ty,pos,af,gd⟩=(do pure (Next.value (<- (do eqGuard op t x y (.bool a) (.bool b);binOp op t (.bool a) (.bool b))))):=by simp only [execOp,hx,hy,AV.iu,Option.getD_some]
 have h3:ev P (do eqGuard op t x y (.bool a) (.bool b);binOp op t (.bool a) (.bool b))=ev P (binOp op t (.bool a) (.bool b)):=by cases op<;>rfl
 unfold rq tm;simp only [AV.iu,Option.isSome_some,Bool.and_self,cond_true];rw [h2,h1,h3];cases ev P (binOp op t (.bool a) (.bool b))<;>rfl
theorem aho {d:TypeDesc} (h:P.underlying t=some d):ev P (underlying t)=some d:=by rw [underlying];show ev P (match P.underlying t with|some d=>pure d|none=>_)=_;rw [h];rfl
theorem ahu (n:Nat) (a b:Bool) (h:P.underlying t=some .bool):ev P (Op.equalIn (n+1) t (.bool a) (.bool b))=some (a == b):=by simp only [Op.equalIn];rw [yx,aho P t h];rfl
theorem Vi (a b:Bool) (h:P.underlying t=some .bool):ev P (binOp .eql t (.bool a) (.bool b))=some (.bool (a == b)):=by show ev P (do pure (Value.bool (<- Op.equalIn (9999+1) t (.bool a) (.bool b))))=_;rw [yx,ahu P t 9999 a b h];rfl
theorem Pm (op:BinOp) (a b:ByteArray) (hx : ρ x = .sc (.string a)) (hy : ρ y = .sc (.string b)) :
 rq P ρ ⟨d,.binOp op t x y u,ty,pos,af,gd⟩ op t (.sc (.string a)) (.sc (.string b))=M.of ((ev P (binOp op t (.string a) (.string b))).map .sc):=by
 have h1:∀ s:Sem Value,ev P (do pure (Next.value (<- s)))=(ev P s).map Next.value:=by
  intro s
  induction s with
  |pure b=>rfl
  |program k ih=>exact ih P
  |choose q k ih=>
   simp only [bind,Sem.bind,ev]
   split
   ·exact ih 0
   ·rfl
  |mark m k ih=>exact ih
  |_=>rfl
 have h2:execOp (fun z=>((ρ z).iu).getD undef) ⟨d,.binOp op t x y u,ty,pos,af,gd⟩=(do pure (Next.value (<- (do eqGuard op t x y (.string a) (.string b);binOp op t (.string a) (.string b))))):=by simp only [execOp,hx,hy,AV.iu,Option.getD_some]
 have h3:ev P (do eqGuard op t x y (.string a) (.string b);binOp op t (.string a) (.string b))=ev P (binOp op t (.string a) (.string b)):=by cases op<;>rfl
 unfold rq tm;simp only [AV.iu,Option.isSome_some,Bool.and_self,cond_true];rw [h2,h1,h3];cases ev P (binOp op t (.string a) (.string b))<;>rfl
theorem str_eq (a b:ByteArray):(a.toList == b.toList)=decide (a=b):=by
 rw [ByteArray.toList_eq,ByteArray.toList_eq,zyb];simp only [beq_iff_eq,decide_eq_true_eq];constructor
 ·intro h;cases a;cases b
  congr 1
  exact Array.ext' h
 ·intro h;rw [h]
theorem Xq (a b:ByteArray):ev P (binOp .eql t (.string a) (.string b))=some (.bool (decide (a=b))):=by rw [<- str_eq];rfl
theorem Yi (a b:ByteArray):ev P (binOp .neq t (.string a) (.string b))=some (.bool (!decide (a=b))):=by rw [<- str_eq];rfl
end
def Sn (u:Option TypeDesc):Bool:=match u with|some (.slice _)=>true|_=>false
theorem ao9 (e):Sn (some (.slice e))=true:=id rfl
theorem api {u} (h:Sn u=true):∃ e,u=some (.slice e):=by
 unfold Sn at h;split at h
 ·exact ⟨_,rfl⟩
 ·cases h
theorem ao6 {P:Program} {t op x y} (h:Sn (P.underlying t)=true):Sm P t op x y=Sq op x y:=by obtain ⟨e,he⟩:=api h;unfold Sm;rw [he]
theorem Yx (P:Program) (ρ o op t l sz es b):rq P ρ o op t (.vl l sz es) b=Sm P t op (.vl l sz es) b:=id rfl
theorem apg (b):sn .eql b=M.pure (.sc (.bool b)):=id rfl
theorem Lo (P:Program) (ρ:Operand->AV) (d ty pos af gd) (t u:TypeId) (x y:Operand) (op:BinOp) (a b:Option Addr) (n c m k:Nat) (hx : ρ x = .sc (.slice a n c)) (hy : ρ y = .sc (.slice b m k)) :
 rq P ρ ⟨d,.binOp op t x y u,ty,pos,af,gd⟩ op t (.sc (.slice a n c)) (.sc (.slice b m k))=M.of ((ev P (binOp op t (.slice a n c) (.slice b m k))).map .sc):=by
 have h1:∀ s:Sem Value,ev P (do pure (Next.value (<- s)))=(ev P s).map Next.value:=by
  intro s
  induction s with
  |pure b=>rfl
  |program k ih=>exact ih P
  |choose q k ih=>
   simp only [bind,Sem.bind,ev]
   split
   ·exact ih 0
   ·rfl
  |mark m k ih=>exact ih
  |_=>rfl
 have h2:execOp (fun z=>((ρ z).iu).getD undef) ⟨d,.binOp op t x y u,ty,pos,af,gd⟩=(do pure (Next.value (<- (do eqGuard op t x y (.slice a n c) (.slice b m k);binOp op t (.slice a n c) (.slice b m k))))):=by simp only [execOp,hx,hy,AV.iu,Option.getD_some]
 have h3:ev P (do eqGuard op t x y (.slice a n c) (.slice b m k);binOp op t (.slice a n c) (.slice b m k))=ev P (binOp op t (.slice a n c) (.slice b m k)):=by cases op<;>rfl
 unfold rq tm;simp only [AV.iu,Option.isSome_some,Bool.and_self,cond_true];rw [h2,h1,h3];cases ev P (binOp op t (.slice a n c) (.slice b m k))<;>rfl
theorem aft {P:Program} {t:TypeId} {a:Option Addr} {n c m k:Nat} (d:Nat) (h:Sn (P.underlying t)=true):ev P (Op.equalIn (d+1) t (.slice a n c) (.slice none m k))=some a.isNone:=by obtain ⟨e,he⟩:=api h;simp only [Op.equalIn];rw [yx,aho P t he];cases a<;>rfl
theorem Sa {P:Program} {t:TypeId} {a:Option Addr} {n c m k:Nat} (h:Sn (P.underlying t)=true):ev P (binOp .eql t (.slice a n c) (.slice none m k))=some (.bool a.isNone):=by show ev P (do pure (Value.bool (<- Op.equalIn (9999+1) t (.slice a n c) (.slice none m k))))=_;rw [yx,aft 9999 h];rfl
end
end Go.Vm
section
namespace Go.Vm
theorem wR:type_of% @aqv/\type_of% @ahr/\type_of% @ack/\type_of% @au3/\type_of% @apm/\type_of% @ake/\type_of% @aqd/\type_of% @aji/\type_of% @aqt/\type_of% @aw0/\type_of% @ayd/\type_of% @awl/\type_of% @avc/\type_of% @aww/\type_of% @aze/\type_of% @awt/\type_of% @aq3/\type_of% @apx/\type_of% @aqe/\type_of% @axa/\type_of% @auy/\type_of% @adl/\type_of% @agy/\type_of% @aea/\type_of% @Xv/\type_of% @Y7/\type_of% @ah2/\type_of% @ai7/\type_of% @ak5/\type_of% @apd/\type_of% @alb/\type_of% @ajn/\type_of% @ac7/\type_of% @agl/\type_of% @acd/\type_of% @aeu/\type_of% @ajs/\type_of% @adr/\type_of% @aed/\type_of% @awu/\type_of% @Lm/\type_of% @Lr/\type_of% @ajr/\type_of% @ain/\type_of% @Zv/\type_of% @aq4/\type_of% @aia/\type_of% @ade/\type_of% @aid/\type_of% @apy/\type_of% @avk/\type_of% @awi/\type_of% @awx/\type_of% @azi/\type_of% @aye/\type_of% @au2/\type_of% @apj/\type_of% @aqg/\type_of% @ao5/\type_of% @aqh/\type_of% @ape/\type_of% @ago/\type_of% @ac5/\type_of% @Xl/\type_of% @W5/\type_of% @amg/\type_of% @aqx/\type_of% @aq0/\type_of% @X5/\type_of% @au9/\type_of% @axp/\type_of% @aja/\type_of% @ahp/\type_of% @aph/\type_of% @Uw/\type_of% @Qk:=
 ⟨@aqv,@ahr,@ack,@au3,@apm,@ake,@aqd,@aji,@aqt,@aw0,@ayd,@awl,@avc,@aww,@aze,@awt,@aq3,@apx,@aqe,@axa,@auy,@adl,@agy,@aea,@Xv,@Y7,@ah2,@ai7,@ak5,@apd,@alb,@ajn,@ac7,@agl,@acd,@aeu,@ajs,@adr,@aed,@awu,@Lm,@Lr,@ajr,@ain,@Zv,@aq4,@aia,@ade,@aid,@apy,@avk,@awi,@awx,@azi,@aye,@au2,@apj,@aqg,@ao5,@aqh,@ape,@ago,@ac5,@Xl,@W5,@amg,@aqx,@aq0,@X5,@au9,@axp,@aja,@ahp,@aph,@Uw,@Qk⟩
theorem R0:type_of% @ahk/\type_of% @ax1/\type_of% @List.length_take.{0}/\type_of% @nc0/\type_of% @nc1/\type_of% @Int.sub_zero/\type_of% @Int.sub_self/\type_of% @Int.add_zero/\type_of% @Int.zero_add/\type_of% @Zq/\type_of% @axq/\type_of% @ac4/\type_of% @akn/\type_of% @ao8/\type_of% @Uc/\type_of% @List.length_replicate.{0}/\type_of% @adh/\type_of% @adk/\type_of% @awy/\type_of% @Jf/\type_of% @U1/\type_of% @Rp/\type_of% @aj4/\type_of% @aj9/\type_of% @Xz/\type_of% @Ox/\type_of% @ahx/\type_of% @apn/\type_of% @ax5/\type_of% @Wr/\type_of% @Ji/\type_of% @Wh/\type_of% @ay3/\type_of% @aqc/\type_of% @Uo/\type_of% @Xb/\type_of% @T3/\type_of% @Qb/\type_of% @Zz/\type_of% @acj/\type_of% @Zs/\type_of% @Xj/\type_of% @Ux/\type_of% @Vd/\type_of% @List.length_append.{0}/\type_of% @rtT/\type_of% @rtF/\type_of% @Go.Vm.D9.eq_1/\type_of% @Go.Vm.bounds.eq_1/\type_of% @Go.Vm.Gy.eq_1/\type_of% @Go.Vm.Gy.eq_2/\type_of% @Go.Vm.Mr.eq_def:=
 ⟨@ahk,@ax1,@List.length_take.{0},@nc0,@nc1,@Int.sub_zero,@Int.sub_self,@Int.add_zero,@Int.zero_add,@Zq,@axq,@ac4,@akn,@ao8,@Uc,@List.length_replicate.{0},@adh,@adk,@awy,@Jf,@U1,@Rp,@aj4,@aj9,@Xz,@Ox,@ahx,@apn,@ax5,@Wr,@Ji,@Wh,@ay3,@aqc,@Uo,@Xb,@T3,@Qb,@Zz,@acj,@Zs,@Xj,@Ux,@Vd,@List.length_append.{0},@rtT,@rtF,@Go.Vm.D9.eq_1,@Go.Vm.bounds.eq_1,@Go.Vm.Gy.eq_1,@Go.Vm.Gy.eq_2,@Go.Vm.Mr.eq_def⟩
theorem R1:type_of% @Go.Vm.Th.eq_1/\type_of% @Go.Vm.Ek.eq_1/\type_of% @Go.Vm.Hr.eq_def/\type_of% @Go.Vm.o8.eq_1/\type_of% @Ld/\type_of% @O7/\type_of% @Vk/\type_of% @yh/\type_of% @Yv/\type_of% @Nat.div_one/\type_of% @Z2/\type_of% @Zr/\type_of% @ayy/\type_of% @T4/\type_of% @Yb/\type_of% @Tz/\type_of% @aCs/\type_of% @ao4/\type_of% @aqn/\type_of% @aDi/\type_of% @aCr/\type_of% @aqy/\type_of% @aca/\type_of% @aij/\type_of% @ad5/\type_of% @Kz/\type_of% @Od/\type_of% @Ky/\type_of% @Ix/\type_of% @Zb/\type_of% @aey/\type_of% @Zd/\type_of% @Vq/\type_of% @Y1/\type_of% @ac9/\type_of% @X4:=
 ⟨@Go.Vm.Th.eq_1,@Go.Vm.Ek.eq_1,@Go.Vm.Hr.eq_def,@Go.Vm.o8.eq_1,@Ld,@O7,@Vk,@yh,@Yv,@Nat.div_one,@Z2,@Zr,@ayy,@T4,@Yb,@Tz,@aCs,@ao4,@aqn,@aDi,@aCr,@aqy,@aca,@aij,@ad5,@Kz,@Od,@Ky,@Ix,@Zb,@aey,@Zd,@Vq,@Y1,@ac9,@X4⟩
theorem R2:type_of% @ao9/\type_of% @ao6/\type_of% @Yx/\type_of% @apg/\type_of% @Lo/\type_of% @Sa/\type_of% @Option.isNone_none.{0}/\type_of% @Option.isNone_some.{0}/\type_of% @apl/\type_of% @Uj/\type_of% @Ot/\type_of% @Se/\type_of% @Vc/\type_of% @Pt/\type_of% @adm/\type_of% @ali/\type_of% @ac2/\type_of% @Rr/\type_of% @Ow/\type_of% @P4/\type_of% @Oy/\type_of% @Lg/\type_of% @alw/\type_of% @H7/\type_of% @List.isEmpty_cons.{0}/\type_of% @List.isEmpty_nil.{0}/\type_of% @List.flatMap_nil.{0,0}/\type_of% @Ue/\type_of% @T9/\type_of% @Uh/\type_of% @U8/\type_of% @Xd/\type_of% @Yy/\type_of% @Wu/\type_of% @and_true/\type_of% @true_and/\type_of% @Tw/\type_of% @T8/\type_of% @acb/\type_of% @aq1/\type_of% @avx/\type_of% @and_self:=
 ⟨@ao9,@ao6,@Yx,@apg,@Lo,@Sa,@Option.isNone_none.{0},@Option.isNone_some.{0},@apl,@Uj,@Ot,@Se,@Vc,@Pt,@adm,@ali,@ac2,@Rr,@Ow,@P4,@Oy,@Lg,@alw,@H7,@List.isEmpty_cons.{0},@List.isEmpty_nil.{0},@List.flatMap_nil.{0,0},@Ue,@T9,@Uh,@U8,@Xd,@Yy,@Wu,@and_true,@true_and,@Tw,@T8,@acb,@aq1,@avx,@and_self⟩
theorem R3:type_of% @List.size_toArray.{0}/\type_of% @aer/\type_of% @ady/\type_of% @ahv/\type_of% @ajw/\type_of% @ac0/\type_of% @ah0/\type_of% @X1/\type_of% @al7/\type_of% @Ol/\type_of% @ab9/\type_of% @ag2/\type_of% @ael/\type_of% @O8/\type_of% @Rw/\type_of% @acr/\type_of% @aec/\type_of% @Mu/\type_of% @T2/\type_of% @ab6/\type_of% @aef/\type_of% @apr/\type_of% @Zi/\type_of% @ait/\type_of% @ac3/\type_of% @Za/\type_of% @akz/\type_of% @adv/\type_of% @acp/\type_of% @Zf/\type_of% @Yd/\type_of% @Vh/\type_of% @aCq/\type_of% @ako/\type_of% @aes/\type_of% @Vf/\type_of% @Pm/\type_of% @Xq/\type_of% @Yi/\type_of% @Bb/\type_of% @Go.Vm.cellsIn.eq_1/\type_of% @Go.Vm.cellsIn.eq_2/\type_of% @Go.Vm.cellsIn.eq_5/\type_of% @Go.Vm.cellsIn.eq_6/\type_of% @Go.Vm.Il.eq_1:=
 ⟨@List.size_toArray.{0},@aer,@ady,@ahv,@ajw,@ac0,@ah0,@X1,@al7,@Ol,@ab9,@ag2,@ael,@O8,@Rw,@acr,@aec,@Mu,@T2,@ab6,@aef,@apr,@Zi,@ait,@ac3,@Za,@akz,@adv,@acp,@Zf,@Yd,@Vh,@aCq,@ako,@aes,@Vf,@Pm,@Xq,@Yi,@Bb,@Go.Vm.cellsIn.eq_1,@Go.Vm.cellsIn.eq_2,@Go.Vm.cellsIn.eq_5,@Go.Vm.cellsIn.eq_6,@Go.Vm.Il.eq_1⟩
theorem R4:type_of% @Go.Vm.Nr.eq_1/\type_of% @I4/\type_of% @Rc/\type_of% @Qm/\type_of% @Rn/\type_of% @Gr/\type_of% @Jq/\type_of% @Kh/\type_of% @Iu/\type_of% @Ph/\type_of% @Lw/\type_of% @Qz/\type_of% @Gz/\type_of% @Pb/\type_of% @P0/\type_of% @O3/\type_of% @G1/\type_of% @O5/\type_of% @Qa/\type_of% @Ua/\type_of% @Re/\type_of% @ad6/\type_of% @ql/\type_of% @Zx/\type_of% @Ub/\type_of% @akr/\type_of% @vv/\type_of% @ap7/\type_of% @ayx/\type_of% @axv/\type_of% @X9/\type_of% @Xc/\type_of% @Jk/\type_of% @aem/\type_of% @X7:=
 ⟨@Go.Vm.Nr.eq_1,@I4,@Rc,@Qm,@Rn,@Gr,@Jq,@Kh,@Iu,@Ph,@Lw,@Qz,@Gz,@Pb,@P0,@O3,@G1,@O5,@Qa,@Ua,@Re,@ad6,@ql,@Zx,@Ub,@akr,@vv,@ap7,@ayx,@axv,@X9,@Xc,@Jk,@aem,@X7⟩
theorem R5:type_of% @Go.Vm.xa.eq_1/\type_of% @List.flatten_cons.{0}/\type_of% @List.flatten_nil.{0}/\type_of% @List.replicate_succ.{0}/\type_of% @List.replicate_zero.{0}/\type_of% @aex/\type_of% @ac8/\type_of% @axx/\type_of% @ap8/\type_of% @aCt/\type_of% @aCn/\type_of% @aDc/\type_of% @Mz/\type_of% @H8/\type_of% @Ng/\type_of% @Du/\type_of% @Tv/\type_of% @Ns/\type_of% @Ks/\type_of% @O9/\type_of% @Cw/\type_of% @E5/\type_of% @Ty/\type_of% @ad0/\type_of% @K5/\type_of% @Bx/\type_of% @Jm/\type_of% @Lq/\type_of% @Gw/\type_of% @U9/\type_of% @Vn/\type_of% @P2/\type_of% @Hy/\type_of% @Yr/\type_of% @Y6/\type_of% @Rx/\type_of% @O1/\type_of% @ax3/\type_of% @ax4/\type_of% @Vi/\type_of% @Go.IntKind.bits.eq_6/\type_of% @Nat.min_def/\type_of% @aCm/\type_of% @aCx:=
 ⟨@Go.Vm.xa.eq_1,@List.flatten_cons.{0},@List.flatten_nil.{0},@List.replicate_succ.{0},@List.replicate_zero.{0},@aex,@ac8,@axx,@ap8,@aCt,@aCn,@aDc,@Mz,@H8,@Ng,@Du,@Tv,@Ns,@Ks,@O9,@Cw,@E5,@Ty,@ad0,@K5,@Bx,@Jm,@Lq,@Gw,@U9,@Vn,@P2,@Hy,@Yr,@Y6,@Rx,@O1,@ax3,@ax4,@Vi,@Go.IntKind.bits.eq_6,@Nat.min_def,@aCm,@aCx⟩
theorem R6:type_of% @aC8/\type_of% @aC1/\type_of% @aC9/\type_of% @aCw/\type_of% @aDm/\type_of% @aCu/\type_of% @aDf/\type_of% @aC6/\type_of% @ajg/\type_of% @akd/\type_of% @aB7/\type_of% @aGl/\type_of% @asx/\type_of% @Go.Vm.Nv.eq_1/\type_of% @Go.Vm.E1.eq_1/\type_of% @Go.Vm.An.eq_def/\type_of% @Go.Vm.I2.eq_1/\type_of% @Go.Vm.Ib.eq_1/\type_of% @Go.Vm.B0.eq_1/\type_of% @Go.Vm.sm.eq_1/\type_of% @Go.Vm.sm.eq_2/\type_of% @Go.Vm.AV.known.eq_2/\type_of% @Go.Value.oneCell'.eq_3/\type_of% @Go.Vm.AV.cells.eq_1/\type_of% @Go.Vm.AV.cells.eq_2/\type_of% @Go.Vm.AV.cells.eq_3/\type_of% @Go.Value.cells.eq_1/\type_of% @Go.Value.cells.eq_2/\type_of% @Go.Vm.AV.one.eq_4/\type_of% @Go.Vm.AV.one.eq_5/\type_of% @Go.Vm.vi.eq_1/\type_of% @Go.Vm.uh.eq_1/\type_of% @Go.Vm.uh.eq_2/\type_of% @Go.Vm.abd.eq_1/\type_of% @Go.Vm.ua.eq_1/\type_of% @Go.Vm.yn.eq_2/\type_of% @Go.Vm.yn.eq_6/\type_of% @Go.Vm.lq.eq_1:=
 ⟨@aC8,@aC1,@aC9,@aCw,@aDm,@aCu,@aDf,@aC6,@ajg,@akd,@aB7,@aGl,@asx,@Go.Vm.Nv.eq_1,@Go.Vm.E1.eq_1,@Go.Vm.An.eq_def,@Go.Vm.I2.eq_1,@Go.Vm.Ib.eq_1,@Go.Vm.B0.eq_1,@Go.Vm.sm.eq_1,@Go.Vm.sm.eq_2,@Go.Vm.AV.known.eq_2,@Go.Value.oneCell'.eq_3,@Go.Vm.AV.cells.eq_1,@Go.Vm.AV.cells.eq_2,@Go.Vm.AV.cells.eq_3,@Go.Value.cells.eq_1,@Go.Value.cells.eq_2,@Go.Vm.AV.one.eq_4,@Go.Vm.AV.one.eq_5,@Go.Vm.vi.eq_1,@Go.Vm.uh.eq_1,@Go.Vm.uh.eq_2,@Go.Vm.abd.eq_1,@Go.Vm.ua.eq_1,@Go.Vm.yn.eq_2,@Go.Vm.yn.eq_6,@Go.Vm.lq.eq_1⟩
theorem R7:type_of% @Go.Vm.lq.eq_3/\type_of% @Go.Vm.lq.eq_4/\type_of% @Go.Vm.Nf.eq_1/\type_of% @Go.Vm.S7.eq_1/\type_of% @Go.Vm.akg.eq_1/\type_of% @Go.Vm.pg.eq_1/\type_of% @Go.Vm.pg.eq_2/\type_of% @Go.Vm.pg.eq_3/\type_of% @Go.Vm.pg.eq_4/\type_of% @Go.Vm.pg.eq_5/\type_of% @Go.Vm.pg.eq_6/\type_of% @Go.Vm.pg.eq_7/\type_of% @Go.Vm.pg.eq_8/\type_of% @Go.Vm.pg.eq_9/\type_of% @Go.Vm.pg.eq_10/\type_of% @Go.Vm.AV.int.eq_1/\type_of% @Go.Vm.AV.bool.eq_1/\type_of% @Go.Vm.AV.exact.eq_1/\type_of% @Go.Vm.AV.exact.eq_2/\type_of% @Go.Vm.intOf.eq_1/\type_of% @Go.Vm.intOf.eq_2/\type_of% @Go.Vm.qz.eq_1/\type_of% @Go.Vm.u9.eq_1/\type_of% @Go.Vm.Ci.eq_1/\type_of% @Go.Vm.Ci.eq_2/\type_of% @Go.Vm.wm.eq_1/\type_of% @Go.Vm.F8.eq_1/\type_of% @Go.Vm.qp.eq_1/\type_of% @Go.Vm.z7.eq_1/\type_of% @Go.Vm.ug.eq_1/\type_of% @Go.Vm.ug.eq_3/\type_of% @Go.Vm.ug.eq_9/\type_of% @Go.Vm.Qi.eq_1/\type_of% @Go.Vm.V7.eq_1/\type_of% @Go.Vm.Wv.eq_1/\type_of% @Go.Vm.isSlice.eq_3/\type_of% @Go.Vm.isSlice.eq_4/\type_of% @Go.Vm.Sw.eq_1/\type_of% @Go.goInt.eq_1/\type_of% @axk/\type_of% @ax6/\type_of% @av4:=
 ⟨@Go.Vm.lq.eq_3,@Go.Vm.lq.eq_4,@Go.Vm.Nf.eq_1,@Go.Vm.S7.eq_1,@Go.Vm.akg.eq_1,@Go.Vm.pg.eq_1,@Go.Vm.pg.eq_2,@Go.Vm.pg.eq_3,@Go.Vm.pg.eq_4,@Go.Vm.pg.eq_5,@Go.Vm.pg.eq_6,@Go.Vm.pg.eq_7,@Go.Vm.pg.eq_8,@Go.Vm.pg.eq_9,@Go.Vm.pg.eq_10,@Go.Vm.AV.int.eq_1,@Go.Vm.AV.bool.eq_1,@Go.Vm.AV.exact.eq_1,@Go.Vm.AV.exact.eq_2,@Go.Vm.intOf.eq_1,@Go.Vm.intOf.eq_2,@Go.Vm.qz.eq_1,@Go.Vm.u9.eq_1,@Go.Vm.Ci.eq_1,@Go.Vm.Ci.eq_2,@Go.Vm.wm.eq_1,@Go.Vm.F8.eq_1,@Go.Vm.qp.eq_1,@Go.Vm.z7.eq_1,@Go.Vm.ug.eq_1,@Go.Vm.ug.eq_3,@Go.Vm.ug.eq_9,@Go.Vm.Qi.eq_1,@Go.Vm.V7.eq_1,@Go.Vm.Wv.eq_1,@Go.Vm.isSlice.eq_3,@Go.Vm.isSlice.eq_4,@Go.Vm.Sw.eq_1,@Go.goInt.eq_1,@axk,@ax6,@av4⟩
theorem R8:type_of% @Go.Vm.pack.eq_1/\type_of% @Go.Vm.pack.eq_2/\type_of% @Go.Vm.cp.eq_1/\type_of% @Go.Vm.cp.eq_2/\type_of% @Go.Vm.bg.eq_1/\type_of% @Go.Vm.ng.eq_1/\type_of% @Go.Vm.ng.eq_2/\type_of% @Go.Vm.wt.eq_1/\type_of% @l5/\type_of% @yc/\type_of% @aev/\type_of% @ahj/\type_of% @uu/\type_of% @u1/\type_of% @Ge/\type_of% @W7/\type_of% @W3/\type_of% @Xu/\type_of% @Uf/\type_of% @Z6/\type_of% @Go.Vm.jc.eq_1/\type_of% @Go.Vm.gh.eq_1/\type_of% @Go.Vm.jd.eq_1/\type_of% @Go.Vm.qf.eq_1/\type_of% @Go.Vm.qf.eq_2/\type_of% @Go.Vm.reach.eq_2/\type_of% @Go.Vm.reach.eq_3/\type_of% @Go.Vm.ga.eq_1/\type_of% @Go.Vm.ew.eq_1/\type_of% @Go.Vm.ew.eq_2/\type_of% @Go.Vm.AV.names.eq_1/\type_of% @Go.Vm.AV.names.eq_2/\type_of% @Go.Vm.AV.names.eq_3/\type_of% @Go.Vm.AV.names.eq_4/\type_of% @Go.Vm.AV.names.eq_5/\type_of% @Go.Vm.AV.names.eq_9/\type_of% @Go.Vm.AV.names.go.eq_1/\type_of% @Go.Vm.AV.names.go.eq_2/\type_of% @Go.Vm.bp.names.eq_1/\type_of% @Go.Vm.AV.de.eq_1/\type_of% @Go.Vm.AV.de.eq_2/\type_of% @Go.Vm.AV.de.eq_3/\type_of% @Go.Vm.AV.de.eq_4/\type_of% @Go.Vm.AV.de.eq_5/\type_of% @Go.Vm.AV.de.eq_6/\type_of% @Go.Vm.AV.de.eq_7/\type_of% @Go.Vm.AV.de.eq_11:=
 ⟨@Go.Vm.pack.eq_1,@Go.Vm.pack.eq_2,@Go.Vm.cp.eq_1,@Go.Vm.cp.eq_2,@Go.Vm.bg.eq_1,@Go.Vm.ng.eq_1,@Go.Vm.ng.eq_2,@Go.Vm.wt.eq_1,@l5,@yc,@aev,@ahj,@uu,@u1,@Ge,@W7,@W3,@Xu,@Uf,@Z6,@Go.Vm.jc.eq_1,@Go.Vm.gh.eq_1,@Go.Vm.jd.eq_1,@Go.Vm.qf.eq_1,@Go.Vm.qf.eq_2,@Go.Vm.reach.eq_2,@Go.Vm.reach.eq_3,@Go.Vm.ga.eq_1,@Go.Vm.ew.eq_1,@Go.Vm.ew.eq_2,@Go.Vm.AV.names.eq_1,@Go.Vm.AV.names.eq_2,@Go.Vm.AV.names.eq_3,@Go.Vm.AV.names.eq_4,@Go.Vm.AV.names.eq_5,@Go.Vm.AV.names.eq_9,@Go.Vm.AV.names.go.eq_1,@Go.Vm.AV.names.go.eq_2,@Go.Vm.bp.names.eq_1,@Go.Vm.AV.de.eq_1,@Go.Vm.AV.de.eq_2,@Go.Vm.AV.de.eq_3,@Go.Vm.AV.de.eq_4,@Go.Vm.AV.de.eq_5,@Go.Vm.AV.de.eq_6,@Go.Vm.AV.de.eq_7,@Go.Vm.AV.de.eq_11⟩
theorem R9:type_of% @Go.Vm.bp.de.eq_1/\type_of% @M6/\type_of% @aqm/\type_of% @Go.Vm.jw.eq_1/\type_of% @Go.Vm.jw.eq_2/\type_of% @Go.Vm.jn.eq_2/\type_of% @jt/\type_of% @Option.bind_some.{0,0}/\type_of% @Option.bind_none.{0,0}/\type_of% @Option.map_some.{0,0}/\type_of% @Option.getD_some.{0}/\type_of% @Option.getD_none.{0}/\type_of% @Option.isSome_some.{0}/\type_of% @List.getElem?_cons_zero.{0}/\type_of% @List.getElem?_toArray.{0}/\type_of% @Go.Vm.dm.eq_1/\type_of% @List.drop_zero.{0}/\type_of% @List.drop_succ_cons.{0}/\type_of% @List.drop_nil.{0}/\type_of% @List.take_succ_cons.{0}/\type_of% @List.take_zero.{0}/\type_of% @List.length_cons.{0}/\type_of% @List.length_nil.{0}/\type_of% @List.length_map.{0,0}/\type_of% @List.getElem?_cons_succ.{0}/\type_of% @List.getElem?_nil.{0}/\type_of% @List.getElem?_map.{0,0}/\type_of% @List.getElem?_drop.{0}/\type_of% @List.map_cons.{0,0}/\type_of% @List.map_nil.{0,0}/\type_of% @List.nil_append.{0}/\type_of% @List.cons_append.{0}/\type_of% @List.append_nil.{0}/\type_of% @List.all_cons.{0}/\type_of% @List.all_nil.{0}/\type_of% @cond_true.{1}/\type_of% @cond_false.{1}/\type_of% @decide_true/\type_of% @decide_false/\type_of% @Bool.and_true/\type_of% @Bool.true_and/\type_of% @Bool.and_self/\type_of% @Bool.not_true/\type_of% @Bool.not_false/\type_of% @BEq.rfl.{0}/\type_of% @zzb/\type_of% @zza/\type_of% @Nat.add_zero/\type_of% @Nat.zero_add/\type_of% @Nat.mul_one/\type_of% @Int.toNat_natCast/\type_of% @Int.natCast_nonneg:=
 ⟨@Go.Vm.bp.de.eq_1,@M6,@aqm,@Go.Vm.jw.eq_1,@Go.Vm.jw.eq_2,@Go.Vm.jn.eq_2,@jt,@Option.bind_some.{0,0},@Option.bind_none.{0,0},@Option.map_some.{0,0},@Option.getD_some.{0},@Option.getD_none.{0},@Option.isSome_some.{0},@List.getElem?_cons_zero.{0},@List.getElem?_toArray.{0},@Go.Vm.dm.eq_1,@List.drop_zero.{0},@List.drop_succ_cons.{0},@List.drop_nil.{0},@List.take_succ_cons.{0},@List.take_zero.{0},@List.length_cons.{0},@List.length_nil.{0},@List.length_map.{0,0},@List.getElem?_cons_succ.{0},@List.getElem?_nil.{0},@List.getElem?_map.{0,0},@List.getElem?_drop.{0},@List.map_cons.{0,0},@List.map_nil.{0,0},@List.nil_append.{0},@List.cons_append.{0},@List.append_nil.{0},@List.all_cons.{0},@List.all_nil.{0},@cond_true.{1},@cond_false.{1},@decide_true,@decide_false,@Bool.and_true,@Bool.true_and,@Bool.and_self,@Bool.not_true,@Bool.not_false,@BEq.rfl.{0},@zzb,@zza,@Nat.add_zero,@Nat.zero_add,@Nat.mul_one,@Int.toNat_natCast,@Int.natCast_nonneg⟩
theorem R10:type_of% @Nat.sub_self/\type_of% @List.contains_nil.{0}/\type_of% @List.contains_cons.{0}/\type_of% @Bool.or_false/\type_of% @Bool.false_or/\type_of% @Bool.or_true/\type_of% @Bool.true_or/\type_of% @List.map_map.{0,0,0}/\type_of% @alu/\type_of% @Cl/\type_of% @Ke/\type_of% @P7/\type_of% @ac6/\type_of% @zj/\type_of% @Yh/\type_of% @U3/\type_of% @W0/\type_of% @aHq/\type_of% @aG4/\type_of% @aGw/\type_of% @aGz/\type_of% @aHx/\type_of% @aGi/\type_of% @akl/\type_of% @agf/\type_of% @acv/\type_of% @Xy/\type_of% @ahm/\type_of% @Go.Vm.AV.fresh.eq_1/\type_of% @Go.Vm.AV.fresh.eq_3/\type_of% @Go.Vm.AV.fresh.eq_4/\type_of% @Go.Vm.AV.fresh.go.eq_1/\type_of% @Go.Vm.AV.fresh.go.eq_2/\type_of% @List.map_append.{0,0}:=
 ⟨@Nat.sub_self,@List.contains_nil.{0},@List.contains_cons.{0},@Bool.or_false,@Bool.false_or,@Bool.or_true,@Bool.true_or,@List.map_map.{0,0,0},@alu,@Cl,@Ke,@P7,@ac6,@zj,@Yh,@U3,@W0,@aHq,@aG4,@aGw,@aGz,@aHx,@aGi,@akl,@agf,@acv,@Xy,@ahm,@Go.Vm.AV.fresh.eq_1,@Go.Vm.AV.fresh.eq_3,@Go.Vm.AV.fresh.eq_4,@Go.Vm.AV.fresh.go.eq_1,@Go.Vm.AV.fresh.go.eq_2,@List.map_append.{0,0}⟩
theorem RA:type_of% R0/\type_of% R1/\type_of% R2/\type_of% R3/\type_of% R4/\type_of% R5/\type_of% R6/\type_of% R7/\type_of% R8/\type_of% R9/\type_of% R10:=
 ⟨R0,R1,R2,R3,R4,R5,R6,R7,R8,R9,R10⟩
theorem FB:type_of% @List.cons.injEq.{0}/\type_of% @acq/\type_of% @ad9/\type_of% @List.length_append.{0}/\type_of% @List.length_cons.{0}/\type_of% @List.length_nil.{0}/\type_of% @List.map_append.{0,0}/\type_of% @List.map_cons.{0,0}/\type_of% @List.map_nil.{0,0}/\type_of% @and_true/\type_of% @true_and/\type_of% @and_self/\type_of% @AV.sc.injEq/\type_of% @AV.sl.injEq/\type_of% @bp.row.injEq/\type_of% @Option.some.injEq.{0}/\type_of% @Value.int.injEq/\type_of% @Nat.zero_add:=
 ⟨@List.cons.injEq.{0},@acq,@ad9,@List.length_append.{0},@List.length_cons.{0},@List.length_nil.{0},@List.map_append.{0,0},@List.map_cons.{0,0},@List.map_nil.{0,0},@and_true,@true_and,@and_self,@AV.sc.injEq,@AV.sl.injEq,@bp.row.injEq,@Option.some.injEq.{0},@Value.int.injEq,@Nat.zero_add⟩
theorem zF {p:Prop} (h:p:=by (first|rfl|trivial|omega|((try (simp (disch:=omega) only [ah]));(try (simp only [FB]));first|done|rfl|omega))):p:=h
end Go.Vm
end
