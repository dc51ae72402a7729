/- A piece of the proof of the law AnswerReplies: lemmas. No condition. -/
import Derived.Test.YtjagjbceegbaiaaGreatProg
import Derived.Test.YtjagjbceegbaiaaGreatRows
import Derived.Test.YtjagjbceegbaiaaGreatR2
set_option linter.unusedSimpArgs false
set_option linter.unusedVariables false
set_option linter.unusedSectionVars false
set_option maxRecDepth 2000000
section
namespace Go.Vm
variable [TK]
noncomputable section
open Go.ChangeShapes Go.WideShapes Go.ChangeAt
mutual
def n8 {H:Type}:DataW H->Nat
 |.lit (.string bytes)=>bytes.length+1
 |.lit _=>1
 |.nil=>1
 |.ptr d=>n8 d+1
 |.slice elems spare=>pk elems+pk spare+1
 |.agg parts=>pk parts+1
 |.iface _ d=>n8 d+1
 |.map entries=>Xa entries+1
 |.held _=>1
def pk {H:Type}:List (DataW H)->Nat
 | []=>0
 |d::r=>n8 d+pk r
def Xa {H:Type}:List (Lit × DataW H)->Nat
 | []=>0
 |x::r=>auq x+Xa r
def auq {H:Type}:Lit × DataW H->Nat
 |(.string bytes,d)=>bytes.length+n8 d+1
 |(_,d)=>n8 d+1
end
def aju (W:World):Nat->Nat->Prop:=fun b _=>b<W.heap.size
def Rd (P:Program) (t:TypeId) {α:Type} (C:dp α) (μ : α->Nat):Prop:=
 ∀ {H:Type} (enc:TypeId × Value->H) (W:World) (b0 fuel:Nat) (cs:List Value) (x:DataW H × List MemPlace),DataW.trod enc P W 0 (fun _=>true) true fuel t cs=some x ->
  ∃ y,cb (gK b0 (aju W)) W (C.cells false y) cs /\ μ y<=n8 x.1
theorem aIg {P:Program} {t:TypeId} (ht:P.underlying t=some (.int .u8)):Rd P t ca (fun _=>1):=by
 intro H enc W b0 fuel cs x h;obtain ⟨n,rfl,rfl,hw⟩:=DataW.trod_int ht h;have hx : 0<=n/\n<=255:=by simpa [Lit.wf,IntKind.min,IntKind.max,IntKind.signed,IntKind.bits] using hw
 refine ⟨UInt8.ofNat n.toNat,?_,by simp [n8]⟩;have:n=((UInt8.ofNat n.toNat).toNat:Int):=by rw [UInt8.toNat_ofNat'];omega
 exact cb.one (by (conv=>rhs;rw [this]);exact .sc _)
theorem ayu {P:Program} {t:TypeId} (ht:P.underlying t=some (.int .u16)):Rd P t cj (fun _=>1):=by
 intro H enc W b0 fuel cs x h;obtain ⟨n,rfl,rfl,hw⟩:=DataW.trod_int ht h;have hx : 0<=n/\n<=65535:=by simpa [Lit.wf,IntKind.min,IntKind.max,IntKind.signed,IntKind.bits] using hw
 refine ⟨UInt16.ofNat n.toNat,?_,by simp [n8]⟩;have:n=((UInt16.ofNat n.toNat).toNat:Int):=by rw [UInt16.toNat_ofNat'];omega
 exact cb.one (by (conv=>rhs;rw [this]);exact .sc _)
theorem ayp {P:Program} {t:TypeId} (ht:P.underlying t=some (.int .u32)):Rd P t cz (fun _=>1):=by
 intro H enc W b0 fuel cs x h;obtain ⟨n,rfl,rfl,hw⟩:=DataW.trod_int ht h;have hx : 0<=n/\n<=4294967295:=Go.bounds_u32 hw;refine ⟨UInt32.ofNat n.toNat,?_,by simp [n8]⟩;have:n=((UInt32.ofNat n.toNat).toNat:Int):=by rw [UInt32.toNat_ofNat'];omega
 exact cb.one (by (conv=>rhs;rw [this]);exact .sc _)
theorem aF1 {P:Program} {t:TypeId} (ht:P.underlying t=some .string):Rd P t ai (fun s=>s.size+1):=by intro H enc W b0 fuel cs x h;obtain ⟨s,rfl,rfl,_⟩:=DataW.trod_string ht h;refine ⟨s,cb.one (.sc _),?_⟩;show s.size+1<=n8 (DataW.lit (Lit.string s.data.toList));rw [n8,zz9];exact zza _
theorem aDt (ao k s v j:Nat) (h3:v=k * s) (hge:v<=j):ao+k * s+(j - v)=ao+j:=by rw [<- h3];omega
def vw {α:Type} (μ : α->Nat):List α->Nat
 | []=>0
 |x::r=>μ x+vw μ r
theorem U5 {α:Type} (μ : α->Nat):∀ a b:List α,vw μ (a++b)=vw μ a+vw μ b
 | [],b=>by simp [vw]
 |x::a,b=>by simp [vw,U5 μ a b];omega
theorem Pq {H:Type}:∀ a b:List (DataW H),pk (a++b)=pk a+pk b
 | [],b=>by simp [pk]
 |x::a,b=>by simp [pk,Pq a b];omega
theorem aDy {P:Program} {t e:TypeId} {α:Type} {C:dp α} {μ : α->Nat} (ht:P.underlying t=some (.slice e)) (hsz:P.cellsOf e=C.sz) (cG : 0<C.sz) (he:Rd P e C μ):Rd P t (cg C) (fun l=>vw μ l+1):=by
 intro H enc W b0 fuel cs x h;rcases Go.Deep.open_slice ht h with ⟨rfl,rfl⟩|⟨a,len,cap,m,n,D,Pl,rfl,_,hl,hm,hmm,rfl,hx⟩
 ·exact ⟨[],cb.one (.lx _ _),by simp [vw,n8]⟩
 ·simp only [if_true] at hmm;subst hmm;have spot : 0<m->a.spot=none/\a.block<W.heap.size:=by
   intro h0;obtain ⟨cs',h1,_⟩:=hx 0 h0;rw [hsz] at h1;simp only [World.cells?,zzb,if_true] at h1;have h2:=mapM_some_get h1 0 0 (by simp [cG]);have hlen:=mapM_some_length h1;have h3:∃ v,cs'[0]? = some v:=⟨cs'[0]'(by rw [hlen];simpa using cG),by simp⟩;obtain ⟨v,hv⟩:=h3;rw [hv] at h2;simp only [Nat.zero_mul,Addr.add,if_true] at h2;simp only [World.cell?] at h2
   split at h2
   ·rename_i c _ _ hb;cases hs:a.spot with
    |none=>exact ⟨rfl,cr hb⟩
    |some s=>simp [hs] at h2
   ·cases h2
  have build:∀ k,k<=len->∃ (xs:List α) (vs:List Value),xs.length=k/\cb (gK b0 (aju W)) W (xs.flatMap (C.cells false)) vs/\vs.length=k * C.sz/\(∀ j v,vs[j]? = some v->W.cell? ⟨a.block,a.off+j,none⟩=some v) /\
   vw μ xs<=pk ((List.range k).map D):=by
   intro k
   induction k with
   |zero=>intro _;exact ⟨[],[],rfl,cb.nil _ _,by simp,(fun j v hj=>by simp at hj),by simp [vw,pk]⟩
   |succ k ih=>
    intro hk;obtain ⟨xs,vs,h1,h2,h3,h4,h5⟩:=ih zO;obtain ⟨cs',h6,h7⟩:=hx k zO;obtain ⟨y,h8,h9⟩:=he enc W b0 n cs' _ h7;rw [hsz] at h6;simp only [World.cells?,zzb,if_true] at h6;have hlen:=mapM_some_length h6;simp only [List.length_range] at hlen;refine ⟨xs++[y],vs++cs',by simp [h1],?_,by simp [h3,hlen,Nat.succ_mul],fun j v hj=>?_,?_⟩
    ·rw [List.flatMap_append];exact h2.append (by simpa using h8)
    ·by_cases pC:j<vs.length
     ·rw [zzi pC] at hj;exact h4 j v hj
     ·rw [zzd zO] at hj;have wY:=(zg.1 hj).1;have h10:=mapM_some_get h6 (j - vs.length) (j - vs.length) (zyi (by rw [<- hlen];exact wY));rw [hj] at h10;have hs:=(spot zO).1;have e:(a.add (k * C.sz)).add (j - vs.length)=⟨a.block,a.off+j,none⟩:=by
       obtain ⟨ab,ao,uX⟩:=a;simp only at hs;subst hs;rw [Addr.qd,Addr.qd];have hge:vs.length<=j:=Nat.le_of_not_lt pC;rw [aDt ao k C.sz vs.length j h3 hge]
      rw [e] at h10;exact h10
    ·rw [U5,List.range_succ,zzw,Pq];simp only [vw,List.map_cons,List.map_nil,pk];have : μ y<=n8 (D k):=h9;omega
  obtain ⟨xs,vs,h1,h2,h3,h4,h5⟩:=build len (zza _);refine ⟨xs,cb.one ?_,by
   simp only [n8];have:vw μ xs<=pk ((List.range len).map D):=h5;omega⟩
  by_cases h0 : 0<m
  ·obtain ⟨hs,hb⟩:=spot h0;obtain ⟨ab,ao,uX⟩:=a;simp only at hs hb h4;subst hs;rw [<- h1];refine atr C h2 zO (fun e=>by cases e) (fun j v hj=>⟨hb,h4 j v hj⟩) (fun e=>by cases e)
  ·have hl0:len=0:=zO;have hm0:m=0:=zO;subst hl0 hm0;have:xs=[]:=zzf h1;subst this;exact .vo _ _ _
def RdF (P:Program) (fs:List Field) (off:Nat) {α:Type} (C:dp α) (μ : α->Nat):Prop:=
 ∀ {H:Type} (enc:TypeId × Value->H) (W:World) (b0 n:Nat) (cs:List Value) (ys:List (DataW H × List MemPlace)),ys.length=fs.length ->
  (∀ (i:Nat) f,fs[i]? = some f->DataW.trod enc P W 0 (fun _=>true) true n f.type ((cs.drop f.offset).take (P.cellsOf f.type))=ys[i]?) ->
  ∃ y,cb (gK b0 (aju W)) W (C.cells false y) ((cs.drop off).take C.sz) /\ μ y<=pk (ys.map (·.1))
theorem aEe {P:Program} {f:Field} {off:Nat} {α:Type} {C:dp α} {μ : α->Nat} (ho:f.offset=off) (hs:P.cellsOf f.type=C.sz) (h:Rd P f.type C μ):RdF P [f] off C μ:=by
 intro H enc W b0 n cs ys hl hf
 match ys,hl with
 | [y0],_=>
  have:=hf 0 f rfl;obtain ⟨y,h1,h2⟩:=h enc W b0 n _ y0 this;rw [ho,hs] at h1;exact ⟨y,h1,by simp [pk];exact h2⟩
theorem aAz {P:Program} {f:Field} {fs:List Field} {off:Nat} {α β:Type} {A:dp α} {B:dp β} {μ : α->Nat} {ν : β->Nat} (ho:f.offset=off) (hs:P.cellsOf f.type=A.sz) (h:Rd P f.type A μ) (hr:RdF P fs (off+A.sz) B ν) :
 RdF P (f::fs) off (jq A B) (fun p=>μ p.1 + ν p.2):=by
 intro H enc W b0 n cs ys hl hf
 match ys,hl with
 |y0::ys,hl=>
  have h0:=hf 0 f rfl;obtain ⟨y,h1,h2⟩:=h enc W b0 n _ y0 h0;obtain ⟨z,h3,h4⟩:=hr enc W b0 n cs ys (by simpa using hl) (fun i g hg=>by have:=hf (i+1) g (by simpa using hg);simpa using this);rw [ho,hs] at h1;refine ⟨(y,z),?_,by simp [pk];omega⟩;have:=h1.append h3
  rwa [show (cs.drop off).take A.sz++(cs.drop (off+A.sz)).take B.sz=(cs.drop off).take (A.sz+B.sz) from by rw [List.take_add,List.drop_drop]] at this
theorem avv {P:Program} {t:TypeId} {fs:Array Field} {α:Type} {C:dp α} {μ : α->Nat} (ht:P.underlying t=some (.struct fs)) (hc:P.cellsOf t=C.sz) (h:RdF P fs.toList 0 C μ):Rd P t C (fun x=>μ x+1):=by
 intro H enc W b0 fuel cs x hx;obtain ⟨xs,n,_,rfl,hl,hlen,hf⟩:=DataW.trod_struct ht hx;obtain ⟨y,h1,h2⟩:=h enc W b0 n cs xs (by simpa using hlen) (fun i f hi=>hf i f (by simpa using hi));refine ⟨y,?_,by simp [n8];exact h2⟩
 rwa [List.drop_zero,zzp zO] at h1
theorem aGe {P:Program} {t:TypeId} {α β:Type} {C:dp α} {μ : α->Nat} {f : β -> α} {i : α -> β} {h1:∀ y,i (f y)=y} {h2:∀ x,f (i x)=x} (h:Rd P t C μ):Rd P t (x7 C f i h1 h2) (fun y=>μ (f y)):=by intro H enc W b0 fuel cs x hx;obtain ⟨y,h3,h4⟩:=h enc W b0 fuel cs x hx;exact ⟨i y,by show cb _ _ (C.cells false (f (i y))) cs;rw [h2];exact h3,by show μ (f (i y))<=_;rw [h2];exact h4⟩
def RdA (P:Program) (ts:List TypeId) {α:Type} (A:AC α) (μ : α->Nat):Prop:=
 ∀ {H:Type} (enc:TypeId × Value->H) (W:World) (b0 b1:Nat) (vs:List Value) (ds:List (DataW H)) (ps:List MemPlace),(∀ (j:Nat) t v,ts[j]? = some t->vs[j]? = some v->Value.okWide P W .any b1 t v) ->
  DataW.TrodAll enc P W 0 (fun _=>true) true ts vs ds ps->∃ y,cb (gK b0 (aju W)) W (A.E y) vs /\ μ y<=pk ds
theorem aEj (P:Program):RdA P [] a0 (fun _=>0):=by intro H enc W b0 b1 vs ds ps _ h;obtain ⟨rfl,rfl,rfl⟩:=trodAll_nil h;exact ⟨(),cb.nil _ _,zzb _⟩
theorem at0 {P:Program} {W:World} {b:Nat} {t:TypeId} {v:Value} (h:m9 P t=some true) (ho:Value.okWide P W .any b t v):∃ cs,v = .agg cs:=by
 unfold m9 at h;unfold Value.okWide at ho;cases hu:P.underlying t with
 |none=>rw [hu] at h;cases h
 |some d=>
  rw [hu] at h ho;cases d<;>simp_all<;>exact ⟨_,ho.choose_spec.1⟩
theorem Vw {P:Program} {t:TypeId} {ts:List TypeId} {α β:Type} {C:dp α} {R:AC β} {μ : α->Nat} {ν : β->Nat} (ha:m9 P t=some C.agg) (h:Rd P t C μ) (hr:RdA P ts R ν):RdA P (t::ts) (aC C R) (fun p=>μ p.1 + ν p.2):=by
 intro H enc W b0 b1 vs ds ps aB hall;obtain ⟨v,tC,d,uV,p,q,rfl,rfl,rfl,h0,h1⟩:=trodAll_cons hall;obtain ⟨fuel,hf⟩:=h0;obtain ⟨y,h2,h3⟩:=h enc W b0 fuel _ _ hf;obtain ⟨z,h4,h5⟩:=hr enc W b0 b1 tC uV q (fun j t v ht hv=>aB (j+1) t v (by simpa using ht) (by simpa using hv)) h1;have dP : μ y<=n8 d:=h3;refine ⟨(y,z),cb.cons ?_ h4,by simp only [pk];omega⟩;have hv:=aB 0 t v rfl rfl;show Rel _ _ (C.val false y) v;unfold dp.val;cases hg:C.agg with
 |true=>
  obtain ⟨cs,rfl⟩:=at0 (by rw [ha,hg]) hv;exact .agg _ cs (by simpa [Value.cells] using h2.1) (fun i a v ha hv=>h2.2 i a v ha (by simpa [Value.cells] using hv))
 |false=>
  obtain ⟨c,h6,h7,_⟩:=C.one hg false y;rw [cond_false,h6];rw [h6] at h2;have hcs:v.cells.toList=[v]:=by
   have hl:=h2.1;simp only [zyg] at hl;cases v with
   |agg cs=>
    exfalso;unfold m9 at ha;unfold Value.okWide at hv;cases hu:P.underlying t with
    |none=>rw [hu] at ha;cases ha
    |some d=>
     rw [hu] at ha hv;have hcell:Cell.okWide P W .any b1 t (.agg cs):=by cases d<;>simp_all
     rw [hg] at ha;unfold Cell.okWide Cell.ok at hcell;rw [hu] at hcell;cases d<;>simp_all
   |_=>rfl
  rw [hcs] at h2;exact h2.head
theorem ajo {W W':World} (q:qk W W') {p:MemPlace} (h:p.block<W.heap.size):W.sameAt W' p:=by
 cases p with
 |cell b off=>exact rh (q.heap b h)
 |map b=>exact q.heap b h
theorem again {H:Type} {enc:TypeId × Value->H} {P:Program} {W W':World} {sp:Nat->Bool} (K:Kids P (· < P.types.size)) (hz:∀ t e,t<P.types.size->P.underlying t=some (.slice e)->0<P.cellsOf e) (q:qk W W') :
 ∀ {ts:List TypeId} {vs:List Value} {ds:List (DataW H)} {ps:List MemPlace},(∀ t ∈ ts,t<P.types.size)->DataW.TrodAll enc P W 0 (fun _=>true) true ts vs ds ps->(∀ p ∈ ps,sp p.block=true)->(∀ p ∈ ps,p.block<W.heap.size) ->
  DataW.TrodAll enc P W' 0 sp true ts vs ds ps
 | [],[],[],_,_,h,_,_=>h
 |t::ts,v::vs,d::ds,ps,hT,⟨p,p',h1,h2,e⟩,hs,hl=>by obtain ⟨n,hn⟩:=h1;subst e;have h3:=DataW.trod_respare (spare':=sp) K hz n t _ _ (hT t (by simp)) hn (fun x hx=>hs x (by simp only [zzq];exact .inl hx));have h4:=DataW.trod_carry (w':=W') n t _ _ h3 (fun x hx=>ajo q (hl x (by simp only [zzq];exact .inl hx)));exact ⟨p,p',⟨n,h4⟩,again K hz q (fun t ht=>hT t (by simp [ht])) h2 (fun x hx=>hs x (by simp [hx])) (fun x hx=>hl x (by simp [hx])),rfl⟩
theorem aq9 {W W':World} (q:qk W W') (may:MemPlace->Prop):W.keptBut W' may:=by
 refine ⟨q.os,q.output,fun i hi=>?_⟩;rw [q.heap i hi]
 split
 ·rename_i c t fr c' t' cX h1 h2;rw [h1] at h2;cases h2;exact ⟨rfl,rfl,rfl,fun _ _=>rfl⟩
 ·rename_i es cl es' yU h1 h2;rw [h1] at h2;cases h2;exact .inr ⟨rfl,rfl⟩
 ·rfl
def arp (P:Program):Bool:=(List.range P.types.size).all fun t=>match P.underlying t with|some (.slice e)=>Nat.blt 0 (P.cellsOf e)|_=>true
theorem afm {P:Program} (h:arp P=true) (t e:TypeId) (ht:t<P.types.size) (hu:P.underlying t=some (.slice e)) : 0<P.cellsOf e:=by have:=zz8.1 h t (List.mem_range.2 ht);simp only [hu] at this;exact zB this
def aFb (P:Program) (l:List TypeId):Bool:=l.all fun t=>Nat.blt t P.types.size
theorem asi {P:Program} {l:List TypeId} (h:aFb P l=true):∀ t ∈ l,t<P.types.size:=fun t ht=>zB (zz8.1 h t ht)
theorem azn {P:Program} [KP P] (nC:laidOutB P=true) (mX:mapsRowed P=true) (hz:∀ t e,t<P.types.size->P.underlying t=some (.slice e)->0<P.cellsOf e) {f:Nat} {fn:Func} {s:ChangeSpec} {tb:TypeId}
 (he:oi P f=true) (iM:s.vars=[]) (hres:fn.resultTypes = #[tb]) (vY:P.underlying tb=some .bool) (qN:∀ t ∈ fn.params.toList,t<P.types.size)
 (hfn:∀ (H:Type) (ds:List (DataW H)),ds.length=fn.params.toList.length->s.fn H ds = { results:=[.lit (.bool true)],args:=ds }) {α:Type} {A:AC α} {μ : α->Nat} (hA:RdA P fn.params.toList A μ) {N:Option Nat}
 (dN:∀ x,(∀ n,N=some n -> μ x<=n)->bj P f (A.E x) (.sc (.bool true)))
 {H:Type} (enc:TypeId × Value->H) (W:World) (base:Nat) (args:Array Value) (ds gs:List (DataW H)) (before:List MemPlace) (hval:∀ (j:Nat) t v,fn.params[j]? = some t->args[j]? = some v->Value.okWide P W .any base t v)
 (hW:DataW.Whole enc P fn.params.toList s.vars false W args.toList ds gs before) (hN:∀ n,N=some n->pk (ds++gs)<=n) :
 Calls P f args W fun e W'=>∃ v,e = .returned v/\s.post enc P fn false true false false W args v W':=by
 have uL:=hW;obtain ⟨p,q,pP,hV,rfl,hfz,cE⟩:=hW;rw [iM] at hV;obtain ⟨rfl,rfl⟩:=trodVars_none hV;obtain ⟨x,hx,hμ⟩:=hA enc W W.heap.size base args.toList ds p (fun j t v ht hv=>hval j t v (by simpa using ht) (by simpa using hv)) pP;have hp:=dN x (fun n hn=>zzu hμ (by have:=hN n hn;simpa using this)) (aju W) W args.toList (fun _ _ h=>h) hx;have hlen:ds.length=fn.params.toList.length:=by
  have:∀ {ts:List TypeId} {vs:List Value} {ds:List (DataW H)} {ps:List MemPlace},DataW.TrodAll enc P W 0 (fun _=>true) true ts vs ds ps->ds.length=ts.length:=by
   intro ts
   induction ts with
   |nil=>intro vs ds ps h;obtain ⟨_,rfl,_⟩:=trodAll_nil h;rfl
   |cons t ts ih=>intro vs ds ps h;obtain ⟨v,tC,d,uV,p,q,rfl,rfl,rfl,h0,h1⟩:=trodAll_cons h;simp [ih h1]
  exact this pP
 have hlt:∀ y ∈ p++[],y.block<W.heap.size:=fun y hy=>uL.lt y hy
 have fL:=hfn H ds hlen;rcases hp with ⟨v,hv,_⟩|⟨_,hc⟩
 ·rw [si he] at hv;cases hv
 ·refine hc.mono ?_;rintro e W' ⟨v,rfl,hq,hr⟩;obtain rfl:=hr.exact rfl;refine ⟨_,rfl,ds,[],p++[],[],p,[],uL,?_,?_,?_,aq9 hq _,fun e=>by cases e⟩
  ·rw [zzn,fL,hres];exact trodAll_cons_mk (Go.RowKit.shut_bool vY _) trodAll_mk0
  ·rw [zzn,fL];exact again (kids_rows nC mX) hz hq qN pP (fun y hy=>by have:=hlt y (by simp [hy]);simpa using this) (fun y hy=>hlt y (by simp [hy]))
  ·rw [zzn,fL,iM];rfl
end
end Go.Vm
end
namespace Go.Vm
noncomputable instance tkI:TK:=⟨dw Go.Proofs.Tryz.prog,aCe Go.Proofs.Tryz.prog⟩
instance kpI:KP Go.Proofs.Tryz.prog:=⟨rfl,rfl⟩
end Go.Vm
section
namespace Go.Vm
open Go.Proofs
theorem avd:(Tryz.prog.underlying 3=some (.int .i64)) /\
 (Tryz.prog.underlying 4=some (.bool)) /\
 (Tryz.prog.underlying 5=some (.int .u8)) /\
 (Tryz.prog.underlying 9=some (.string)) /\
 (Tryz.prog.underlying 22=some (.slice 9)) /\
 (Tryz.prog.underlying 23=some (.slice 9)) /\
 (Tryz.prog.underlying 24=some (.slice 63)) /\
 (Tryz.prog.underlying 51=some (.slice 23)) /\
 (Tryz.prog.underlying 60=some (.int .u32)):=
 ⟨zK,zK,zK,zK,zK,zK,zK,zK,zK⟩
theorem axm:(Tryz.prog.underlying 61=some (.slice 116)) /\
 (Tryz.prog.underlying 113=some (.slice 60)) /\
 (Tryz.prog.underlying 114=some (.slice 5)) /\
 (Tryz.prog.underlying 178=some (.slice 4)) /\
 (Tryz.prog.underlying 180=some (.slice 3)) /\
 (Tryz.prog.underlying 241=some (.slice 114)):=
 ⟨zK,zK,zK,zK,zK,zK⟩
theorem avn:(m9 Tryz.prog 3=some false) /\
 (m9 Tryz.prog 4=some false) /\
 (m9 Tryz.prog 5=some false) /\
 (m9 Tryz.prog 9=some false) /\
 (m9 Tryz.prog 22=some false) /\
 (m9 Tryz.prog 23=some false) /\
 (m9 Tryz.prog 24=some false) /\
 (m9 Tryz.prog 26=some true):=
 ⟨zK,zK,zK,zK,zK,zK,zK,zK⟩
theorem awe:(m9 Tryz.prog 30=some false) /\
 (m9 Tryz.prog 32=some true) /\
 (m9 Tryz.prog 33=some false) /\
 (m9 Tryz.prog 50=some false) /\
 (m9 Tryz.prog 51=some false) /\
 (m9 Tryz.prog 52=some false) /\
 (m9 Tryz.prog 54=some true) /\
 (m9 Tryz.prog 59=some false) /\
 (m9 Tryz.prog 60=some false) /\
 (m9 Tryz.prog 61=some false) /\
 (m9 Tryz.prog 63=some true) /\
 (m9 Tryz.prog 77=some true) /\
 (m9 Tryz.prog 113=some false) /\
 (m9 Tryz.prog 114=some false) /\
 (m9 Tryz.prog 116=some true):=
 ⟨zK,zK,zK,zK,zK,zK,zK,zK,zK,zK,zK,zK,zK,zK,zK⟩
theorem axz:(m9 Tryz.prog 144=some false) /\
 (m9 Tryz.prog 185=some true) /\
 (m9 Tryz.prog 209=some true):=
 ⟨zK,zK,zK⟩
theorem apz:(dw Tryz.prog 3=some 1) /\
 (dw Tryz.prog 4=some 1) /\
 (dw Tryz.prog 5=some 1) /\
 (dw Tryz.prog 9=some 1) /\
 (dw Tryz.prog 22=some 1) /\
 (dw Tryz.prog 23=some 1) /\
 (dw Tryz.prog 24=some 1) /\
 (dw Tryz.prog 26=some 2):=
 ⟨zK,zK,zK,zK,zK,zK,zK,zK⟩
theorem aqu:(dw Tryz.prog 30=some 1) /\
 (dw Tryz.prog 32=some 3) /\
 (dw Tryz.prog 33=some 1) /\
 (dw Tryz.prog 50=some 1) /\
 (dw Tryz.prog 51=some 1) /\
 (dw Tryz.prog 52=some 1) /\
 (dw Tryz.prog 54=some 3) /\
 (dw Tryz.prog 59=some 1) /\
 (dw Tryz.prog 60=some 1) /\
 (dw Tryz.prog 61=some 1) /\
 (dw Tryz.prog 63=some 5) /\
 (dw Tryz.prog 77=some 5) /\
 (dw Tryz.prog 113=some 1) /\
 (dw Tryz.prog 114=some 1) /\
 (dw Tryz.prog 116=some 4):=
 ⟨zK,zK,zK,zK,zK,zK,zK,zK,zK,zK,zK,zK,zK,zK,zK⟩
theorem aq2:(dw Tryz.prog 144=some 1) /\
 (dw Tryz.prog 185=some 5) /\
 (dw Tryz.prog 209=some 5):=
 ⟨zK,zK,zK⟩
theorem ags:(lj Tryz.prog 4=some 1) /\
 (lj Tryz.prog 9=some 16):=
 ⟨zK,zK⟩
theorem apa:(gk Tryz.prog 3=some (.int .i64 0)) /\
 (gk Tryz.prog 4=some (.bool false)) /\
 (gk Tryz.prog 5=some (.int .u8 0)) /\
 (gk Tryz.prog 9=some (.string .empty)) /\
 (gk Tryz.prog 23=some (.slice none 0 0)) /\
 (gk Tryz.prog 26=some (.agg #[.slice none 0 0,.slice none 0 0])):=
 ⟨zK,zK,zK,zK,zK,zK⟩
theorem apu:(gk Tryz.prog 32=some (.agg #[.int .u8 0,.slice none 0 0,.slice none 0 0])) /\
 (gk Tryz.prog 54=some (.agg #[.int .u8 0,.slice none 0 0,.slice none 0 0])) /\
 (gk Tryz.prog 63=some (.agg #[.slice none 0 0,.int .u16 0,.int .u16 0,.int .u32 0,.slice none 0 0])) /\
 (gk Tryz.prog 77=some (.agg #[.int .i64 0,.bool false,.slice none 0 0,.slice none 0 0,.slice none 0 0])) /\
 (gk Tryz.prog 116=some (.agg #[.slice none 0 0,.slice none 0 0,.slice none 0 0,.slice none 0 0])):=
 ⟨zK,zK,zK,zK,zK⟩
theorem apf:(gk Tryz.prog 185=some (.agg #[.int .i64 0,.int .i64 0,.int .i64 0,.int .i64 0,.int .i64 0])) /\
 (gk Tryz.prog 209=some (.agg #[.int .i64 0,.int .i64 0,.int .i64 0,.int .i64 0,.int .i64 0])):=
 ⟨zK,zK⟩
theorem axu:(Gx Tryz.prog 22=some (9,1,[.sc (.string .empty)])) /\
 (Gx Tryz.prog 23=some (9,1,[.sc (.string .empty)])) /\
 (Gx Tryz.prog 24=some (63,5,[.sc (.slice none 0 0),.sc (.int .u16 0),.sc (.int .u16 0),.sc (.int .u32 0),.sc (.slice none 0 0)])) /\
 (Gx Tryz.prog 51=some (23,1,[.sc (.slice none 0 0)])) /\
 (Gx Tryz.prog 61=some (116,4,[.sc (.slice none 0 0),.sc (.slice none 0 0),.sc (.slice none 0 0),.sc (.slice none 0 0)])) /\
 (Gx Tryz.prog 113=some (60,1,[.sc (.int .u32 0)])) /\
 (Gx Tryz.prog 114=some (5,1,[.sc (.int .u8 0)])) /\
 (Gx Tryz.prog 180=some (3,1,[.sc (.int .i64 0)])) /\
 (Gx Tryz.prog 241=some (114,1,[.sc (.slice none 0 0)])):=
 ⟨zK,zK,zK,zK,zK,zK,zK,zK,zK⟩
theorem agm:(v7 Tryz.prog 26=some ([.sc (.slice none 0 0),.sc (.slice none 0 0)],[(0,1),(1,1)])) /\
 (v7 Tryz.prog 32=some ([.sc (.int .u8 0),.sc (.slice none 0 0),.sc (.slice none 0 0)],[(0,1),(1,1),(2,1)])) /\
 (v7 Tryz.prog 54=some ([.sc (.int .u8 0),.sc (.slice none 0 0),.sc (.slice none 0 0)],[(0,1),(1,1),(2,1)])) /\
 (v7 Tryz.prog 63=some ([.sc (.slice none 0 0),.sc (.int .u16 0),.sc (.int .u16 0),.sc (.int .u32 0),.sc (.slice none 0 0)],[(0,1),(1,1),(2,1),(3,1),(4,1)])) /\
 (v7 Tryz.prog 77=some ([.sc (.int .i64 0),.sc (.bool false),.sc (.slice none 0 0),.sc (.slice none 0 0),.sc (.slice none 0 0)],[(0,1),(1,1),(2,1),(3,1),(4,1)])) /\
 (v7 Tryz.prog 116=some ([.sc (.slice none 0 0),.sc (.slice none 0 0),.sc (.slice none 0 0),.sc (.slice none 0 0)],[(0,1),(1,1),(2,1),(3,1)])) /\
 (v7 Tryz.prog 120=some ([.sc (.slice none 0 0),.sc (.slice none 0 0),.sc (.int .i64 0),.sc (.bool false),.sc (.slice none 0 0),.sc (.slice none 0 0),.sc (.slice none 0 0),.sc (.slice none 0 0)],[(0,2),(2,5),(7,1)])) /\
 (v7 Tryz.prog 146=some ([.sc (.slice none 0 0),.sc (.slice none 0 0),.sc (.int .i64 0)],[(0,2),(2,1)])):=
 ⟨zK,zK,zK,zK,zK,zK,zK,zK⟩
theorem ah8:(v7 Tryz.prog 185=some ([.sc (.int .i64 0),.sc (.int .i64 0),.sc (.int .i64 0),.sc (.int .i64 0),.sc (.int .i64 0)],[(0,1),(1,1),(2,1),(3,1),(4,1)])) /\
 (v7 Tryz.prog 209=some ([.sc (.int .i64 0),.sc (.int .i64 0),.sc (.int .i64 0),.sc (.int .i64 0),.sc (.int .i64 0)],[(0,1),(1,1),(2,1),(3,1),(4,1)])):=
 ⟨zK,zK⟩
theorem alv:(fq Tryz.prog 26 0=some ⟨"Origin",23,0,false, "", "",0⟩) /\
 (fq Tryz.prog 26 1=some ⟨"Sets",24,1,false, "", "",24⟩) /\
 (fq Tryz.prog 32 0=some ⟨"Kind",30,0,false, "", "",0⟩) /\
 (fq Tryz.prog 32 1=some ⟨"Node",23,1,false, "", "",8⟩):=
 ⟨zK,zK,zK,zK⟩
theorem ajh:(fq Tryz.prog 54 0=some ⟨"Turn",52,0,false, "", "",0⟩) /\
 (fq Tryz.prog 54 1=some ⟨"Sets",24,1,false, "", "",8⟩) /\
 (fq Tryz.prog 54 2=some ⟨"To",23,2,false, "", "",32⟩) /\
 (fq Tryz.prog 63 0=some ⟨"Owner",23,0,false, "", "",0⟩) /\
 (fq Tryz.prog 63 1=some ⟨"Type",50,1,false, "", "",24⟩) /\
 (fq Tryz.prog 63 2=some ⟨"Class",59,2,false, "", "",26⟩) /\
 (fq Tryz.prog 63 3=some ⟨"TTL",60,3,false, "", "",28⟩) /\
 (fq Tryz.prog 63 4=some ⟨"Data",61,4,false, "", "",32⟩) /\
 (fq Tryz.prog 77 0=some ⟨"Rcode",3,0,false, "", "",0⟩) /\
 (fq Tryz.prog 77 1=some ⟨"AA",4,1,false, "", "",8⟩) /\
 (fq Tryz.prog 77 2=some ⟨"Answer",24,2,false, "", "",16⟩):=
 ⟨zK,zK,zK,zK,zK,zK,zK,zK,zK,zK,zK⟩
theorem aib:(fq Tryz.prog 77 3=some ⟨"Authority",24,3,false, "", "",40⟩) /\
 (fq Tryz.prog 77 4=some ⟨"Additional",24,4,false, "", "",64⟩) /\
 (fq Tryz.prog 116 0=some ⟨"Names",51,0,false, "", "",0⟩) /\
 (fq Tryz.prog 116 1=some ⟨"Nums",113,1,false, "", "",24⟩) /\
 (fq Tryz.prog 116 2=some ⟨"Texts",22,2,false, "", "",48⟩) /\
 (fq Tryz.prog 116 3=some ⟨"Raw",114,3,false, "", "",72⟩) /\
 (fq Tryz.prog 120 0=some ⟨"z",26,0,false, "", "nomenclator/answer",0⟩) /\
 (fq Tryz.prog 120 1=some ⟨"r",77,2,false, "", "nomenclator/answer",48⟩) /\
 (fq Tryz.prog 120 2=some ⟨"seen",51,7,false, "", "nomenclator/answer",136⟩):=
 ⟨zK,zK,zK,zK,zK,zK,zK,zK,zK⟩
theorem agt:(fq Tryz.prog 146 0=some ⟨"z",26,0,false, "", "nomenclator/zone",0⟩) /\
 (fq Tryz.prog 146 1=some ⟨"e",33,2,false, "", "nomenclator/zone",48⟩) /\
 (fq Tryz.prog 185 0=some ⟨"names",3,0,false, "", "nomenclator/rdata",0⟩) /\
 (fq Tryz.prog 185 1=some ⟨"nums",3,1,false, "", "nomenclator/rdata",8⟩) /\
 (fq Tryz.prog 185 2=some ⟨"size",3,2,false, "", "nomenclator/rdata",16⟩) /\
 (fq Tryz.prog 185 3=some ⟨"texts",3,3,false, "", "nomenclator/rdata",24⟩) /\
 (fq Tryz.prog 185 4=some ⟨"raw",3,4,false, "", "nomenclator/rdata",32⟩):=
 ⟨zK,zK,zK,zK,zK,zK,zK⟩
theorem agj:(fq Tryz.prog 209 0=some ⟨"Names",3,0,false, "", "",0⟩) /\
 (fq Tryz.prog 209 1=some ⟨"Nums",3,1,false, "", "",8⟩) /\
 (fq Tryz.prog 209 2=some ⟨"Texts",3,2,false, "", "",16⟩) /\
 (fq Tryz.prog 209 3=some ⟨"Raw",3,3,false, "", "",24⟩) /\
 (fq Tryz.prog 209 4=some ⟨"Wide",3,4,false, "", "",32⟩):=
 ⟨zK,zK,zK,zK,zK⟩
theorem awb:(Ec Tryz.prog 22=some (9,1,16)) /\
 (Ec Tryz.prog 23=some (9,1,16)) /\
 (Ec Tryz.prog 24=some (63,5,56)) /\
 (Ec Tryz.prog 51=some (23,1,24)) /\
 (Ec Tryz.prog 61=some (116,4,96)) /\
 (Ec Tryz.prog 113=some (60,1,4)) /\
 (Ec Tryz.prog 114=some (5,1,1)):=
 ⟨zK,zK,zK,zK,zK,zK,zK⟩
theorem aDg:(Qp 1 .str 9=true) /\
 (∀ kd,Qp 5 kd 63=true) /\
 (Qp 1 .no 23=true) /\
 (∀ kd,Qp 4 kd 116=true) /\
 (Qp 1 (.int .u32) 60=true) /\
 (Qp 1 (.int .u8) 5=true):=
 ⟨zK,fun _=>by kernel_rfl,zK,fun _=>by kernel_rfl,zK,zK⟩
theorem TF:type_of% avd/\type_of% axm/\type_of% avn/\type_of% awe/\type_of% axz/\type_of% apz/\type_of% aqu/\type_of% aq2/\type_of% ags/\type_of% apa/\type_of% apu/\type_of% apf/\type_of% axu/\type_of% agm/\type_of% ah8/\type_of% alv/\type_of% ajh/\type_of% aib/\type_of% agt/\type_of% agj/\type_of% awb/\type_of% aDg:=
 ⟨avd,axm,avn,awe,axz,apz,aqu,aq2,ags,apa,apu,apf,axu,agm,ah8,alv,ajh,aib,agt,agj,awb,aDg⟩
theorem zV:type_of% RA/\type_of% TF:=⟨RA,TF⟩
end Go.Vm
end
section
namespace Go.Proofs.YtjagjbceegbaiaaGreat
open Go.Vm
noncomputable abbrev PP:=Tryz.prog
theorem mixed:PP.follows .mixedOrders=true:=zK
theorem az {T:fc} (hT:ar PP T) {f:Nat} {fn:Func} (hf:PP.funcs[f]? = some fn) (hb:fn.body.isSome=true) (he:oi PP f=true) (hs:ey fn.ntmps (fn.body.getD .skip)=true)
 {args:List AV} (hl:args.length<=fn.ntmps) {ρ:Type} (R:RC ρ) (fr:Bool) (x : ρ)
 (h:wl PP T 0 (fn.body.getD .skip) (c9 PP fn.results.toList (fun r st=>R.get fr st.h r=some x)) (cp 0 args) (bg [])):bj PP f args (R.E fr x):=
 abe (body:=fn.body.getD .skip) hT mixed hf (by cases hq:fn.body with|none=>rw [hq] at hb;cases hb|some b=>rfl) he hs hl R fr x h
def jr (s:ByteArray):Int:=if s.size<1\/63<s.size then 4 else 0
theorem ae6 (s:ByteArray):wl PP [] 0 (Tryz.f128.body.getD .skip) (c9 PP Tryz.f128.results.toList (fun r st=>(r1 (bb .i64)).get true st.h r=some (jr s))) (cp 0 [ai.val false s]) (bg []):=by
 unfold Tryz.f128;simp only [↓wR,zV,simprocAttr];rw [cw];refine ⟨fun h=>?_,fun h=>?_⟩
 ·have h1:s.size<1:=by simp at h;omega
  simp only [↓wR,zV,simprocAttr,jr,h,h1,true_or]
 ·have h1:¬ s.size<1:=by simp at h;omega
  simp only [↓wR,zV,simprocAttr,h];rw [cw];refine ⟨fun h=>?_,fun h=>?_⟩
  ·have h2 : 63<s.size:=by simp at h;omega
   simp only [↓wR,zV,simprocAttr,jr,h2,or_true]
  ·have h2:¬ 63<s.size:=by simp at h;omega
   simp only [↓wR,zV,simprocAttr,jr,h1,h2,or_self]
noncomputable def Kn (x:ByteArray × Unit):Option AV:=some ((r1 (bb .i64)).E true (jr x.1))
theorem Xo (x:ByteArray × Unit) (r:AV) (h:Kn x=some r):bj PP 128 ((aC ai a0).E x) r:=by cases h;exact az (ar.nil PP) Tryz.func128 zK zK zK zL (r1 (bb .i64)) true (jr x.1) (ae6 x.1)
noncomputable abbrev aua:Nat × Bool × (List AV->M AV):=(128,true,cx (aC ai a0) Kn)
def cd (n:Name):Nat:=n.foldl (fun k s=>k+(s.size+1)) 1
theorem ae4 (l:Name) (c:ByteArray):cd (l++[c])=cd l+(c.size+1):=by simp [cd]
theorem Gu (n:Name) (i:Nat) (c:ByteArray) (h:n[i]? = some c):cd (n.take (i+1))=cd (n.take i)+(c.size+1):=by obtain ⟨hk,rfl⟩:=zg.1 h;rw [zz5 hk,ae4]
theorem Gv (l:Name):∀ k,l.foldl (fun k s=>k+(s.size+1)) k=k+l.foldl (fun k s=>k+(s.size+1)) 0:=by
 induction l with
 |nil=>intro k;simp
 |cons a l ih=>intro k;simp only [List.foldl_cons];rw [ih,ih (0+_)];omega
theorem nh (a b:Name):cd (a++b)+1=cd a+cd b:=by simp only [cd,List.foldl_append];rw [Gv b,Gv b 1];omega
theorem ju (n:Name) (i:Nat):cd (n.take i)<=cd n/\n.length<cd n:=by
 constructor
 ·have:=nh (n.take i) (n.drop i);rw [zzm] at this;have h1 : 1<=cd (n.drop i):=by simp only [cd];rw [Gv];omega
  omega
 ·induction n with
  |nil=>simp [cd]
  |cons a l ih=>
   have:=nh [a] l;simp only [List.singleton_append] at this;have h1:cd [a]=a.size+2:=by simp [cd];omega
   simp only [List.length_cons];omega
theorem wrap_i64 (x:Int) (h0 : -9223372036854775808<=x) (h1:x<9223372036854775808):IntKind.i64.wrap x=x:=by simp [IntKind.wrap,IntKind.bits,IntKind.signed];omega
theorem aok (n:Name) (hn:cd n<17592186044416):wl PP [] 0 (Tryz.f129.body.getD .skip) (c9 PP Tryz.f129.results.toList (fun r st=>(r1 (bb .i64)).get true st.h r=some (cd n:Int))) (cp 0 [aj.val false n]) (bg []):=by
 unfold Tryz.f129;rw [bz];simp only [↓wR,zV,simprocAttr];refine dq [3,6,7,8] (fun (x:Nat)=>[.sc (.int .i64 (cd (n.take x))),.vl false 1 (n.map (ai.val false)),.sc (.int .i64 n.length),.sc (.int .i64 x)]) (fun _=>[]) (fun x=>x<=n.length) (fun x=>n.length - x) 0 (zzb _) ?_ ?_ ?_
 ·simp only [↓wR,zV,simprocAttr]<;>rfl
 ·simp only [↓wR,zV,simprocAttr]
 ·intro i hi;have h1:=ju n i;simp only [↓wR,zV,simprocAttr];rw [cw];refine ⟨fun h=>?_,fun h=>?_⟩
  ·have h4:i<n.length:=by simp at h;omega
   obtain ⟨c,hc⟩:∃ c,n[i]? = some c:=⟨n[i],by simp [h4]⟩;have h2:=Gu n i c hc;have h3:=(ju n (i+1)).1;simp only [↓wR,zV,simprocAttr,hc];refine ⟨i+1,zO,zO,?_⟩;rw [h2];simp only [List.cons.injEq,and_true,true_and,AV.sc.injEq,Value.int.injEq];refine ⟨?_,?_⟩
   ·rw [wrap_i64 ((c.size:Int)+1) zO zO,wrap_i64 _ zO zO];omega
   ·rw [wrap_i64 _ zO zO];omega
  ·have h4:i=n.length:=by simp at h;omega
   subst h4;simp only [↓wR,zV,simprocAttr,zz7]
noncomputable def Dn (x:Name × Unit):Option AV:=if cd x.1<17592186044416 then some ((r1 (bb .i64)).E true ((cd x.1:Int))) else none
theorem abm (x:Name × Unit) (r:AV) (h:Dn x=some r):bj PP 129 ((aC aj a0).E x) r:=by obtain ⟨hc,rfl⟩:=zI h;exact az (ar.nil PP) Tryz.func129 zK zK zK zL (r1 (bb .i64)) true ((cd x.1:Int)) (aok x.1 hc)
noncomputable abbrev azb:Nat × Bool × (List AV->M AV):=(129,true,cx (aC aj a0) Dn)
def tw (n:Name):Bool:=n.any fun s=>decide (jr s≠0)
def dk (n:Name):Int:=if tw n then 4 else if 255<cd n then 5 else 0
theorem Q8 (n:Name) (i:Nat) (c:ByteArray) (h:n[i]? = some c):tw (n.take (i+1))=(tw (n.take i) || decide (jr c≠0)):=by obtain ⟨hk,rfl⟩:=zg.1 h;rw [zz5 hk];simp only [tw,List.any_append,List.any_cons,List.any_nil,Bool.or_false]
theorem Qt (n:Name) (i:Nat) (c:ByteArray) (h:n[i]? = some c) (hc:jr c≠0):tw n=true:=by simp only [tw,List.any_eq_true];exact ⟨c,zm h,by simp [hc]⟩
theorem aiw (s:ByteArray):jr s=0\/jr s=4:=by unfold jr;split<;>simp
theorem amc (n:Name) (hn:cd n<17592186044416):wl PP [aua,azb] 0 (Tryz.f76.body.getD .skip) (c9 PP Tryz.f76.results.toList (fun r st=>(r1 (bb .i64)).get true st.h r=some (dk n))) (cp 0 [aj.val false n]) (bg []):=by
 unfold Tryz.f76;rw [bz];simp only [↓wR,zV,simprocAttr];refine dq [0,6,7,8] (fun (x:Nat)=>[.vl false 1 (n.map (ai.val false)),.vl false 1 (n.map (ai.val false)),.sc (.int .i64 n.length),.sc (.int .i64 x)]) (fun _=>[]) (fun x=>x<=n.length/\tw (n.take x)=false) (fun x=>n.length - x) 0 ⟨zzb _,by simp [tw]⟩ ?_ ?_ ?_
 ·simp only [↓wR,zV,simprocAttr]<;>rfl
 ·simp only [↓wR,zV,simprocAttr]
 ·rintro i ⟨hi,hb⟩;have h1:=ju n i;simp only [↓wR,zV,simprocAttr];rw [cw];refine ⟨fun h=>?_,fun h=>?_⟩
  ·have h4:i<n.length:=by simp at h;omega
   obtain ⟨c,hc⟩:∃ c,n[i]? = some c:=⟨n[i],by simp [h4]⟩;simp only [↓wR,zV,simprocAttr,hc,Kn];rw [cw];refine ⟨fun h=>?_,fun h=>?_⟩
   ·have h5:jr c≠0:=by simpa using h
    have h6:jr c=4:=(aiw c).resolve_left h5;simp only [↓wR,zV,simprocAttr,dk,Qt n i c hc h5,h6]
   ·have h5:jr c=0:=by simpa using h
    simp only [↓wR,zV,simprocAttr];refine ⟨i+1,⟨zO,by rw [Q8 n i c hc,hb];simp [h5]⟩,zO,?_⟩;simp only [List.cons.injEq,and_true,true_and,AV.sc.injEq,Value.int.injEq];rw [wrap_i64 _ zO zO];omega
  ·have h4:i=n.length:=by simp at h;omega
   subst h4;rw [zz7] at hb;simp only [↓wR,zV,simprocAttr,Dn,hn];rw [cw];refine ⟨fun h=>?_,fun h=>?_⟩
   ·have h5 : 255<cd n:=by simp at h;omega
    simp only [↓wR,zV,simprocAttr,dk,hb,h5]
   ·have h5:¬ 255<cd n:=by simp at h;omega
    simp only [↓wR,zV,simprocAttr,dk,hb,h5]
noncomputable def sh (x:Name × Unit):Option AV:=if cd x.1<17592186044416 then some ((r1 (bb .i64)).E true (dk x.1)) else none
theorem sx (x:Name × Unit) (r:AV) (h:sh x=some r):bj PP 76 ((aC aj a0).E x) r:=by obtain ⟨hc,rfl⟩:=zI h;exact az (ar.cons (aq Xo) (ar.cons (aq abm) (ar.nil PP))) Tryz.func76 zK zK zK zL (r1 (bb .i64)) true (dk x.1) (amc x.1 hc)
noncomputable abbrev gb:Nat × Bool × (List AV->M AV):=(76,true,cx (aC aj a0) sh)
def low (c:UInt8):UInt8:=if 65<=c/\c<=90 then c+32 else c
def fold (s:ByteArray):ByteArray:=⟨(s.data.toList.map low).toArray⟩
def p0 (l:List UInt8) (i:Nat):List UInt8:=(l.take i).map low++l.drop i
theorem ax9 (l:List UInt8) (i:Nat):(p0 l i).length=l.length:=by simp [p0];omega
theorem aco (l:List UInt8) (i:Nat) (h:i<l.length):(p0 l i)[i]? = l[i]? := by simp [p0,List.getElem?_append,Nat.min_eq_left (Nat.le_of_lt h)]
theorem aci (l:List UInt8) (i:Nat) (h:i<l.length):(p0 l i).take i++[low l[i]]++(p0 l i).drop (i+1)=p0 l (i+1):=by
 have h1:((l.take i).map low).length=i:=by simp;omega
 have h2:(p0 l i).take i=(l.take i).map low:=by rw [p0,List.take_append_of_le_length zO,zzp zO]
 have h3:(p0 l i).drop (i+1)=l.drop (i+1):=by rw [p0,List.drop_append,zzx zO,h1];simp
 rw [h2,h3,p0,zz5 h,zzw];rfl
theorem Ys (l:List UInt8) (i:Nat) (h:i<l.length) (hk:low l[i]=l[i]):p0 l i=p0 l (i+1):=by
 rw [<- aci l i h,hk];have:(p0 l i)[i]? = some l[i]:=by rw [aco l i h];simp [h]
 obtain ⟨hlt,e⟩:=zg.1 this;rw [<- e,<- zz5 hlt,zzm]
theorem ahl (s:ByteArray) (hs:s.size<=16777216):wl PP [] 0 (Tryz.f191.body.getD .skip) (c9 PP Tryz.f191.results.toList (fun r st=>(r1 ai).get true st.h r=some (fold s))) (cp 0 [ai.val false s]) (bg []):=by
 unfold Tryz.f191;have hl:s.data.toList.length=s.size:=by simp
 simp only [↓wR,zV,simprocAttr,hs];refine dq [3,8,9,10] (fun (x:Nat)=>[.sl 0 0 s.size 1,.sl 0 0 s.size 1,.sc (.int .i64 s.size),.sc (.int .i64 x)]) (fun x=>[some (.row ((p0 s.data.toList x).map (ca.val false)) 0 1 5)]) (fun x=>x<=s.size) (fun x=>s.size - x) 0 (zzb _) ?_ ?_ ?_
 ·simp only [↓wR,zV,simprocAttr]<;>rfl
 ·simp only [↓wR,zV,simprocAttr]<;>rfl
 ·intro i hi;simp only [↓wR,zV,simprocAttr];rw [cw];refine ⟨fun h=>?_,fun h=>?_⟩
  ·have h4:i<s.size:=by simp at h;omega
   have h6:i<s.data.toList.length:=zO;have h5:(p0 s.data.toList i)[i]? = some s.data.toList[i]:=by rw [aco s.data.toList i h6];simp [h6]
   obtain ⟨c,hc⟩:∃ c,s.data.toList[i]=c:=⟨_,rfl⟩;have hcl:=c.toNat_lt;rw [hc] at h5;simp only [↓wR,zV,simprocAttr,h4,h5];rw [cw];refine ⟨fun h1=>?_,fun h1=>?_⟩
   ·simp only [↓wR,zV,simprocAttr,h1];rw [cw];refine ⟨fun h2=>?_,fun h2=>?_⟩
    ·have h7:i+1<=s.size:=zO;have aY:low c=c+32:=by
      simp at h1 h2;have a1 : 65<=c:=by rw [UInt8.le_iff_toNat_le];simp;omega
      have a2:c<=90:=by rw [UInt8.le_iff_toNat_le];simp;omega
      simp [low,a1,a2]
     have hw:IntKind.u8.wrap (IntKind.u8.wrap ((c.toNat:Int)+97) - 65)=((low c).toNat:Int):=by simp at h1 h2;rw [aY];simp [IntKind.wrap,IntKind.bits,IntKind.signed,UInt8.toNat_add];omega
     have hst:List.map (ca.val false) (List.take i (p0 s.data.toList i))++[AV.sc (Value.int IntKind.u8 ((low c).toNat:Int))]++List.map (ca.val false) (List.drop (i+1) (p0 s.data.toList i))=List.map (ca.val false) (p0 s.data.toList (i+1)):=by rw [<- aci s.data.toList i h6,hc,zzw,zzw];rfl
     simp only [↓wR,zV,simprocAttr,h4,h7,ax9,hl,hw,hst];refine ⟨i+1,h7,zO,?_,rfl⟩;rw [wrap_i64 _ zO zO];rfl
    ·simp only [↓wR,zV,simprocAttr];have hk:low c=c:=by
      simp at h2;have a2:¬ c<=90:=by rw [UInt8.le_iff_toNat_le];simp;omega
      simp [low,a2]
     refine ⟨i+1,zO,zO,?_,?_⟩
     ·rw [wrap_i64 _ zO zO];rfl
     ·rw [Ys s.data.toList i h6 (by rw [hc];exact hk)]
   ·simp only [↓wR,zV,simprocAttr,h1];have hk:low c=c:=by
     simp at h1;have a2:¬ 65<=c:=by rw [UInt8.le_iff_toNat_le];simp;omega
     simp [low,a2]
    refine ⟨i+1,zO,zO,?_,?_⟩
    ·rw [wrap_i64 _ zO zO];rfl
    ·rw [Ys s.data.toList i h6 (by rw [hc];exact hk)]
  ·have h4:i=s.size:=by simp at h;omega
   subst h4;have:∃ m,List.map low s.data.toList=m:=⟨_,rfl⟩;obtain ⟨m,hm⟩:=this;have h5:p0 s.data.toList s.size=m:=by rw [p0,zzp (Nat.le_of_eq hl),zzx (Nat.le_of_eq hl),zzn,hm]
   have iW:m.length=s.size:=by rw [<- hm,zzo,hl]
   have h6:List.take s.size (List.map (ca.val false) m)=List.map (ca.val false) m:=zzp (by rw [zzo,iW];exact zza _);have hf:fold s=⟨m.toArray⟩:=by rw [fold,hm]
   rw [h5,hf];simp only [↓wR,zV,simprocAttr,iW,h6]
noncomputable def wy (x:ByteArray × Unit):Option AV:=if x.1.size<=16777216 then some ((r1 ai).E true (fold x.1)) else none
theorem Er (x:ByteArray × Unit) (r:AV) (h:wy x=some r):bj PP 191 ((aC ai a0).E x) r:=by obtain ⟨hc,rfl⟩:=zI h;exact az (ar.nil PP) Tryz.func191 zK zK zK zL (r1 ai) true (fold x.1) (ahl x.1 hc)
noncomputable abbrev Q6:Nat × Bool × (List AV->M AV):=(191,true,cx (aC ai a0) wy)
theorem ak2 (a b:ByteArray) (ha:a.size<=16777216) (hb:b.size<=16777216):wl PP [Q6] 0 (Tryz.f177.body.getD .skip) (c9 PP Tryz.f177.results.toList (fun r st=>(r1 bk).get true st.h r=some (decide (fold a=fold b)))) (cp 0 [ai.val false a,ai.val false b]) (bg []):=by unfold Tryz.f177;simp only [↓wR,zV,simprocAttr,wy,ha,hb]
noncomputable def C4 (x:ByteArray × ByteArray × Unit):Option AV:=if x.1.size<=16777216/\x.2.1.size<=16777216 then some ((r1 bk).E true (decide (fold x.1=fold x.2.1))) else none
theorem abw (x:ByteArray × ByteArray × Unit) (r:AV) (h:C4 x=some r):bj PP 177 ((aC ai (aC ai a0)).E x) r:=by obtain ⟨hc,rfl⟩:=zI h;exact az (ar.cons (aq Er) (ar.nil PP)) Tryz.func177 zK zK zK zL (r1 bk) true (decide (fold x.1=fold x.2.1)) (ak2 x.1 x.2.1 hc.1 hc.2)
noncomputable abbrev axo:Nat × Bool × (List AV->M AV):=(177,true,cx (aC ai (aC ai a0)) C4)
end Go.Proofs.YtjagjbceegbaiaaGreat
end
section
namespace Go.Proofs.YtjagjbceegbaiaaGreat
open Go.Vm Go.RowKit
theorem aH0 {x:Value} (h:o0 x = .str):∃ s,x = .string s:=by cases x<;>first|exact ⟨_,rfl⟩|cases h
theorem Z5 {x:Value} {k:IntKind} (h:o0 x = .int k):∃ i,x = .int k i:=by cases x<;>first|(cases h;exact ⟨_,rfl⟩)|cases h
theorem Ra:Tryz.f17.ntmps=22:=rfl
set_option maxHeartbeats 1600000 in
theorem Bf {S:Nat->Prop} {M:Nat} {v:Value} {w:World} (hM:M<9223372036854775807) (hv:qh S M w .str v) :
 Calls PP 17 #[v] w (fun e w'=>∃ r,e = .returned r/\ji S 1 false w w'):=by
 rcases hv with ⟨a,rfl⟩|⟨b,off,n,cap,cs,e,rfl,h1,⟨h2,hcm⟩,h3,h4,h5,h6⟩
 ·go_enter Tryz.func17,Ra
  cases a with
  |none=>
   go_wp2
   refine wp_loop_rounds 1 ?_;rw [rounds_succ]
   go_wp2
   go_end0
   exact ⟨_,rfl,.refl _ _ _ _⟩
  |some a=>
   go_wp2
   refine wp_loop_rounds 1 ?_;rw [rounds_succ]
   go_wp2
   go_end0
   exact ⟨_,rfl,.refl _ _ _ _⟩
 unfold maxLen at hcm
 go_enter Tryz.func17,Ra
 go_wp2
 go_loopw [3] (fun i wr=>∃ k:Nat,k<=cap/\i = .int .i64 k/\Lp w b cs e off 1 k wr)
  (fun i _=>cap - (RowKit.intOf i).toNat)
 case atStart=>exact ⟨0,zzb _,rfl,.start h3⟩
 case round=>
  obtain ⟨k,hk,rfl,hl⟩:=hrel;by_cases gM:k<cap
  ·have hlt:off+k<cs.size:=zO;obtain ⟨x,hx⟩:∃ x,cs[off+k]? = some x:=⟨_,zz3 hlt⟩;obtain ⟨q1,q2⟩:=h6 k x gM hx;obtain ⟨s,rfl⟩:=aH0 q1;have hs:=hl.cell hx;have hfz:=hl.frozen (off+k);have AP:s.size+1<=9223372036854775807:=by have:=q2 s rfl;omega
   go_wp2
   go_roundw
   case rel=>exact ⟨k+1,zO,by simp,hl.step hx (by simp [o0]) rfl (fun s' e=>by cases e;exact ⟨s,rfl,by rw [ByteArray.size_append];exact zza _⟩)⟩
   case measure=>simp [RowKit.intOf];omega
  ·go_wp2
   go_end0
   exact ⟨_,rfl,hl.sv h3 h1⟩
theorem ajb:Tryz.f111.ntmps=22:=rfl
set_option maxHeartbeats 1600000 in
theorem afx {S:Nat->Prop} {M:Nat} {v:Value} {w:World} (hv:qh S M w (.int .u8) v) :
 Calls PP 111 #[v] w (fun e w'=>∃ r,e = .returned r/\ji S 1 false w w'):=by
 obtain ⟨base,n,cap,rfl,h2,hcm,hb0⟩:=hv.form;unfold maxLen at hcm;have hst:=Pu.start (m:=1) hv
 go_enter Tryz.func111,ajb
 go_wp2
 go_loopw [3] (fun i wr=>∃ k:Nat,k<=cap/\i = .int .i64 k/\Pu S 1 k w (.slice base n cap) wr)
  (fun i _=>cap - (RowKit.intOf i).toNat)
 case atStart=>exact ⟨0,zzb _,rfl,hst⟩
 case round=>
  obtain ⟨k,hk,rfl,hl⟩:=hrel;by_cases gM:k<cap
  ·obtain ⟨b,off,x,rfl,hs,hfz,q1,q2,hstep⟩:=hl.at (by decide) hv gM;obtain ⟨y,rfl⟩:=Z5 q1
   go_wp2
   go_roundw
   case rel=>exact ⟨k+1,zO,by simp,hstep _ rfl (fun s' e=>by cases e)⟩
   case measure=>simp [RowKit.intOf];omega
  ·go_wp2
   go_end0
   exact ⟨_,rfl,hl.sv⟩
theorem amu:Tryz.f64.ntmps=44:=rfl
set_option maxHeartbeats 1600000 in
theorem aks {S:Nat->Prop} {Nn M:Nat} {va vb vc vd:Value} {w:World} (gS : 4<=M) (hM:M+(Nn+3)<9223372036854775807) (hS:∀ b,w.heap.size<=b->S b) (hv:So S Nn M w [va,vb,vc,vd]) :
 Calls PP 64 #[.agg #[va,vb,vc,vd]] w (fun e w'=>∃ r,e = .returned r/\ji S (Nn+3) false w w'):=by
 obtain ⟨_,_,_,_,he,ha,hb,hc,hd⟩:=hv;cases he;have bM:ji S 0 false w (w.alloc (.cells #[va,vb,vc,vd] 116)):=ji.alloc _;obtain ⟨bn,an,cn,rfl,yZ,yY,sU,yX⟩:=ha.form;obtain ⟨bm,am,cm,rfl,BC,zr,BB⟩:=hb.form;unfold maxLen at sU zr;have bS:(w.alloc (.cells #[Value.slice bn an cn,.slice bm am cm,vc,vd] 116)).heap[w.heap.size]? = some (.cells #[Value.slice bn an cn,.slice bm am cm,vc,vd] 116 (0,0)):=Bv _ _;have cell:∀ {m:Nat} {wr:World},ji S m false (w.alloc (.cells #[Value.slice bn an cn,.slice bm am cm,vc,vd] 116)) wr->wr.cell? ⟨w.heap.size,0,none⟩=some (.slice bn an cn)/\wr.cell? ⟨w.heap.size,1,none⟩=some (.slice bm am cm)/\wr.cell? ⟨w.heap.size,2,none⟩=some vc/\wr.cell? ⟨w.heap.size,3,none⟩=some vd:=by intro m wr h;refine ⟨h.stay (by rw [j9 bS];rfl) rfl,h.stay (by rw [j9 bS];rfl) rfl,h.stay (by rw [j9 bS];rfl) hc.slice,h.stay (by rw [j9 bS];rfl) hd.slice⟩
 go_enter Tryz.func64,amu
 go_wp2
 go_loopw [2] (fun i wr=>∃ k:Nat,k<=an/\i = .int .i64 k/\ji S k false (w.alloc (.cells #[Value.slice bn an cn,.slice bm am cm,vc,vd] 116)) wr)
  (fun i _=>an - (RowKit.intOf i).toNat)
 case atStart=>exact ⟨0,zzb _,rfl,.refl _ _ _ _⟩
 case round=>
  obtain ⟨k,hk,rfl,ho⟩:=hrel;obtain ⟨c0,c1,c2,c3⟩:=cell ho;by_cases gM:k<an
  ·have hn:=aew gS (bM.trans ho) ha;obtain ⟨b,off,cs,e,rfl,e1,e2,e3,e4,e5,e6,v,e7,e8⟩:=hn.at gM;have h9:cs.getD (off+k) undef=v:=by simpa using e7
   have hx:wr.cell? ⟨b,off+k,none⟩=some v:=by rw [<- h9];exact cell_of e2 zO
   go_wp2
   refine (Bf zO e8).mono ?_;rintro ex w2 ⟨r,rfl,dH⟩
   go_wp2
   go_roundw
   case rel=>exact ⟨k+1,gM,by simp,ho.trans dH⟩
   case measure=>simp [RowKit.intOf];omega
  ·go_wp2
   have gR:=(hb.sv (by decide) (bM.trans ho)).mono (M':=M+Nn) zO;have hst:=Pu.start (m:=1) gR
   go_loopw [4] (fun i w2=>∃ q:Nat,q<=cm/\i = .int .i64 q/\Pu S 1 q wr (.slice bm am cm) w2)
    (fun i _=>cm - (RowKit.intOf i).toNat)
   case atStart=>exact ⟨0,zzb _,rfl,hst⟩
   case round=>
    obtain ⟨q,hq,rfl,hl⟩:=hrel;by_cases oU:q<cm
    ·obtain ⟨b,off,x,rfl,hs,hfz,q1,q2,hstep⟩:=hl.at (by decide) gR oU;obtain ⟨y,rfl⟩:=Z5 q1
     go_wp2
     go_roundw
     case rel=>exact ⟨q+1,zO,by simp,hstep _ rfl (fun s' e=>by cases e)⟩
     case measure=>simp [RowKit.intOf];omega
    ·have ho2:=hl.sv;obtain ⟨d0,d1,d2,d3⟩:=cell (ho.trans ho2)
     go_wp2
     have h3:=(bM.trans ho).trans ho2;refine (Bf (M:=M+(0+k+1)) zO (hc.sv (by decide) h3)).mono ?_;rintro ex w2 ⟨r,rfl,dH⟩;obtain ⟨f0,f1,f2,f3⟩:=cell ((ho.trans ho2).trans dH)
     go_wp2
     refine (afx (hd.sv (by decide) (h3.trans dH))).mono ?_;rintro ex w3 ⟨r2,rfl,qP⟩
     go_wp2
     go_end0
     exact ⟨_,rfl,((h3.trans dH).trans qP).mono zO⟩
theorem aG3:TK.sz 9=some 1:=zK
theorem am5:Tryz.f28.ntmps=86:=rfl
set_option maxHeartbeats 3200000 in
theorem Cz {S:Nat->Prop} {Nn Nd N M:Nat} {v:Value} {w:World} (gS : 4<=M) (hM:M+N * (1+Nd * (Nn+3))+(Nn+3)<9223372036854775807) (hS:∀ b,w.heap.size<=b->S b) (hv:mc S N w 5 (Ea S Nn Nd M) v) :
 Calls PP 28 #[v] w (fun e w'=>∃ r,e = .returned r/\ji S (N * (1+Nd * (Nn+3))) true w w'):=by
 obtain ⟨bn,an,cn,rfl,yZ,yY,sU,yX⟩:=hv.form;unfold maxLen at sU
 go_enter Tryz.func28,am5
 go_wp2
 go_loopw [2] (fun i wr=>∃ k:Nat,k<=an/\i = .int .i64 k/\ji S (k * (1+Nd * (Nn+3))) true w wr)
  (fun i _=>an - (RowKit.intOf i).toNat)
 case atStart=>exact ⟨0,zzb _,rfl,(ji.refl _ _ _ _)⟩
 case round=>
  obtain ⟨k,hk,rfl,ho⟩:=hrel;by_cases gM:k<an
  ·have hn:=wx gS ho hv;obtain ⟨b,off,cs,e,rfl,e1,e2,e3,e4,e5,e6,o,ty,cl,u,d,e7,e8,e9,gF,e11,sS⟩:=hn.at gM;simp only [show List.range 5=[0,1,2,3,4] from rfl,List.map_cons,List.map_nil,List.cons.injEq,and_true,Nat.add_zero] at e7;obtain ⟨g0,g1,g2,g3,g4⟩:=e7;have c0:wr.cell? ⟨b,off+k * 5,none⟩=some o:=by rw [<- g0];exact cell_of e2 zO
   have c4:wr.cell? ⟨b,off+k * 5+4,none⟩=some d:=by rw [<- g4];exact cell_of e2 zO
   go_wp2
   refine (Bf (M:=M+k * (1+Nd * (Nn+3))) (by have:=zz4 (1+Nd * (Nn+3)) (show k<=N by omega);omega) e8).mono ?_;rintro ex w2 ⟨r,rfl,dH⟩;obtain ⟨bd,dn,dc,rfl,d1,d2,d3,d4⟩:=sS.form;unfold maxLen at d3;have hsz:w.heap.size<=w2.heap.size:=zzu ho.size dH.size;have f4:w2.cell? ⟨b,off+k * 5+4,none⟩=some (.slice bd dn dc):=dH.stay c4 rfl
   go_wp2
   go_loopw [3] (fun i wr2=>∃ q:Nat,q<=dn/\i = .int .i64 q/\ji S (q * (Nn+3)) false w2 wr2)
    (fun i _=>dn - (RowKit.intOf i).toNat)
   case atStart=>exact ⟨0,zzb _,rfl,(ji.refl _ _ _ _)⟩
   case round=>
    obtain ⟨q,hq,rfl,ho2⟩:=hrel;have f5:=ho2.stay f4 rfl;by_cases oU:q<dn
    ·have dM:=P6 zO (dH.trans ho2) sS;obtain ⟨b2,cP,jJ,yP,rfl,p1,p2,p3,p4,p5,p6,p7⟩:=dM.at oU;obtain ⟨x0,x1,x2,x3,p8,p9⟩:=id p7;simp only [show List.range 4=[0,1,2,3] from rfl,List.map_cons,List.map_nil,List.cons.injEq,and_true,Nat.add_zero] at p8;obtain ⟨q0,q1,q2,q3⟩:=p8;have i0:wr.cell? ⟨b2,cP+q * 4,none⟩=some x0:=by rw [<- q0];exact cell_of p2 zO
     have i1:wr.cell? ⟨b2,cP+q * 4+1,none⟩=some x1:=by rw [<- q1];exact cell_of p2 zO
     have i2:wr.cell? ⟨b2,cP+q * 4+2,none⟩=some x2:=by rw [<- q2];exact cell_of p2 zO
     have i3:wr.cell? ⟨b2,cP+q * 4+3,none⟩=some x3:=by rw [<- q3];exact cell_of p2 zO
     have kE:k * (1+Nd * (Nn+3))+(1+Nd * (Nn+3))<=N * (1+Nd * (Nn+3)):=by rw [<- Nat.succ_mul];exact zz4 _ zO
     have kW:q * (Nn+3)+(Nn+3)<=Nd * (Nn+3):=by rw [<- Nat.succ_mul];exact zz4 _ zO
     go_wp2
     refine (aks (M:=M+k * (1+Nd * (Nn+3))+(1+q * (Nn+3))) zO zO (fun b hb=>hS b (by have:=ho2.size;omega)) ⟨x0,x1,x2,x3,rfl,p9⟩).mono ?_;rintro ex w3 ⟨r3,rfl,eQ⟩
     go_wp2
     go_roundw
     case rel=>exact ⟨q+1,oU,by simp,by rw [Nat.succ_mul];exact ho2.trans eQ⟩
     case measure=>simp [RowKit.intOf];omega
    ·go_wp2
     go_region
     go_wp2
     have kW:q=dn:=zO;subst kW;have h3:=dH.trans ho2
     go_loopw [5] (fun i vA=>∃ p:Nat,q<=p/\(p<=dc\/p=q)/\i = .int .i64 p/\ji S 0 true wr vA)
      (fun i _=>dc - (RowKit.intOf i).toNat)
     case atStart=>exact ⟨q,zza _,.inr rfl,rfl,ji.quiet _ _ _ (zza _) rfl rfl rfl (fun _ _=>rfl)⟩
     case round=>
      obtain ⟨p,gL,mN,rfl,oV⟩:=hrel;by_cases wL:p<dc
      ·have pG:=P6 (xx:=true) zO (h3.any.trans oV) sS;obtain ⟨b2,cP,jJ,yP,rfl,p1,p2,p3,p4,p5,p6⟩:=pG.room wL;have hfz:=ajm p2;have m0:=fun o=>Ha p2 o (j:=cP+p * 4) zO
       have m1:=fun o=>Ha p2 o (j:=cP+p * 4+1) zO
       have m2:=fun o=>Ha p2 o (j:=cP+p * 4+2) zO
       have m3:=fun o=>Ha p2 o (j:=cP+p * 4+3) zO
       go_wp2
       go_roundw
       case rel=>exact ⟨p+1,zO,.inl zO,by simp,oV.trans (ji.spare p2 p1 p3 (hS _ (by have:=oV.size;have:=ho2.size;omega)) zO aG3 (by decide))⟩
       case measure=>simp [RowKit.intOf];omega
      ·have ht:=(ho.trans h3.any).trans oV;obtain ⟨b',cA,cs',e',he',y1,y2,y3,y4,y5,y6,o',ty',yU,u',d',y7,y8,y9,gI,fE,gH⟩:=(wx gS ht hv).at gM;cases he';simp only [show List.range 5=[0,1,2,3,4] from rfl,List.map_cons,List.map_nil,List.cons.injEq,and_true,Nat.add_zero] at y7;obtain ⟨z0,sZ,z2,sY,z4⟩:=y7;have l1:wr.cell? ⟨b,off+k * 5+1,none⟩=some ty':=by rw [<- sZ];exact cell_of y2 zO
       have l3:wr.cell? ⟨b,off+k * 5+3,none⟩=some u':=by rw [<- sY];exact cell_of y2 zO
       have z1:=Qu y2 (off+k * 5+1);have z3:=Qu y2 (off+k * 5+3);obtain ⟨i1,rfl⟩:=Z5 y9;obtain ⟨i3,rfl⟩:=Z5 fE
       go_wp2
       have hs3:=ji.set (v:=.int .u32 (bits BinOp.xor .u32 i3 77)) y2 y1 (j:=off+k * 5+3) (x:=.int .u32 i3) (by rw [<- sY,zze,zz3 zO];rfl) (by intro q;cases q) rfl (fun s q=>by cases q);have hs1:=ji.set (v:=.int .u16 (bits BinOp.xor .u16 i1 77)) hs3.2 y1 (j:=off+k * 5+1) (x:=.int .u16 i1) (by rw [zzz,if_neg zO,<- sZ,zze,zz3 zO];rfl) (by intro q;cases q) rfl (fun s q=>by cases q);have mL:q * (Nn+3)<=Nd * (Nn+3):=zz4 _ d1
       go_roundw
       case rel=>exact ⟨k+1,gM,by simp,by rw [Nat.succ_mul];exact ((ht.trans (hs3.1.trans hs1.1).any)).mono zO⟩
       case measure=>simp [RowKit.intOf];omega
  ·go_wp2
   go_end0
   exact ⟨_,rfl,ho.mono (zz4 _ zO)⟩
theorem aod:Tryz.f37.ntmps=8:=rfl
theorem aE7:TK.sz 26=some 2:=zK
set_option maxHeartbeats 3200000 in
theorem aGo {S:Nat->Prop} {Nn Nd N M:Nat} {va vb:Value} {w:World} (gS : 4<=M) (hM:M+1+N * (1+Nd * (Nn+3))+(Nn+3)<9223372036854775807) (hS:∀ b,w.heap.size<=b->S b) (ha:qh S M w .str va) (hb:mc S N w 5 (Ea S Nn Nd M) vb) :
 Calls PP 37 #[.agg #[va,vb]] w (fun e w'=>∃ r,e = .returned r/\ji S (1+N * (1+Nd * (Nn+3))) true w w'):=by
 have bM:ji S 0 false w (w.alloc (.cells #[va,vb] 26)):=ji.alloc _;have bS:(w.alloc (.cells #[va,vb] 26)).heap[w.heap.size]? = some (.cells #[va,vb] 26 (0,0)):=Bv _ _
 go_enter Tryz.func37,aod
 go_wp2
 refine (Bf (M:=M+0) zO (ha.sv (by decide) bM)).mono ?_;rintro ex w2 ⟨r,rfl,dH⟩;have c1:=dH.ar3 bS aE7 (by decide) (j:=1) rfl hb.slice;have h2:=bM.trans dH
 go_wp2
 refine (Cz (M:=M+(0+1)) zO zO (fun b hb=>hS b (by have:=h2.size;omega)) (wx gS h2 hb)).mono ?_;rintro ex w3 ⟨r3,rfl,eQ⟩
 go_wp2
 go_end0
 exact ⟨_,rfl,((h2.any.trans eQ)).mono zO⟩
theorem aiy:Tryz.f32.ntmps=11:=rfl
theorem Wa:TK.sz 77=some 5:=zK
set_option maxHeartbeats 3200000 in
theorem afq {S:Nat->Prop} {Nn Nd N M:Nat} {v0 v1 va vb vc:Value} {w:World} (gS : 4<=M) (hM:M+3 * (N * (1+Nd * (Nn+3)))+(Nn+3)<9223372036854775807) (hS:∀ b,w.heap.size<=b->S b) (ha:mc S N w 5 (Ea S Nn Nd M) va) (hb:mc S N w 5 (Ea S Nn Nd M) vb) (hc:mc S N w 5 (Ea S Nn Nd M) vc) :
 Calls PP 32 #[.agg #[v0,v1,va,vb,vc]] w (fun e w'=>∃ r,e = .returned r/\ji S (3 * (N * (1+Nd * (Nn+3)))) true w w'):=by
 have bM:ji S 0 true w (w.alloc (.cells #[v0,v1,va,vb,vc] 77)):=ji.alloc _;have bS:(w.alloc (.cells #[v0,v1,va,vb,vc] 77)).heap[w.heap.size]? = some (.cells #[v0,v1,va,vb,vc] 77 (0,0)):=Bv _ _
 go_enter Tryz.func32,aiy
 go_wp2
 refine (Cz (M:=M+0) zO zO (fun b hb=>hS b (by have:=bM.size;omega)) (wx gS bM ha)).mono ?_;rintro ex w2 ⟨r,rfl,dH⟩;have c3:=dH.ar3 bS Wa (by decide) (j:=3) rfl hb.slice;have h2:=bM.trans dH
 go_wp2
 refine (Cz (M:=M+(0+N * (1+Nd * (Nn+3)))) zO zO (fun b hb=>hS b (by have:=h2.size;omega)) (wx gS h2 hb)).mono ?_;rintro ex w3 ⟨r3,rfl,eQ⟩;have c4:=(dH.trans eQ).ar3 bS Wa (by decide) (j:=4) rfl hc.slice;have h3:=h2.trans eQ
 go_wp2
 refine (Cz (M:=M+(0+N * (1+Nd * (Nn+3))+N * (1+Nd * (Nn+3)))) zO zO (fun b hb=>hS b (by have:=h3.size;omega)) (wx gS h3 hc)).mono ?_;rintro ex w4 ⟨r4,rfl,qO⟩
 go_wp2
 go_end0
 exact ⟨_,rfl,(h3.trans qO).mono zO⟩
end Go.Proofs.YtjagjbceegbaiaaGreat
end
section
namespace Go.Proofs.YtjagjbceegbaiaaGreat
open Go.Vm
def fv:List ByteArray->List ByteArray->Nat
 |a::r,b::q=>if fold a=fold b then fv r q+1 else 0
 |_,_=>0
theorem Ui (l:List ByteArray):fv l []=0:=by cases l<;>rfl
def common (a b:Name):Nat:=fv a.reverse b.reverse
theorem My {l:List ByteArray} {x:Nat} {c:ByteArray} (h:x<l.length) (hc:l[l.length - 1 - x]? = some c):l.reverse.drop x=c::l.reverse.drop (x+1):=by
 have h1:l.reverse[x]? = some c:=by rw [List.getElem?_reverse h];exact hc
 obtain ⟨h2,h3⟩:=zg.1 h1;rw [<- h3];exact zzs h2
theorem af1 (a b:Name) (ha:∀ s ∈ a,s.size<=16777216) (hb:∀ s ∈ b,s.size<=16777216) (kD:a.length<17592186044416) (rH:b.length<17592186044416):wl PP [axo] 0 (Tryz.f130.body.getD .skip) (c9 PP Tryz.f130.results.toList (fun r st=>(r1 (bb .i64)).get true st.h r=some (common a b:Int))) (cp 0 [aj.val false a,aj.val false b]) (bg []):=by
 unfold Tryz.f130;simp only [bz];simp only [↓wR,zV,simprocAttr];refine ct (T:=[]) (ar.nil PP) mixed Tryz.func176 rfl zK zK zK zK ?_;unfold Tryz.f176;simp only [↓wR,zV,simprocAttr];refine ⟨[2,3,4,5,10],?_⟩;have hib:Fp PP 201=some (Tryz.f201.ntmps,Tryz.f201.body.getD .skip):=zK;simp only [↓wR,zV,simprocAttr,hib];refine ⟨zK,fun l=>?_⟩;unfold Tryz.f201;simp only [↓wR,zV,simprocAttr];refine Js [0,1,3] (fun (x:Nat)=>[.sc (.func (.yield l) #[] #[]),.ptr 4 0,.sc (.int .i64 ((a.length:Int) - 1 - x))]) (fun x=>[some (.row [.vl false 1 (a.map (ai.val false))] 0 2 23),some (.row [.vl false 1 (b.map (ai.val false))] 0 2 23),some (.row [.sc (.int .i64 0)] 0 2 3),some (.row [.sc (.int .i64 x)] 0 2 3),some (.row [.vl false 1 (a.map (ai.val false))] 0 2 23)]) (fun x=>x<=a.length/\common a b=x+fv (a.reverse.drop x) (b.reverse.drop x)) (fun x=>a.length - x) 0 ⟨zzb _,by simp [common]⟩ ?_ ?_ ?_
 ·simp only [↓wR,zV,simprocAttr];simp;rw [wrap_i64 _ zO zO]
 ·simp only [↓wR,zV,simprocAttr]<;>rfl
 rintro x ⟨hx,hR⟩;simp only [↓wR,zV,simprocAttr];rw [Aq];refine ⟨fun h=>?_,fun h=>?_⟩
 ·have hx':x<a.length:=by simp at h;omega
  obtain ⟨c,hc⟩:∃ c,a[a.length - 1 - x]? = some c:=⟨_,zh zO⟩;have e:((a.length:Int) - 1 - x).toNat=a.length - 1 - x:=zO;have e2:(0:Int)<=(a.length:Int) - 1 - x:=zO;simp only [↓wR,zV,simprocAttr,e,hc,e2];refine Cu [0,1,3,12,16] ?_;simp only [↓wR,zV,simprocAttr,Dr,qa,hc];simp (disch:=omega) only [zW];rw [cw];refine ⟨fun h1=>?_,fun h1=>?_⟩
  ·have hb0:b.length<=x:=by simp at h1;omega
   have hb1:b.reverse.drop x=[]:=zzx (by simpa using hb0);rw [hb1,Ui] at hR;simp only [↓wR,zV,simprocAttr,h1];rw [hR,Nat.add_zero]
  ·have hb0:x<b.length:=by simp at h1;omega
   obtain ⟨d,hd⟩:∃ d,b[b.length - 1 - x]? = some d:=⟨_,zh zO⟩;have e4:((b.length:Int) - ((a.length:Int) - ((a.length:Int) - 1 - x))).toNat=b.length - 1 - x:=zO;have e5:(0:Int)<=(b.length:Int) - ((a.length:Int) - ((a.length:Int) - 1 - x)):=zO;simp only [↓wR,zV,simprocAttr,h1,hd,e4,e5,C4,ha c (zm hc),hb d (zm hd)];rw [My hx' hc,My hb0 hd,fv] at hR;rw [cw];refine ⟨fun h2=>?_,fun h2=>?_⟩
   ·have h3:¬ fold c=fold d:=by simpa using h2
    rw [if_neg h3] at hR;simp only [↓wR,zV,simprocAttr,h2];rw [hR,Nat.add_zero]
   ·have h3:fold c=fold d:=by simpa using h2
    rw [if_pos h3] at hR;simp only [↓wR,zV,simprocAttr,h2];refine ⟨x+1,⟨zO,zO⟩,zO,?_,?_⟩
    ·simp only [List.cons.injEq,and_true,true_and,AV.sc.injEq,Value.int.injEq];simp (disch:=omega) only [zW];omega
    ·simp (disch:=omega) only [zW];rfl
 ·have h4:x=a.length:=by simp at h;omega
  have h5:a.reverse.drop x=[]:=zzx (by simp;omega);rw [h5,fv] at hR;simp only [↓wR,zV,simprocAttr,h];rw [hR,Nat.add_zero]
  all_goals simp
theorem amy (args:List AV):Cr PP 218 args (Cx.mr args):=
 Cx.Ia (fn:=(PP.funcs[218]?).getD default) zK zK zK zK zK args
noncomputable abbrev aw9:Nat × Bool × (List AV->M AV):=(218,true,Cx.mr)
theorem av9:ar PP [aw9]:=ar.cons amy (ar.nil PP)
noncomputable def ym (a b:ByteArray):Int:=Lib.compareBytes a.data.toList b.data.toList
theorem Tp (a b:ByteArray):wl PP [] 0 (Tryz.f211.body.getD .skip) (c9 PP Tryz.f211.results.toList (fun r st=>(r1 (bb .i64)).get true st.h r=some (ym a b))) (cp 0 [ai.val false a,ai.val false b]) (bg []):=by unfold Tryz.f211;simp only [↓wR,zV,simprocAttr];refine ct (T:=[aw9]) av9 mixed Tryz.func215 rfl zK zK zK zK ?_;unfold Tryz.f215;simp only [↓wR,zV,simprocAttr,ym]
noncomputable def Ds (x:ByteArray × ByteArray × Unit):Option AV:=some ((r1 (bb .i64)).E true (ym x.1 x.2.1))
theorem Pe (x:ByteArray × ByteArray × Unit) (r:AV) (h:Ds x=some r):bj PP 211 ((aC ai (aC ai a0)).E x) r:=by cases h;exact az (ar.nil PP) Tryz.func211 zK zK zK zL (r1 (bb .i64)) true (ym x.1 x.2.1) (Tp x.1 x.2.1)
noncomputable abbrev aaj:Nat × Bool × (List AV->M AV):=(211,true,cx (aC ai (aC ai a0)) Ds)
theorem Yf (a b:ByteArray) (ha:a.size<=16777216) (hb:b.size<=16777216):wl PP [Q6,aaj] 0 (Tryz.f195.body.getD .skip) (c9 PP Tryz.f195.results.toList (fun r st=>(r1 (bb .i64)).get true st.h r=some (ym (fold a) (fold b)))) (cp 0 [ai.val false a,ai.val false b]) (bg []):=by unfold Tryz.f195;simp only [↓wR,zV,simprocAttr,wy,Ds,ha,hb]
noncomputable def xt (x:ByteArray × ByteArray × Unit):Option AV:=if x.1.size<=16777216/\x.2.1.size<=16777216 then some ((r1 (bb .i64)).E true (ym (fold x.1) (fold x.2.1))) else none
theorem Tt (x:ByteArray × ByteArray × Unit) (r:AV) (h:xt x=some r):bj PP 195 ((aC ai (aC ai a0)).E x) r:=by obtain ⟨hc,rfl⟩:=zI h;exact az (ar.cons (aq Er) (ar.cons (aq Pe) (ar.nil PP))) Tryz.func195 zK zK zK zL (r1 (bb .i64)) true (ym (fold x.1) (fold x.2.1)) (Yf x.1 x.2.1 hc.1 hc.2)
noncomputable abbrev akm:Nat × Bool × (List AV->M AV):=(195,true,cx (aC ai (aC ai a0)) xt)
def fh (n:Name):List ByteArray:=n.map fold
def aw (n:Name):Prop:=cd n<=16777216
instance (n:Name):Decidable (aw n):=inferInstanceAs (Decidable (_<=_))
theorem aki {n:Name} {s:ByteArray} (h:s ∈ n):s.size<cd n:=by
 obtain ⟨a,b,rfl⟩:=List.append_of_mem h;have h1:=nh a ([s]++b);have h2:=nh [s] b;have h3:cd [s]=s.size+2:=by simp [cd];omega
 have h4:∀ l:Name,1<=cd l:=fun l=>by have:=(ju l 0).2;omega
 have:=h4 a;have:=h4 b;simp only [List.singleton_append] at h1 h2;omega
theorem aw.label {n:Name} (h:aw n):∀ s ∈ n,s.size<=16777216:=fun s hs=>by have:=aki hs;unfold aw at h;omega
theorem aw.len {n:Name} (h:aw n):n.length<17592186044416:=by have:=(ju n 0).2;unfold aw at h;omega
theorem Hb:∀ r q:List ByteArray,fv r q<=q.length
 | [],q=>by simp [fv]
 |a::r,[]=>by simp [fv]
 |a::r,b::q=>by
  have:=Hb r q;simp only [fv,List.length_cons]
  split<;>omega
theorem Dc:∀ r q:List ByteArray,fv r q<=r.length
 | [],q=>by simp [fv]
 |a::r,[]=>by simp [fv]
 |a::r,b::q=>by
  have:=Dc r q;simp only [fv,List.length_cons]
  split<;>omega
theorem Vr:∀ r q:List ByteArray,fv r q=q.length↔q.map fold <+: r.map fold
 | [],[]=>by simp [fv]
 |a::r,[]=>by simp [fv]
 | [],b::q=>by simp [fv]
 |a::r,b::q=>by
  have:=Vr r q;simp only [fv,List.length_cons,List.map_cons,List.cons_prefix_cons];by_cases h:fold a=fold b
  ·rw [if_pos h];constructor
   ·intro h1;exact ⟨h.symm,this.1 zO⟩
   ·intro h1;have:=this.2 h1.2;omega
  ·rw [if_neg h];constructor
   ·intro h1;omega
   ·intro h1;exact (h h1.1.symm).elim
theorem Dy (n top:Name):common n top=top.length↔fh top <:+ fh n:=by unfold common fh;rw [<- List.length_reverse,Vr,List.map_reverse,List.map_reverse,List.reverse_prefix]
theorem Fk (a b:Name):(a.length=b.length/\common a b=a.length)↔fh a=fh b:=by
 constructor
 ·rintro ⟨h1,h2⟩;rw [h1] at h2;have:=(Dy a b).1 h2;exact (this.eq_of_length (by simp [fh,h1])).symm
 ·intro h;have hl:a.length=b.length:=by have:=congrArg List.length h;simpa [fh] using this
  refine ⟨hl,?_⟩;rw [hl];exact (Dy a b).2 (by rw [h];exact List.suffix_refl _)
def dt (a b:Name):Bool:=decide (fh a=fh b)
def dj (n top:Name):Bool:=decide (fh top <:+ fh n)
noncomputable def sr (x:Name × Name × Unit):Option AV:=if aw x.1/\aw x.2.1 then some ((r1 (bb .i64)).E true ((common x.1 x.2.1:Int))) else none
theorem C3 (x:Name × Name × Unit) (r:AV) (h:sr x=some r):bj PP 130 ((aC aj (aC aj a0)).E x) r:=by obtain ⟨hc,rfl⟩:=zI h;exact az (ar.cons (aq abw) (ar.nil PP)) Tryz.func130 zK zK zK zL (r1 (bb .i64)) true ((common x.1 x.2.1:Int)) (af1 x.1 x.2.1 hc.1.label hc.2.label hc.1.len hc.2.len)
noncomputable abbrev Ob:Nat × Bool × (List AV->M AV):=(130,true,cx (aC aj (aC aj a0)) sr)
theorem aiu (n top:Name) (hn:aw n) (ht:aw top):wl PP [Ob] 0 (Tryz.f77.body.getD .skip) (c9 PP Tryz.f77.results.toList (fun r st=>(r1 bk).get true st.h r=some (dj n top))) (cp 0 [aj.val false n,aj.val false top]) (bg []):=by
 unfold Tryz.f77;simp only [bz];simp only [↓wR,zV,simprocAttr,sr,hn,ht]
 congr 1
 unfold dj;have:=Dy n top;rw [zyb];simp [<- this];omega
noncomputable def kp (x:Name × Name × Unit):Option AV:=if aw x.1/\aw x.2.1 then some ((r1 bk).E true (dj x.1 x.2.1)) else none
theorem oh (x:Name × Name × Unit) (r:AV) (h:kp x=some r):bj PP 77 ((aC aj (aC aj a0)).E x) r:=by obtain ⟨hc,rfl⟩:=zI h;exact az (ar.cons (aq C3) (ar.nil PP)) Tryz.func77 zK zK zK zL (r1 bk) true (dj x.1 x.2.1) (aiu x.1 x.2.1 hc.1 hc.2)
noncomputable abbrev uf:Nat × Bool × (List AV->M AV):=(77,true,cx (aC aj (aC aj a0)) kp)
theorem amj (n top:Name) (hn:aw n) (ht:aw top):wl PP [Ob] 0 (Tryz.f80.body.getD .skip) (c9 PP Tryz.f80.results.toList (fun r st=>(r1 bk).get true st.h r=some (dt n top))) (cp 0 [aj.val false n,aj.val false top]) (bg []):=by
 unfold Tryz.f80;simp only [bz];simp only [↓wR,zV,simprocAttr,sr,hn,ht];rw [cw];refine ⟨fun h=>?_,fun h=>?_⟩
 ·have hl:n.length=top.length:=by simp at h;omega
  simp only [↓wR,zV,simprocAttr,h,sr,hn,ht]
  congr 1
  unfold dt;have:=Fk n top;rw [zyb];simp [<- this,hl];omega
 ·have hl:¬ n.length=top.length:=by simp at h;omega
  simp only [↓wR,zV,simprocAttr,h];have:=Fk n top;simp [dt,<- this,hl]
noncomputable def j6 (x:Name × Name × Unit):Option AV:=if aw x.1/\aw x.2.1 then some ((r1 bk).E true (dt x.1 x.2.1)) else none
theorem gy (x:Name × Name × Unit) (r:AV) (h:j6 x=some r):bj PP 80 ((aC aj (aC aj a0)).E x) r:=by obtain ⟨hc,rfl⟩:=zI h;exact az (ar.cons (aq C3) (ar.nil PP)) Tryz.func80 zK zK zK zL (r1 bk) true (dt x.1 x.2.1) (amj x.1 x.2.1 hc.1 hc.2)
noncomputable abbrev eg:Nat × Bool × (List AV->M AV):=(80,true,cx (aC aj (aC aj a0)) j6)
noncomputable def af5 (a b:Name) (k:Nat):Int:=
 match a[a.length - 1 - k]?,b[b.length - 1 - k]? with
 |some x,some y=>ym (fold x) (fold y)
 |_,_=>0
noncomputable def u5 (a b:Name):Int:=
 if common a b=a.length/\common a b=b.length then 0 else if common a b=a.length then -1 else if common a b=b.length then 1 else af5 a b (common a b)
theorem aak (a b:Name) (ha:aw a) (hb:aw b):wl PP [Ob,akm] 0 (Tryz.f166.body.getD .skip) (c9 PP Tryz.f166.results.toList (fun r st=>(r1 (bb .i64)).get true st.h r=some (u5 a b))) (cp 0 [aj.val false a,aj.val false b]) (bg []):=by
 unfold Tryz.f166;simp only [bz];simp only [↓wR,zV,simprocAttr,sr,ha,hb];have h1:=Dc a.reverse b.reverse;have h2:=Hb a.reverse b.reverse;rw [List.length_reverse] at h1 h2;change common a b<=a.length at h1;change common a b<=b.length at h2;obtain ⟨k,hk⟩:∃ k,common a b=k:=⟨_,rfl⟩;rw [hk] at h1 h2;unfold u5;rw [hk];rw [cw];refine ⟨fun h=>?_,fun h=>?_⟩
 ·simp only [↓wR,zV,simprocAttr,h];have hka:k=a.length:=by simp at h;omega
  rw [cw];refine ⟨fun h3=>?_,fun h3=>?_⟩
  ·have hkb:k=b.length:=by simp at h3;omega
   simp only [↓wR,zV,simprocAttr,h3];rw [if_pos ⟨hka,hkb⟩]
  ·have hkb:¬ k=b.length:=by simp at h3;omega
   simp only [↓wR,zV,simprocAttr,h3,h];rw [if_neg (fun e=>hkb e.2),if_pos hka]
 ·simp only [↓wR,zV,simprocAttr,h];have hka:¬ k=a.length:=by simp at h;omega
  rw [cw];refine ⟨fun h3=>?_,fun h3=>?_⟩
  ·have hkb:k=b.length:=by simp at h3;omega
   simp only [↓wR,zV,simprocAttr,h3];rw [if_neg (fun e=>hka e.1),if_neg hka,if_pos hkb]
  ·have hkb:¬ k=b.length:=by simp at h3;omega
   rw [if_neg (fun e=>hka e.1),if_neg hka,if_neg hkb];obtain ⟨x,hx⟩:∃ x,a[a.length - 1 - k]? = some x:=⟨_,zh zO⟩;obtain ⟨y,hy⟩:∃ y,b[b.length - 1 - k]? = some y:=⟨_,zh zO⟩;simp only [↓wR,zV,simprocAttr,h3];refine ⟨zK,.inl ?_⟩;have la:=ha.len;have lb:=hb.len;simp (disch:=omega) only [zW];have e1:(((a.length:Int) - 1) - k).toNat=a.length - 1 - k:=zO;have e2:(0:Int)<=((a.length:Int) - 1) - k:=zO;have e3:(((b.length:Int) - 1) - k).toNat=b.length - 1 - k:=zO;have e4:(0:Int)<=((b.length:Int) - 1) - k:=zO;simp only [↓wR,zV,simprocAttr,hx,e1,e2];simp (disch:=omega) only [zW];simp only [↓wR,zV,simprocAttr,hy,e3,e4,xt,ha.label x (zm hx),hb.label y (zm hy)];exact ⟨zK,by simp [af5,hx,hy]⟩
noncomputable def zf (x:Name × Name × Unit):Option AV:=if aw x.1/\aw x.2.1 then some ((r1 (bb .i64)).E true (u5 x.1 x.2.1)) else none
theorem Vx (x:Name × Name × Unit) (r:AV) (h:zf x=some r):bj PP 166 ((aC aj (aC aj a0)).E x) r:=by obtain ⟨hc,rfl⟩:=zI h;exact az (ar.cons (aq C3) (ar.cons (aq Tt) (ar.nil PP))) Tryz.func166 zK zK zK zL (r1 (bb .i64)) true (u5 x.1 x.2.1) (aak x.1 x.2.1 hc.1 hc.2)
noncomputable abbrev an0:Nat × Bool × (List AV->M AV):=(166,true,cx (aC aj (aC aj a0)) zf)
theorem aw.lt {n:Name} (h:aw n):n.length<16777216:=by have:=(ju n 0).2;unfold aw at h;omega
theorem aor (n:Name) (hn:aw n):wl PP [] 0 (Tryz.f45.body.getD .skip) (c9 PP Tryz.f45.results.toList (fun r st=>(r1 aj).get true st.h r=some n)) (cp 0 [aj.val false n]) (bg []):=by
 unfold Tryz.f45;simp only [bz];have aD:n.length * 16<=140737488355328:=by have:=hn.lt;omega
 simp only [↓wR,zV,simprocAttr,aD]
noncomputable def oe (x:Name × Unit):Option AV:=if aw x.1 then some ((r1 aj).E true (x.1)) else none
theorem px (x:Name × Unit) (r:AV) (h:oe x=some r):bj PP 45 ((aC aj a0).E x) r:=by obtain ⟨hc,rfl⟩:=zI h;exact az (ar.nil PP) Tryz.func45 zK zK zK zL (r1 aj) true (x.1) (aor x.1 hc)
noncomputable abbrev ve:Nat × Bool × (List AV->M AV):=(45,true,cx (aC aj a0) oe)
theorem azo {n:Name} {i:Nat} {c:ByteArray} (hc:n[i]? = some c):fh (n.drop i)=fold c::fh (n.drop (i+1)):=by rw [Eh hc];rfl
theorem amx (n:Name) (hn:aw n):wl PP [Q6] 0 (Tryz.f153.body.getD .skip) (c9 PP Tryz.f153.results.toList (fun r st=>(r1 aj).get true st.h r=some (fh n))) (cp 0 [aj.val false n]) (bg []):=by
 unfold Tryz.f153;simp only [bz];have bD:=hn.lt;simp only [↓wR,zV,simprocAttr];refine fg [6,7,8,3] (fun (x:List ByteArray)=>[.vl false 1 (n.map (ai.val false)),.sc (.int .i64 n.length),.sc (.int .i64 x.length),.sl 0 0 x.length 1]) (fun x=>[some (.row (x.map (ai.val false)) 0 0 9)]) (fun x=>x++fh (n.drop x.length)=fh n/\x.length<=n.length) (fun x=>n.length - x.length) [] ⟨rfl,zzb _⟩ (by simp only [↓wR,zV,simprocAttr];(refine ir.lax [] (by first|exact zB rfl|(simp [dm];omega)) ?_ ?_<;>repeat' first|exact dx.nil|exact bw.nil|exact eh.same _|exact eh.nil _ _ _|exact eh.k8 _ _|exact bw.refl _ _|apply dx.cons|apply bw.ghost|apply bw.same|apply bw.row)) ?_;rintro x ⟨hR,hx⟩;simp only [↓wR,zV,simprocAttr];rw [cw];refine ⟨fun h=>?_,fun h=>?_⟩
 ·obtain ⟨c,hc,hd,hlt⟩:=du h;have aD:(x.length+1) * 16<=140737488355328:=zO;simp only [↓wR,zV,simprocAttr,hc,wy,hn.label c (zm hc),aD];refine ⟨x++[fold c],⟨?_,by simp;omega⟩,by simp;omega,zF,zF⟩;rw [<- hR,azo hc];simp
 ·rw [eu h] at hR;simp only [↓wR,zV,simprocAttr,h];simpa [fh] using hR
noncomputable def Gj (x:Name × Unit):Option AV:=if aw x.1 then some ((r1 aj).E true (fh x.1)) else none
theorem afc (x:Name × Unit) (r:AV) (h:Gj x=some r):bj PP 153 ((aC aj a0).E x) r:=by obtain ⟨hc,rfl⟩:=zI h;exact az (ar.cons (aq Er) (ar.nil PP)) Tryz.func153 zK zK zK zL (r1 aj) true (fh x.1) (amx x.1 hc)
noncomputable abbrev aBj:Nat × Bool × (List AV->M AV):=(153,true,cx (aC aj a0) Gj)
theorem mw {n:Name} (h:dk n=0):cd n<=255:=by
 unfold dk at h
 split at h
 ·cases h
 ·split at h
  ·cases h
  ·omega
theorem aw.fit {n:Name} (h:aw n):cd n<17592186044416:=by unfold aw at h;omega
theorem aw.drop {n:Name} (h:aw n) (i:Nat):aw (n.drop i):=by unfold aw at *;have:=nh (n.take i) (n.drop i);rw [zzm] at this;have h1:=(ju (n.take i) 0).2;omega
def pz:ByteArray:=⟨#[42]⟩
def je (s:ByteArray):List UInt8:=UInt8.ofNat s.size::s.data.toList
def nameBytes (n:Name):List UInt8:=n.flatMap je++[0]
def l9 (n:Name):List UInt8:=if dk n≠0 then [] else nameBytes n
theorem D1 (s):(je s).length=s.size+1:=by simp [je]
theorem xw (n:Name):(n.flatMap je).length+1=cd n:=by
 induction n with
 |nil=>rfl
 |cons a l ih=>
  have:=nh [a] l;have h3:cd [a]=a.size+2:=by simp [cd];omega
  simp only [List.singleton_append] at this;simp only [List.flatMap_cons,za,D1];omega
theorem ai4 (n:Name) (hn:aw n):wl PP [gb] 0 (Tryz.f189.body.getD .skip) (c9 PP Tryz.f189.results.toList (fun r st=>(r2 (cg ca) (bb .i64)).get true st.h r=some (l9 n,dk n))) (cp 0 [aj.val false n]) (bg []):=by
 unfold Tryz.f189;simp only [bz];have bD:=hn.lt;simp only [↓wR,zV,simprocAttr,sh,hn.fit];rw [cw];refine ⟨fun h=>?_,fun h=>?_⟩
 ·have he:dk n≠0:=by simpa using h
  have hb:l9 n=[]:=if_pos he;simp only [↓wR,zV,simprocAttr,hb]
 have he:dk n=0:=by simpa using h
 have hb:l9 n=nameBytes n:=if_neg zO;rw [hb,he];simp only [↓wR,zV,simprocAttr];refine fg [13,14,15,5] (fun (x:Nat × List UInt8)=>[.vl false 1 (n.map (ai.val false)),.sc (.int .i64 n.length),.sc (.int .i64 x.1),.sl 0 0 x.2.length 1]) (fun x=>[some (.row (x.2.map (ca.val false)) 0 0 5)]) (fun x=>x.2++(n.drop x.1).flatMap je=n.flatMap je/\x.1<=n.length) (fun x=>n.length - x.1) (0,[]) ⟨rfl,zzb _⟩ (by simp only [↓wR,zV,simprocAttr];(refine ir.lax [] (by first|exact zB rfl|(simp [dm];omega)) ?_ ?_<;>repeat' first|exact dx.nil|exact bw.nil|exact eh.same _|exact eh.nil _ _ _|exact eh.k8 _ _|exact bw.refl _ _|apply dx.cons|apply bw.ghost|apply bw.same|apply bw.row)) ?_;rintro ⟨i,x⟩ ⟨hR,hx⟩;simp only at hR hx;have kA:=xw n;have hsm:=mw he;simp only [↓wR,zV,simprocAttr];rw [cw];refine ⟨fun h2=>?_,fun h2=>?_⟩
 ·obtain ⟨c,hc,hd,hlt⟩:=du h2;rw [hd,List.flatMap_cons] at hR;have hl:x.length+(je c).length<=(n.flatMap je).length:=by rw [<- hR];simp
  rw [D1] at hl
  repeat (first|simp only [↓wR,zV,simprocAttr,hc]|simp (disch:=omega) only [zW])
  refine ⟨(i+1,x++je c),⟨by rw [<- hR];simp,hlt⟩,by simp;omega,?_,by simp only [je,zzw,List.map_cons,zzc,List.singleton_append,Ge]⟩;simp only [List.cons.injEq,and_true,true_and,AV.sc.injEq,Value.int.injEq,AV.sl.injEq,je,za,List.length_cons];refine ⟨by (try simp (disch:=omega) only [zW]);simp,by simp;omega⟩
 ·rw [eu h2] at hR;have hl:x.length<cd n:=by rw [<- kA,<- hR];simp
  repeat (first|simp only [↓wR,zV,simprocAttr,h2]|simp (disch:=omega) only [zW])
  simp only [nameBytes,<- hR];simp
noncomputable def yd (x:Name × Unit):Option AV:=if aw x.1 then some ((r2 (cg ca) (bb .i64)).E true ((l9 x.1,dk x.1))) else none
theorem Zy (x:Name × Unit) (r:AV) (h:yd x=some r):bj PP 189 ((aC aj a0).E x) r:=by obtain ⟨hc,rfl⟩:=zI h;exact az (ar.cons (aq sx) (ar.nil PP)) Tryz.func189 zK zK zK zL (r2 (cg ca) (bb .i64)) true ((l9 x.1,dk x.1)) (ai4 x.1 hc)
noncomputable abbrev auf:Nat × Bool × (List AV->M AV):=(189,true,cx (aC aj a0) yd)
end Go.Proofs.YtjagjbceegbaiaaGreat
end
section
namespace Go.Proofs.YtjagjbceegbaiaaGreat
open Go.Vm
theorem Ni {α:Type} {f : α->AV} {xs:List α} (h:xs≠[]) (op l sz p q):Sq op (.vl l sz (xs.map f)) (.sc (.slice none p q))=sn op false:=by
 cases xs with
 |nil=>exact (h rfl).elim
 |cons x xs=>rfl
def P3 (v:Value):Prop:=v = .slice none 0 0\/∃ a c,v = .slice (some a) 0 c
theorem E6 {f:Nat} {r:AV} {sz:Nat} (h:∀ v,P3 v->bj PP f [.sc v] r):bj PP f [.vl false sz []] r:=by
 intro K w vs hK hrel;obtain ⟨v,rfl,hv⟩:=Wo hrel;have hE:P3 v:=by
  cases hv with
  |vl=>exact .inr ⟨_,_,rfl⟩
  |lx=>exact .inl rfl
  |vo=>exact .inr ⟨_,_,rfl⟩
 exact h v hE K w [v] hK (cb.cons (.sc v) (cb.nil _ _))
theorem an8 (l:List UInt32) (hne:l≠[]) (hl:l.length<=16777216):wl PP [] 0 (Tryz.f160.body.getD .skip) (c9 PP Tryz.f160.results.toList (fun r st=>(r1 (cg cz)).get true st.h r=some l)) (cp 0 [(cg cz).val false l]) (bg []):=by unfold Tryz.f160;rw [l5];have hb:l.length * 4<=140737488355328:=zO;simp only [↓wR,zV,simprocAttr,Ni hne,hb]
theorem al5 (v:Value) (hv:P3 v):wl PP [] 0 (Tryz.f160.body.getD .skip) (c9 PP Tryz.f160.results.toList (fun r st=>(r1 (cg cz)).get true st.h r=some [])) (cp 0 [.sc v]) (bg []):=by
 unfold Tryz.f160;rcases hv with rfl|⟨a,c,rfl⟩
 ·simp only [↓wR,zV,simprocAttr]
 ·simp only [↓wR,zV,simprocAttr]
noncomputable def B6 (x:List UInt32 × Unit):Option AV:=if x.1.length<=16777216 then some ((r1 (cg cz)).E true x.1) else none
theorem Og (x:List UInt32 × Unit) (r:AV) (h:B6 x=some r):bj PP 160 ((aC (cg cz) a0).E x) r:=by
 by_cases hc:x.1.length<=16777216
 case neg=>simp only [B6,if_neg hc] at h;cases h
 simp only [B6,if_pos hc] at h;cases h;obtain ⟨l,⟨⟩⟩:=x;by_cases hn:l=[]
 ·subst hn;exact E6 (sz:=1) fun v hv=>az (ar.nil PP) Tryz.func160 zK zK zK zL (r1 (cg cz)) true [] (al5 v hv)
 ·exact az (ar.nil PP) Tryz.func160 zK zK zK zL (r1 (cg cz)) true l (an8 l hn hc)
noncomputable abbrev akk:Nat × Bool × (List AV->M AV):=(160,true,cx (aC (cg cz) a0) B6)
theorem anp (l:List ByteArray) (hne:l≠[]) (hl:l.length<=16777216):wl PP [] 0 (Tryz.f161.body.getD .skip) (c9 PP Tryz.f161.results.toList (fun r st=>(r1 (cg ai)).get true st.h r=some l)) (cp 0 [(cg ai).val false l]) (bg []):=by unfold Tryz.f161;rw [l5];have hb:l.length * 16<=140737488355328:=zO;simp only [↓wR,zV,simprocAttr,Ni hne,hb]
theorem akj (v:Value) (hv:P3 v):wl PP [] 0 (Tryz.f161.body.getD .skip) (c9 PP Tryz.f161.results.toList (fun r st=>(r1 (cg ai)).get true st.h r=some [])) (cp 0 [.sc v]) (bg []):=by
 unfold Tryz.f161;rcases hv with rfl|⟨a,c,rfl⟩
 ·simp only [↓wR,zV,simprocAttr]
 ·simp only [↓wR,zV,simprocAttr]
noncomputable def B9 (x:List ByteArray × Unit):Option AV:=if x.1.length<=16777216 then some ((r1 (cg ai)).E true x.1) else none
theorem Ov (x:List ByteArray × Unit) (r:AV) (h:B9 x=some r):bj PP 161 ((aC (cg ai) a0).E x) r:=by
 by_cases hc:x.1.length<=16777216
 case neg=>simp only [B9,if_neg hc] at h;cases h
 simp only [B9,if_pos hc] at h;cases h;obtain ⟨l,⟨⟩⟩:=x;by_cases hn:l=[]
 ·subst hn;exact E6 (sz:=1) fun v hv=>az (ar.nil PP) Tryz.func161 zK zK zK zL (r1 (cg ai)) true [] (akj v hv)
 ·exact az (ar.nil PP) Tryz.func161 zK zK zK zL (r1 (cg ai)) true l (anp l hn hc)
noncomputable abbrev ais:Nat × Bool × (List AV->M AV):=(161,true,cx (aC (cg ai) a0) B9)
theorem asn (l:List UInt8) (hne:l≠[]) (hl:l.length<=16777216):wl PP [] 0 (Tryz.f162.body.getD .skip) (c9 PP Tryz.f162.results.toList (fun r st=>(r1 (cg ca)).get true st.h r=some l)) (cp 0 [(cg ca).val false l]) (bg []):=by unfold Tryz.f162;rw [l5];have hb:l.length<=140737488355328:=zO;simp only [↓wR,zV,simprocAttr,Ni hne,hb]
theorem ant (v:Value) (hv:P3 v):wl PP [] 0 (Tryz.f162.body.getD .skip) (c9 PP Tryz.f162.results.toList (fun r st=>(r1 (cg ca)).get true st.h r=some [])) (cp 0 [.sc v]) (bg []):=by
 unfold Tryz.f162;rcases hv with rfl|⟨a,c,rfl⟩
 ·simp only [↓wR,zV,simprocAttr]
 ·simp only [↓wR,zV,simprocAttr]
noncomputable def Ei (x:List UInt8 × Unit):Option AV:=if x.1.length<=16777216 then some ((r1 (cg ca)).E true x.1) else none
theorem Qq (x:List UInt8 × Unit) (r:AV) (h:Ei x=some r):bj PP 162 ((aC (cg ca) a0).E x) r:=by
 by_cases hc:x.1.length<=16777216
 case neg=>simp only [Ei,if_neg hc] at h;cases h
 simp only [Ei,if_pos hc] at h;cases h;obtain ⟨l,⟨⟩⟩:=x;by_cases hn:l=[]
 ·subst hn;exact E6 (sz:=1) fun v hv=>az (ar.nil PP) Tryz.func162 zK zK zK zL (r1 (cg ca)) true [] (ant v hv)
 ·exact az (ar.nil PP) Tryz.func162 zK zK zK zL (r1 (cg ca)) true l (asn l hn hc)
noncomputable abbrev ao7:Nat × Bool × (List AV->M AV):=(162,true,cx (aC (cg ca) a0) Ei)
structure Shape where
 names:Int
 nums:Int
 size:Int
 texts:Int
 raw:Int
noncomputable def wv:dp Shape:=x7 (jq (bb .i64) (jq (bb .i64) (jq (bb .i64) (jq (bb .i64) (bb .i64))))) (fun s=>(s.names,s.nums,s.size,s.texts,s.raw)) (fun p=>⟨p.1,p.2.1,p.2.2.1,p.2.2.2.1,p.2.2.2.2⟩) (fun _=>rfl) (fun _=>rfl)
theorem Hx (l:Bool) (s:Shape):wv.val l s = .agg [.sc (.int .i64 s.names),.sc (.int .i64 s.nums),.sc (.int .i64 s.size),.sc (.int .i64 s.texts),.sc (.int .i64 s.raw)]:=id rfl
theorem mn (fr h) (a b c d e:Int):wv.gv fr h (.agg [.sc (.int .i64 a),.sc (.int .i64 b),.sc (.int .i64 c),.sc (.int .i64 d),.sc (.int .i64 e)])=some ⟨a,b,c,d,e⟩:=aGq wv fr h ⟨a,b,c,d,e⟩
def c8 (t:UInt16):Shape:=
 if (t.toNat:Int)=1 then ⟨0,0,0,0,4⟩ else if (t.toNat:Int)=28 then ⟨0,0,0,0,16⟩ else if (t.toNat:Int)=2 then ⟨1,0,0,0,0⟩ else if (t.toNat:Int)=5 then ⟨1,0,0,0,0⟩ else if (t.toNat:Int)=12 then ⟨1,0,0,0,0⟩
 else if (t.toNat:Int)=6 then ⟨2,5,4,0,0⟩ else if (t.toNat:Int)=15 then ⟨1,1,2,0,0⟩ else if (t.toNat:Int)=33 then ⟨1,3,2,0,0⟩ else if (t.toNat:Int)=16 then ⟨0,0,0,-1,0⟩ else if (t.toNat:Int)=257 then ⟨0,1,1,2,0⟩ else ⟨0,0,0,0,-1⟩
theorem ay6 (t:UInt16):wl PP [] 0 (Tryz.f150.body.getD .skip) (c9 PP Tryz.f150.results.toList (fun r st=>(r1 wv).get true st.h r=some (c8 t))) (cp 0 [cj.val false t]) (bg []):=by
 unfold Tryz.f150;unfold c8;simp only [↓wR,zV,simprocAttr];rw [cf];refine ⟨fun ⟨h0,e0⟩=>?_,fun ⟨h0,e0⟩=>?_⟩
 ·simp only [↓wR,zV,simprocAttr,h0];rw [if_pos e0];exact mn ..
 rw [if_neg e0];simp only [↓wR,zV,simprocAttr,h0];rw [cf];refine ⟨fun ⟨h1,e1⟩=>?_,fun ⟨h1,e1⟩=>?_⟩
 ·simp only [↓wR,zV,simprocAttr,h1];rw [if_pos e1];exact mn ..
 rw [if_neg e1];simp only [↓wR,zV,simprocAttr,h1];rw [cf];refine ⟨fun ⟨h2,e2⟩=>?_,fun ⟨h2,e2⟩=>?_⟩
 ·simp only [↓wR,zV,simprocAttr,h2];rw [if_pos e2];exact mn ..
 rw [if_neg e2];simp only [↓wR,zV,simprocAttr,h2];rw [cf];refine ⟨fun ⟨h3,e3⟩=>?_,fun ⟨h3,e3⟩=>?_⟩
 ·simp only [↓wR,zV,simprocAttr,h3];rw [if_pos e3];exact mn ..
 rw [if_neg e3];simp only [↓wR,zV,simprocAttr,h3];rw [cf];refine ⟨fun ⟨h4,e4⟩=>?_,fun ⟨h4,e4⟩=>?_⟩
 ·simp only [↓wR,zV,simprocAttr,h4];rw [if_pos e4];exact mn ..
 rw [if_neg e4];simp only [↓wR,zV,simprocAttr,h4];rw [cf];refine ⟨fun ⟨h5,e5⟩=>?_,fun ⟨h5,e5⟩=>?_⟩
 ·simp only [↓wR,zV,simprocAttr,h5];rw [if_pos e5];exact mn ..
 rw [if_neg e5];simp only [↓wR,zV,simprocAttr,h5];rw [cf];refine ⟨fun ⟨h6,e6⟩=>?_,fun ⟨h6,e6⟩=>?_⟩
 ·simp only [↓wR,zV,simprocAttr,h6];rw [if_pos e6];exact mn ..
 rw [if_neg e6];simp only [↓wR,zV,simprocAttr,h6];rw [cf];refine ⟨fun ⟨h7,e7⟩=>?_,fun ⟨h7,e7⟩=>?_⟩
 ·simp only [↓wR,zV,simprocAttr,h7];rw [if_pos e7];exact mn ..
 rw [if_neg e7];simp only [↓wR,zV,simprocAttr,h7];rw [cf];refine ⟨fun ⟨h8,e8⟩=>?_,fun ⟨h8,e8⟩=>?_⟩
 ·simp only [↓wR,zV,simprocAttr,h8];rw [if_pos e8];exact mn ..
 rw [if_neg e8];simp only [↓wR,zV,simprocAttr,h8];rw [cf];refine ⟨fun ⟨h9,e9⟩=>?_,fun ⟨h9,e9⟩=>?_⟩
 ·simp only [↓wR,zV,simprocAttr,h9];rw [if_pos e9];exact mn ..
 rw [if_neg e9];simp only [↓wR,zV,simprocAttr,h9];exact mn ..
noncomputable def I6 (x:UInt16 × Unit):Option AV:=some ((r1 wv).E true (c8 x.1))
theorem I1 (x:UInt16 × Unit) (r:AV) (h:I6 x=some r):bj PP 150 ((aC cj a0).E x) r:=by cases h;exact az (ar.nil PP) Tryz.func150 zK zK zK zL (r1 wv) true (c8 x.1) (ay6 x.1)
noncomputable abbrev aat:Nat × Bool × (List AV->M AV):=(150,true,cx (aC cj a0) I6)
def om (t:UInt16):Bool:=(t.toNat:Int) == 0 || (decide ((128:Int)<=(t.toNat:Int)) && decide ((t.toNat:Int)<=255))
theorem awg (t:UInt16):wl PP [] 0 (Tryz.f149.body.getD .skip) (c9 PP Tryz.f149.results.toList (fun r st=>(r1 bk).get true st.h r=some (om t))) (cp 0 [cj.val false t]) (bg []):=by
 unfold Tryz.f149;unfold om;simp only [↓wR,zV,simprocAttr];rw [cf];refine ⟨fun ⟨h,e⟩=>?_,fun ⟨h,e⟩=>?_⟩
 ·simp only [↓wR,zV,simprocAttr,h]
 ·simp only [↓wR,zV,simprocAttr,h];rw [bh];refine ⟨fun h2=>?_,fun h2=>?_⟩
  ·simp only [↓wR,zV,simprocAttr,h2]
  ·simp only [↓wR,zV,simprocAttr,h2];rfl
noncomputable def aa8 (x:UInt16 × Unit):Option AV:=some ((r1 bk).E true (om x.1))
theorem am0 (x:UInt16 × Unit) (r:AV) (h:aa8 x=some r):bj PP 149 ((aC cj a0).E x) r:=by cases h;exact az (ar.nil PP) Tryz.func149 zK zK zK zL (r1 bk) true (om x.1) (awg x.1)
noncomputable abbrev aH5:Nat × Bool × (List AV->M AV):=(149,true,cx (aC cj a0) aa8)
noncomputable def C9 (n:UInt32):List UInt8:=[UInt8.ofNat (n.toNat / 16777216),UInt8.ofNat (n.toNat / 65536),UInt8.ofNat (n.toNat / 256),UInt8.ofNat n.toNat]
theorem aCi (n:UInt32):wl PP [] 0 (Tryz.f188.body.getD .skip) (c9 PP Tryz.f188.results.toList (fun r st=>(r1 (cg ca)).get true st.h r=some (C9 n))) (cp 0 [cz.val false n]) (bg []):=by unfold Tryz.f188;simp only [↓wR,zV,simprocAttr];rfl
noncomputable def S2 (x:UInt32 × Unit):Option AV:=some ((r1 (cg ca)).E true (C9 x.1))
theorem am6 (x:UInt32 × Unit) (r:AV) (h:S2 x=some r):bj PP 188 ((aC cz a0).E x) r:=by cases h;exact az (ar.nil PP) Tryz.func188 zK zK zK zL (r1 (cg ca)) true (C9 x.1) (aCi x.1)
noncomputable abbrev aIe:Nat × Bool × (List AV->M AV):=(188,true,cx (aC cz a0) S2)
def Fa (c:UInt8):Bool:=decide (97<=c.toNat/\c.toNat<=122\/65<=c.toNat/\c.toNat<=90\/48<=c.toNat/\c.toNat<=57)
def wg (s:ByteArray):Bool:=s.data.toList.all Fa && decide (1<=s.size/\s.size<=15)
theorem aGg (s:ByteArray) (hs:s.size<=16777216):wl PP [] 0 (Tryz.f185.body.getD .skip) (c9 PP Tryz.f185.results.toList (fun r st=>(r1 bk).get true st.h r=some (wg s))) (cp 0 [ai.val false s]) (bg []):=by
 unfold Tryz.f185;simp only [↓wR,zV,simprocAttr];refine dq [0,6,7] (fun (i:Nat)=>[.sc (.string s),.sc (.int .i64 s.size),.sc (.int .i64 i)]) (fun _=>[]) (fun i=>i<=s.size/\s.data.toList.all Fa=(s.data.toList.drop i).all Fa) (fun i=>s.size - i) 0 ⟨zzb _,rfl⟩ ?_ ?_ ?_
 ·simp only [↓wR,zV,simprocAttr]<;>rfl
 ·simp only [↓wR,zV,simprocAttr]
 rintro i ⟨hi,hR⟩;simp only [↓wR,zV,simprocAttr];rw [bh];refine ⟨fun h=>?_,fun h=>?_⟩
 ·obtain ⟨c,hc⟩:∃ c,s.data.toList[i]? = some c:=⟨_,zh (by simp;omega)⟩;have hd:=Eh hc;rw [hd,List.all_cons] at hR
  repeat (first|simp only [↓wR,zV,simprocAttr,h,hc]|simp (disch:=omega) only [zW])
  repeat' (rw [bh];refine ⟨fun h=>?_,fun h=>?_⟩<;>simp only [↓wR,zV,simprocAttr,h,hc])
  all_goals first
   |(
    have ht:Fa c=false:=by (unfold Fa;rw [decide_eq_false_iff_not];omega)
    rw [wg,hR,ht];rfl)
   |(
    have ht:Fa c=true:=by (unfold Fa;rw [decide_eq_true_eq];omega)
    refine ⟨i+1,⟨zO,by rw [hR,ht];simp⟩,zO,zF⟩)
 ·have dZ:s.data.toList.drop i=[]:=zzx (by simp;omega);rw [dZ,List.all_nil] at hR;simp only [↓wR,zV,simprocAttr,h];unfold wg;rw [hR];rw [bh];refine ⟨fun h1=>?_,fun h1=>?_⟩
  ·simp only [↓wR,zV,simprocAttr,h1]
   congr 1
   rw [zyb];simp;omega
  ·simp only [↓wR,zV,simprocAttr,h1]
   congr 1
   rw [zyb];simp;omega
noncomputable def Zm (x:ByteArray × Unit):Option AV:=if x.1.size<=16777216 then some ((r1 bk).E true (wg x.1)) else none
theorem aw7 (x:ByteArray × Unit) (r:AV) (h:Zm x=some r):bj PP 185 ((aC ai a0).E x) r:=by obtain ⟨hc,rfl⟩:=zI h;exact az (ar.nil PP) Tryz.func185 zK zK zK zL (r1 bk) true (wg x.1) (aGg x.1 hc)
noncomputable abbrev aJ1:Nat × Bool × (List AV->M AV):=(185,true,cx (aC ai a0) Zm)
def gu {α:Type} (f : α->Nat) (l:List α):Nat:=l.foldr (fun x k=>f x+k+1) 0
def Ce (d:cq):Nat:=gu cd d.names+d.nums.length+gu ByteArray.size d.texts+d.raw.length
theorem E8 {α:Type} {f : α->Nat} {l:List α} {x : α} (h:x ∈ l):f x<gu f l:=by
 induction l with
 |nil=>cases h
 |cons a l ih=>
  simp only [gu,List.foldr_cons] at ih ⊢;rcases zya.1 h with rfl|h
  ·omega
  ·have:=ih h;omega
theorem D3 {α:Type} (f : α->Nat) (l:List α):l.length<=gu f l:=by
 induction l with
 |nil=>exact zza _
 |cons a l ih=>simp only [gu,List.foldr_cons,List.length_cons] at ih ⊢;omega
def da (d:cq):Prop:=Ce d<=16777216
instance (d:cq):Decidable (da d):=inferInstanceAs (Decidable (_<=_))
theorem da.name {d:cq} (h:da d):∀ n ∈ d.names,aw n:=fun n hn=>by have h1:cd n<gu cd d.names:=E8 hn;unfold da Ce at h;unfold aw;omega
theorem da.text {d:cq} (h:da d):∀ s ∈ d.texts,s.size<=16777216:=fun s hs=>by have h1:ByteArray.size s<gu ByteArray.size d.texts:=E8 hs;unfold da Ce at h;omega
theorem da.lens {d:cq} (h:da d):d.names.length<=16777216/\d.nums.length<=16777216/\d.texts.length<=16777216/\d.raw.length<=16777216:=by have h1:=D3 cd d.names;have h2:=D3 ByteArray.size d.texts;unfold da Ce at h;omega
noncomputable def Da (s:Shape):Int:=IntKind.u32.wrap (1 * 2 ^ (if (8 * s.size).toNat<=32 then (8 * s.size).toNat else 32))
noncomputable def tr (s:Shape) (t:UInt16) (d:cq):Bool:=
 if (d.names.length:Int)≠s.names\/(d.nums.length:Int)≠s.nums\/(0<=s.raw/\(d.raw.length:Int)≠s.raw) then false
 else if s.size<4/\(d.nums.any fun n=>decide (Da s<=(n.toNat:Int)))=true then false
 else if (t.toNat:Int)=257 then decide (d.texts.length=2) && wg (d.texts.headD ⟨#[]⟩)
 else if s.texts=0 then decide (d.texts.length=0)
 else decide (0<d.texts.length) && !(d.texts.any fun x=>decide (255<x.size))
noncomputable def Yn (s:Shape) (t:UInt16) (d:cq):Bool:=
 if s.size<4/\(d.nums.any fun n=>decide (Da s<=(n.toNat:Int)))=true then false
 else if (t.toNat:Int)=257 then decide (d.texts.length=2) && wg (d.texts.headD ⟨#[]⟩)
 else if s.texts=0 then decide (d.texts.length=0)
 else decide (0<d.texts.length) && !(d.texts.any fun x=>decide (255<x.size))
theorem aEr (s:Shape) (t:UInt16) (d:cq) (hs : 0<=s.size/\s.size<=4) (hd:da d):wl PP [aJ1] 0 (Tryz.f151.body.getD .skip) (c9 PP Tryz.f151.results.toList (fun r st=>(r1 bk).get true st.h r=some (tr s t d))) (cp 0 [wv.val false s,cj.val false t,bc.val false d]) (bg []):=by
 unfold Tryz.f151;obtain ⟨l1,l2,l3,l4⟩:=hd.lens;simp only [Hx,iy,bz];simp only [↓wR,zV,simprocAttr];rw [dh];refine ⟨fun ⟨h,e⟩=>?_,fun ⟨h,e⟩=>?_⟩
 ·have hv:tr s t d=false:=if_pos (.inl e);simp only [↓wR,zV,simprocAttr,h,hv]
 simp only [↓wR,zV,simprocAttr,h];rw [dh];refine ⟨fun ⟨h2,e2⟩=>?_,fun ⟨h2,e2⟩=>?_⟩
 ·have hv:tr s t d=false:=if_pos (.inr (.inl e2));simp only [↓wR,zV,simprocAttr,h2,hv]
 simp only [↓wR,zV,simprocAttr,h2];have jW:¬ (0<=s.raw/\(d.raw.length:Int)≠s.raw)->tr s t d=Yn s t d:=fun hr=>if_neg (fun h=>by
  rcases h with h|h|h
  ·exact h e
  ·exact h e2
  ·exact hr h)
 rw [bh];refine ⟨fun h3=>?_,fun h3=>?_⟩;simp only [↓wR,zV,simprocAttr,h3];rw [dh];refine ⟨fun ⟨h4,e4⟩=>?_,fun ⟨h4,e4⟩=>?_⟩;have hv:tr s t d=false:=if_pos (.inr (.inr ⟨h3,e4⟩));simp only [↓wR,zV,simprocAttr,h4,hv];rw [jW (fun q=>q.2 e4)];simp only [↓wR,zV,simprocAttr,h4];rotate_left;rw [jW (fun q=>h3 q.1)];simp only [↓wR,zV,simprocAttr,h3]
 all_goals
  clear jW;refine dq [1,3,5,37,38,39] (fun (i:Nat)=>[.sc (.int .u16 t.toNat),.ptr 0 0,.ptr 1 0,.vl false 1 (d.nums.map (cz.val false)),.sc (.int .i64 d.nums.length),.sc (.int .i64 i)]) (fun _=>[some (.row [.sc (.int .i64 s.names),.sc (.int .i64 s.nums),.sc (.int .i64 s.size),.sc (.int .i64 s.texts),.sc (.int .i64 s.raw)] 0 2 185),some (.row [.vl false 1 (d.names.map (aj.val false)),.vl false 1 (d.nums.map (cz.val false)),.vl false 1 (d.texts.map (ai.val false)),.vl false 1 (d.raw.map (ca.val false))] 0 2 116)]) (fun i=>i<=d.nums.length/\(s.size<4->(d.nums.any fun n=>decide (Da s<=(n.toNat:Int)))=((d.nums.drop i).any fun n=>decide (Da s<=(n.toNat:Int))))) (fun i=>d.nums.length - i) 0 ⟨zzb _,fun _=>rfl⟩ (by simp only [↓wR,zV,simprocAttr]<;>rfl) (by simp only [↓wR,zV,simprocAttr]<;>rfl) ?_;clear h h2 e e2;rintro i ⟨hi,hR⟩;simp only [↓wR,zV,simprocAttr];rw [bh];refine ⟨fun h=>?_,fun h=>?_⟩
  ·obtain ⟨c,hc,aF,hlt⟩:=du (zp h);rw [aF,List.any_cons] at hR;simp only [↓wR,zV,simprocAttr,h,hc];rw [bh];refine ⟨fun h5=>?_,fun h5=>?_⟩
   ·have hR:=hR h5;have yE:(0:Int)<=8 * s.size:=zO
    repeat (first|simp only [↓wR,zV,simprocAttr,h5,yE]|simp (disch:=omega) only [zW])
    rw [bh];refine ⟨fun h6=>?_,fun h6=>?_⟩
    ·have hv:Yn s t d=false:=by
      rw [Yn,if_pos ⟨h5,by rw [hR,zp (show Da s<=(c.toNat:Int) from h6)];rfl⟩]
     simp only [↓wR,zV,simprocAttr,h6,hv]
    ·repeat (first|simp only [↓wR,zV,simprocAttr,h6]|simp (disch:=omega) only [zW])
     refine ⟨i+1,⟨hlt,fun _=>?_⟩,zO,zF⟩;rw [hR,zq (show ¬ Da s<=(c.toNat:Int) from h6),Bool.false_or]
   ·repeat (first|simp only [↓wR,zV,simprocAttr,h5]|simp (disch:=omega) only [zW])
    exact ⟨i+1,⟨hlt,fun h=>h.elim⟩,zO,zF⟩
  ·rw [eu (zq h),List.any_nil] at hR;have hr:Yn s t d=if (t.toNat:Int)=257 then decide (d.texts.length=2) && wg (d.texts.headD ⟨#[]⟩) else if s.texts=0 then decide (d.texts.length=0) else decide (0<d.texts.length) && !(d.texts.any fun x=>decide (255<x.size)):=by
    rw [Yn,if_neg];rintro ⟨q1,q2⟩;rw [hR q1] at q2;cases q2
   simp only [↓wR,zV,simprocAttr,h];rw [cf];refine ⟨fun ⟨h6,e6⟩=>?_,fun ⟨h6,e6⟩=>?_⟩
   ·rw [if_pos e6] at hr;simp only [↓wR,zV,simprocAttr,h6];rw [cf];refine ⟨fun ⟨h7,e7⟩=>?_,fun ⟨h7,e7⟩=>?_⟩
    ·obtain ⟨c,hc⟩:∃ c,d.texts[0]? = some c:=⟨_,zh zO⟩;have hh:d.texts.headD ⟨#[]⟩=c:=by
      cases ht:d.texts with
      |nil=>rw [ht] at hc;cases hc
      |cons a l=>rw [ht] at hc;simpa using hc
     rw [hh,zp (show d.texts.length=2 by omega)] at hr;simp only [↓wR,zV,simprocAttr,h7,hc,Zm,hd.text c (zm hc)];rw [hr];rfl
    ·simp only [↓wR,zV,simprocAttr,h7];rw [hr,zq (show ¬ d.texts.length=2 by omega)];rfl
   ·rw [if_neg e6] at hr;simp only [↓wR,zV,simprocAttr,h6];rw [cf];refine ⟨fun ⟨h7,e7⟩=>?_,fun ⟨h7,e7⟩=>?_⟩
    ·rw [if_pos e7] at hr;simp only [↓wR,zV,simprocAttr,h7];rw [hr];congr 1;rw [zyb];simp
    ·rw [if_neg e7] at hr;simp only [↓wR,zV,simprocAttr,h7];rw [bh];refine ⟨fun h8=>?_,fun h8=>?_⟩
     ·simp only [↓wR,zV,simprocAttr,h8];refine ct (T:=[]) (ar.nil PP) mixed Tryz.func186 rfl zK zK zK zK ?_;unfold Tryz.f186;simp only [↓wR,zV,simprocAttr];refine ct (T:=[]) (ar.nil PP) mixed Tryz.func206 rfl zK zK zK zK ?_;unfold Tryz.f206;simp only [↓wR,zV,simprocAttr];refine dq [0,1,7,8] (fun (i:Nat)=>[.vl false 1 (d.texts.map (ai.val false)),.sc (.func (.func 187) #[] #[]),.sc (.int .i64 d.texts.length),.sc (.int .i64 i)]) (fun _=>[some (.row [.sc (.int .i64 s.names),.sc (.int .i64 s.nums),.sc (.int .i64 s.size),.sc (.int .i64 s.texts),.sc (.int .i64 s.raw)] 0 2 185),some (.row [.vl false 1 (d.names.map (aj.val false)),.vl false 1 (d.nums.map (cz.val false)),.vl false 1 (d.texts.map (ai.val false)),.vl false 1 (d.raw.map (ca.val false))] 0 2 116)]) (fun i=>i<=d.texts.length/\(d.texts.any fun x=>decide (255<x.size))=((d.texts.drop i).any fun x=>decide (255<x.size))) (fun i=>d.texts.length - i) 0 ⟨zzb _,rfl⟩ (by simp only [↓wR,zV,simprocAttr]<;>rfl) (by simp only [↓wR,zV,simprocAttr]<;>rfl) ?_;rintro k ⟨hk,hK⟩;simp only [↓wR,zV,simprocAttr];rw [bh];refine ⟨fun h9=>?_,fun h9=>?_⟩
      ·obtain ⟨c,hc,aF,hlt⟩:=du (zp h9);rw [aF,List.any_cons] at hK
       repeat (first|simp only [↓wR,zV,simprocAttr,h9,hc]|simp (disch:=omega) only [zW])
       refine ct (T:=[]) (ar.nil PP) mixed Tryz.func187 rfl zK zK zK zK ?_;unfold Tryz.f187;simp only [↓wR,zV,simprocAttr];rw [bh];refine ⟨fun h10=>?_,fun h10=>?_⟩
       ·simp only [↓wR,zV,simprocAttr,h10];rw [hr,hK,zp (show 0<d.texts.length by omega),zp (show 255<c.size by omega)];rfl
       ·repeat (first|simp only [↓wR,zV,simprocAttr,h10]|simp (disch:=omega) only [zW])
        refine ⟨k+1,⟨hlt,?_⟩,zO,zF⟩;rw [hK,zq (show ¬ 255<c.size by omega),Bool.false_or]
      ·rw [eu (zq h9),List.any_nil] at hK;simp only [↓wR,zV,simprocAttr,h9];rw [hr,hK,zp (show 0<d.texts.length by omega)];rfl
     ·simp only [↓wR,zV,simprocAttr,h8];rw [hr,zq (show ¬ 0<d.texts.length by omega)];rfl
theorem Cy (t:UInt16) : 0<=(c8 t).size/\(c8 t).size<=4:=by
 unfold c8
 repeat' split
 all_goals simp
noncomputable def Qv (x:Shape × UInt16 × cq × Unit):Option AV:=if (0<=x.1.size/\x.1.size<=4)/\da x.2.2.1 then some ((r1 bk).E true (tr x.1 x.2.1 x.2.2.1)) else none
theorem aup (x:Shape × UInt16 × cq × Unit) (r:AV) (h:Qv x=some r):bj PP 151 ((aC wv (aC cj (aC bc a0))).E x) r:=by obtain ⟨hc,rfl⟩:=zI h;exact az (ar.cons (aq aw7) (ar.nil PP)) Tryz.func151 zK zK zK zL (r1 bk) true (tr x.1 x.2.1 x.2.2.1) (aEr x.1 x.2.1 x.2.2.1 hc.1 hc.2)
noncomputable abbrev aI6:Nat × Bool × (List AV->M AV):=(151,true,cx (aC wv (aC cj (aC bc a0))) Qv)
theorem aqj {α:Type} {l:List (List α)} {i:Nat} {c:List α} (h:l[i]? = some c):(l.drop i).flatten=c++(l.drop (i+1)).flatten:=by rw [Eh h];rfl
theorem aEg {α:Type} {l:List (List α)} {c:List α} (h:c ∈ l):c.length<=l.flatten.length:=by
 induction l with
 |nil=>cases h
 |cons a l ih=>
  simp only [List.flatten_cons,za];rcases zya.1 h with rfl|h
  ·omega
  ·have:=ih h;omega
theorem av6 (l:List (List UInt8)) (hl:l.length<=16777216) (hf:l.flatten.length<=134217728):wl PP [] 0 (Tryz.f190.body.getD .skip) (c9 PP Tryz.f190.results.toList (fun r st=>(r1 (cg ca)).get false st.h r=some l.flatten)) (cp 0 [(cg (cg ca)).val false l]) (bg []):=by
 unfold Tryz.f190;rw [l5];simp only [↓wR,zV,simprocAttr];refine dq [0,3,9,10,11] (fun (x:Nat × Nat)=>[.vl false 1 (l.map ((cg ca).val false)),.sc (.int .i64 x.2),.vl false 1 (l.map ((cg ca).val false)),.sc (.int .i64 l.length),.sc (.int .i64 x.1)]) (fun _=>[]) (fun x=>x.1<=l.length/\x.2+(l.drop x.1).flatten.length=l.flatten.length) (fun x=>l.length - x.1) (0,0) ⟨zzb _,by simp⟩ (by simp only [↓wR,zV,simprocAttr]<;>rfl) (by simp only [↓wR,zV,simprocAttr]<;>rfl) ?_;rintro ⟨i,k⟩ ⟨hi,hk⟩;simp only at hi hk;simp only [↓wR,zV,simprocAttr];rw [bh];refine ⟨fun h=>?_,fun h=>?_⟩
 ·obtain ⟨c,hc,aF,hlt⟩:=du (zp h);rw [aqj hc,za] at hk
  repeat (first|simp only [↓wR,zV,simprocAttr,h,hc]|simp (disch:=omega) only [zW])
  rw [bh];refine ⟨fun h1=>?_,fun h1=>?_⟩
  ·exfalso;omega
  ·repeat (first|simp only [↓wR,zV,simprocAttr,h1]|simp (disch:=omega) only [zW])
   exact ⟨(i+1,k+c.length),⟨hlt,by show k+c.length+(l.drop (i+1)).flatten.length=_;omega⟩,by simp;omega,by simp⟩
 ·rw [eu (zq h)] at hk;have hk:k=l.flatten.length:=by simpa using hk
  subst hk;simp only [↓wR,zV,simprocAttr,h];refine ct (T:=[]) (ar.nil PP) mixed Tryz.func207 rfl zK zK zK zK ?_;unfold Tryz.f207;simp only [↓wR,zV,simprocAttr];rw [bh];refine ⟨fun h1=>?_,fun h1=>?_⟩
  ·exfalso;omega
  repeat (first|simp only [↓wR,zV,simprocAttr,h1]|simp (disch:=omega) only [zW])
  rw [bh];refine ⟨fun h2=>?_,fun h2=>?_⟩
  ·have cG : 0<l.flatten.length:=zO
   repeat (first|simp only [↓wR,zV,simprocAttr,h2,cG]|simp (disch:=omega) only [zW])
   refine dq [25,26,27,6] (fun (x:Nat × Nat × Nat × List UInt8)=>[.vl false 1 (l.map ((cg ca).val false)),.sc (.int .i64 l.length),.sc (.int .i64 x.1),.sl 0 0 x.2.1 1]) (fun x=>[some (.row (x.2.2.2.map (ca.val false)) 0 x.2.2.1 5)]) (fun x=>x.1<=l.length/\(x.2.1=x.2.2.2.length\/x.2.1=0)/\x.2.2.2.take x.2.1++(l.drop x.1).flatten=l.flatten) (fun x=>l.length - x.1) (0,0,0,List.replicate l.flatten.length 0) ⟨zzb _,.inr rfl,rfl⟩ (by simp only [↓wR,zV,simprocAttr]<;>rfl) (by simp only [↓wR,zV,simprocAttr]<;>rfl) ?_;rintro ⟨k,m,s,r⟩ ⟨kE,hk0,hk3⟩;simp only at kE hk0 hk3;have hk2:m<=r.length:=zO;simp only [↓wR,zV,simprocAttr];rw [bh];refine ⟨fun h3=>?_,fun h3=>?_⟩
   ·obtain ⟨c,hc,aF,hlt⟩:=du (zp h3);rw [aqj hc] at hk3;have hm:m+c.length<=134217728:=by
     have:=congrArg List.length hk3;simp only [za,zzl] at this;omega
    repeat (first|simp only [↓wR,zV,simprocAttr,h3,hc,hk2]|simp (disch:=omega) only [zW])
    have eT:(r.take m++c).length=m+c.length:=by simp [Nat.min_eq_left hk2]
    refine ⟨(k+1,m+c.length,py (decide (m=r.length)) s,r.take m++c),⟨hlt,.inl eT.symm,?_⟩,by simp;omega,by simp,by simp⟩;show (r.take m++c).take (m+c.length)++_=_;rw [zzp (Nat.le_of_eq eT),zzc];exact hk3
   ·rw [eu (zq h3)] at hk3;have wO:m=r.length:=by
     have:=congrArg List.length hk3;simp only [za,zzl,List.flatten_nil,List.length_nil] at this;omega
    subst wO;have hr:r=l.flatten:=by simpa using hk3
    subst hr
    repeat (first|simp only [↓wR,zV,simprocAttr,h3,hk2]|simp (disch:=omega) only [zW])
  ·have hnil:l.flatten=[]:=zzf zO
   repeat (first|simp only [↓wR,zV,simprocAttr,h2]|simp (disch:=omega) only [zW])
   refine dq [25,26,27,6] (fun (x:Nat)=>[.vl false 1 (l.map ((cg ca).val false)),.sc (.int .i64 l.length),.sc (.int .i64 x),.sc (.slice none 0 0)]) (fun _=>[]) (fun x=>x<=l.length) (fun x=>l.length - x) 0 (zzb _) (by simp only [↓wR,zV,simprocAttr]<;>rfl) (by simp only [↓wR,zV,simprocAttr]<;>rfl) ?_;intro k kE;simp only [↓wR,zV,simprocAttr];rw [bh];refine ⟨fun h3=>?_,fun h3=>?_⟩
   ·obtain ⟨c,hc,aF,hlt⟩:=du (zp h3);have hc0:c=[]:=zzf (by have:=aEg (zm hc);rw [hnil] at this;simpa using this);subst hc0
    repeat (first|simp only [↓wR,zV,simprocAttr,h3,hc]|simp (disch:=omega) only [zW])
    refine ⟨k+1,hlt,?_⟩
    first|(refine ⟨by simp;omega,?_⟩;simp)|(simp;omega)
   ·repeat (first|simp only [↓wR,zV,simprocAttr,h3]|simp (disch:=omega) only [zW])
    rw [hnil]
noncomputable def D2 (x:List (List UInt8) × Unit):Option AV:=if x.1.length<=16777216/\x.1.flatten.length<=134217728 then some ((r1 (cg ca)).E false (x.1.flatten)) else none
theorem aio (x:List (List UInt8) × Unit) (r:AV) (h:D2 x=some r):bj PP 190 ((aC (cg (cg ca)) a0).E x) r:=by obtain ⟨hc,rfl⟩:=zI h;exact az (ar.nil PP) Tryz.func190 zK zK zK zL (r1 (cg ca)) false (x.1.flatten) (av6 x.1 hc.1 hc.2)
noncomputable abbrev aEh:Nat × Bool × (List AV->M AV):=(190,true,cx (aC (cg (cg ca)) a0) D2)
theorem av2 (n:Name):(l9 n).length<=cd n:=by
 unfold l9 nameBytes
 split
 ·exact zzb _
 ·have:=xw n;rw [za];simp only [List.length_cons,List.length_nil];omega
noncomputable def Di (t:UInt16) (n:UInt32):List UInt8:=(C9 n).drop (4 - (c8 t).size).toNat
def qy (t:UInt16):Nat->List ByteArray->List UInt8
 |_,[]=>[]
 |i,x::r=>(if (t.toNat:Int)=16\/i=0 then [UInt8.ofNat x.size] else [])++x.data.toList++qy t (i+1) r
noncomputable def yq (t:UInt16) (d:cq):List UInt8:=d.nums.flatMap (Di t)
def ui (d:cq):List UInt8:=d.names.flatMap l9
def tk (t:UInt16) (d:cq):List UInt8:=qy t 0 d.texts
noncomputable def oo (t:UInt16) (d:cq):List UInt8:=if (t.toNat:Int)=6 then ui d++yq t d else yq t d++(ui d++(tk t d++d.raw))
theorem Ki (n):(C9 n).length=4:=rfl
theorem aoa {α:Type} (f : α->List UInt8) (μ : α->Nat) (h:∀ x,(f x).length <= μ x) (l:List α):(l.flatMap f).length<=gu μ l:=by
 induction l with
 |nil=>simp
 |cons a l ih=>have:=h a;simp only [List.flatMap_cons,za,gu,List.foldr_cons] at ih ⊢;omega
theorem atv (t:UInt16) (l:List ByteArray):∀ i,(qy t i l).length<=gu ByteArray.size l:=by
 induction l with
 |nil=>intro i;simp [qy]
 |cons a l ih=>
  intro i;have:=ih (i+1);have ha:a.data.size=a.size:=rfl;simp only [qy,za,gu,List.foldr_cons,zz9] at this ⊢
  split<;>simp<;>omega
theorem av3 (t d):(yq t d).length<=4 * d.nums.length:=by
 unfold yq
 induction d.nums with
 |nil=>simp
 |cons a l ih=>
  have:(Di t a).length<=4:=by unfold Di;rw [zzt,Ki];omega
  simp only [List.flatMap_cons,za,List.length_cons];omega
theorem da.written {d:cq} (h:da d) (t):(yq t d).length<=67108864/\(ui d).length<=16777216/\(tk t d).length<=16777216:=by have h1:=av3 t d;have h2:(ui d).length<=gu cd d.names:=aoa l9 cd av2 d.names;have h3:(tk t d).length<=gu ByteArray.size d.texts:=atv t d.texts 0;unfold da Ce at h;omega
theorem Cn {α:Type} {l:List α} {i:Nat} {c : α} (f : α->List UInt8) (h:l.drop i=c::l.drop (i+1)):(l.drop i).flatMap f=f c++(l.drop (i+1)).flatMap f:=by rw [h];rfl
theorem Zg (c):(C9 c).take 4=C9 c:=rfl
theorem S3 (t) (c):(C9 c).drop (4 - (c8 t).size).toNat=Di t c:=rfl
theorem adt (t:UInt16) {l:List ByteArray} {i:Nat} {c:ByteArray} (h:l.drop i=c::l.drop (i+1)):qy t i (l.drop i)=(if (t.toNat:Int)=16\/i=0 then [UInt8.ofNat c.size] else [])++c.data.toList++qy t (i+1) (l.drop (i+1)):=by rw [h];rfl
theorem aAq (t:UInt16) (d:cq) (hd:da d):wl PP [aat,aIe,auf,aEh] 0 (Tryz.f152.body.getD .skip) (c9 PP Tryz.f152.results.toList (fun r st=>(r1 (cg ca)).get false st.h r=some (oo t d))) (cp 0 [cj.val false t,bc.val false d]) (bg []):=by
 have hl:=hd.lens;have hk:=hd.written t;have hs:=Cy t;unfold Tryz.f152;simp only [iy,bz];simp only [↓wR,zV,simprocAttr,I6,Hx];refine fg [0,3,6,7,8,21,22,23,5] (fun (x:Nat × List UInt8)=>[.sc (.int .u16 t.toNat),.ptr 0 0,.sc (.slice none 0 0),.sc (.slice none 0 0),.ptr 1 0,.vl false 1 (d.nums.map (cz.val false)),.sc (.int .i64 (d.nums.length)),.sc (.int .i64 (x.1)),.sl 2 0 x.2.length 1]) (fun x=>[some (.row [.vl false 1 (d.names.map (aj.val false)),.vl false 1 (d.nums.map (cz.val false)),.vl false 1 (d.texts.map (ai.val false)),.vl false 1 (d.raw.map (ca.val false))] 0 2 116),some (.row [.sc (.int .i64 (c8 t).names),.sc (.int .i64 (c8 t).nums),.sc (.int .i64 (c8 t).size),.sc (.int .i64 (c8 t).texts),.sc (.int .i64 (c8 t).raw)] 0 2 185),some (.row (x.2.map (ca.val false)) 0 0 5)]) (fun x=>x.1<=d.nums.length/\x.2++(d.nums.drop x.1).flatMap (Di t)=yq t d) (fun x=>d.nums.length - x.1) (0,[]) ⟨zzb _,rfl⟩ (by simp only [↓wR,zV,simprocAttr];(refine ir.lax [] (by first|exact zB rfl|(simp [dm];omega)) ?_ ?_<;>repeat' first|exact dx.nil|exact bw.nil|exact eh.same _|exact eh.nil _ _ _|exact eh.k8 _ _|exact bw.refl _ _|apply dx.cons|apply bw.ghost|apply bw.same|apply bw.row)) ?_;rintro ⟨i,x⟩ ⟨hi,hx⟩;simp only at hi hx;simp only [↓wR,zV,simprocAttr];rw [bh];refine ⟨fun h=>?_,fun h=>?_⟩
 ·obtain ⟨c,hc,aF,hlt⟩:=du (zp h);rw [Cn _ aF] at hx;have bY:x.length+(Di t c).length<=(yq t d).length:=by rw [<- hx];simp
  repeat (first|simp only [↓wR,zV,simprocAttr,h,hc,S2,Ki,Zg,S3]|simp (disch:=omega) only [zW])
  exact ⟨(i+1,x++Di t c),⟨hlt,by rw [zzc];exact hx⟩,by simp;omega,zF,zF⟩
 rw [eu (zq h)] at hx;obtain rfl:x=yq t d:=by simpa using hx
 clear hx;simp only [↓wR,zV,simprocAttr,h];obtain ⟨nu,tV⟩:∃ nu,yq t d=nu:=⟨_,rfl⟩;rw [tV] at hk ⊢;refine fg [0,3,7,38,39,40,5,6] (fun (x:Nat × List UInt8)=>[.sc (.int .u16 t.toNat),.ptr 0 0,.sc (.slice none 0 0),.vl false 1 (d.names.map (aj.val false)),.sc (.int .i64 (d.names.length)),.sc (.int .i64 (x.1)),.sl 1 0 nu.length 1,.sl 2 0 x.2.length 1]) (fun x=>[some (.row [.vl false 1 (d.names.map (aj.val false)),.vl false 1 (d.nums.map (cz.val false)),.vl false 1 (d.texts.map (ai.val false)),.vl false 1 (d.raw.map (ca.val false))] 0 2 116),some (.row (nu.map (ca.val false)) 0 0 5),some (.row (x.2.map (ca.val false)) 0 0 5)]) (fun x=>x.1<=d.names.length/\x.2++(d.names.drop x.1).flatMap l9=ui d) (fun x=>d.names.length - x.1) (0,[]) ⟨zzb _,rfl⟩ (by simp only [↓wR,zV,simprocAttr];(refine ir.lax [] (by first|exact zB rfl|(simp [dm];omega)) ?_ ?_<;>repeat' first|exact dx.nil|exact bw.nil|exact eh.same _|exact eh.nil _ _ _|exact eh.k8 _ _|exact bw.refl _ _|apply dx.cons|apply bw.ghost|apply bw.same|apply bw.row)) ?_;clear h;rintro ⟨i,x⟩ ⟨hi,hx⟩;simp only at hi hx;simp only [↓wR,zV,simprocAttr];rw [bh];refine ⟨fun h=>?_,fun h=>?_⟩
 ·obtain ⟨c,hc,aF,hlt⟩:=du (zp h);rw [Cn _ aF] at hx;have bY:x.length+(l9 c).length<=(ui d).length:=by rw [<- hx];simp
  repeat (first|simp only [↓wR,zV,simprocAttr,h,hc,yd,hd.name c (zm hc)]|simp (disch:=omega) only [zW])
  exact ⟨(i+1,x++l9 c),⟨hlt,by rw [zzc];exact hx⟩,by simp;omega,zF,zF⟩
 rw [eu (zq h)] at hx;obtain rfl:x=ui d:=by simpa using hx
 clear hx;simp only [↓wR,zV,simprocAttr,h];obtain ⟨na,oY⟩:∃ na,ui d=na:=⟨_,rfl⟩;rw [oY] at hk ⊢;refine fg [0,3,54,55,56,5,6,7] (fun (x:Nat × List UInt8)=>[.sc (.int .u16 t.toNat),.ptr 0 0,.vl false 1 (d.texts.map (ai.val false)),.sc (.int .i64 (d.texts.length)),.sc (.int .i64 (x.1)),.sl 1 0 nu.length 1,.sl 2 0 na.length 1,.sl 3 0 x.2.length 1]) (fun x=>[some (.row [.vl false 1 (d.names.map (aj.val false)),.vl false 1 (d.nums.map (cz.val false)),.vl false 1 (d.texts.map (ai.val false)),.vl false 1 (d.raw.map (ca.val false))] 0 2 116),some (.row (nu.map (ca.val false)) 0 0 5),some (.row (na.map (ca.val false)) 0 0 5),some (.row (x.2.map (ca.val false)) 0 0 5)]) (fun x=>x.1<=d.texts.length/\x.2++qy t x.1 (d.texts.drop x.1)=tk t d) (fun x=>d.texts.length - x.1) (0,[]) ⟨zzb _,rfl⟩ (by simp only [↓wR,zV,simprocAttr];(refine ir.lax [] (by first|exact zB rfl|(simp [dm];omega)) ?_ ?_<;>repeat' first|exact dx.nil|exact bw.nil|exact eh.same _|exact eh.nil _ _ _|exact eh.k8 _ _|exact bw.refl _ _|apply dx.cons|apply bw.ghost|apply bw.same|apply bw.row)) ?_;clear h;rintro ⟨i,x⟩ ⟨hi,hx⟩;simp only at hi hx;simp only [↓wR,zV,simprocAttr];rw [bh];refine ⟨fun h=>?_,fun h=>?_⟩
 ·obtain ⟨c,hc,aF,hlt⟩:=du (zp h);rw [adt _ aF] at hx;have bY:x.length+((if (t.toNat:Int)=16\/i=0 then [UInt8.ofNat c.size] else []).length+c.size)<=(tk t d).length:=by rw [<- hx];simp
  have hcs:c.data.toList.length=c.size:=by simp
  repeat (first|simp only [↓wR,zV,simprocAttr,h,hc]|simp (disch:=omega) only [zW])
  have fin:∀ b:List UInt8,x++(b++c.data.toList++qy t (i+1) (d.texts.drop (i+1)))=tk t d->x++b++c.data.toList++qy t (i+1) (d.texts.drop (i+1))=tk t d:=fun b hb=>by rw [<- hb];simp
  rw [cf];refine ⟨fun ⟨kQ,oF⟩=>?_,fun ⟨kQ,oF⟩=>?_⟩
  ·rw [if_pos (.inl oF)] at hx bY;simp only [List.length_cons,List.length_nil] at bY
   repeat (first|simp only [↓wR,zV,simprocAttr,kQ]|simp (disch:=omega) only [zW])
   exact ⟨(i+1,x++[UInt8.ofNat c.size]++c.data.toList),⟨hlt,fin _ hx⟩,by simp;omega,zF,zF⟩
  ·repeat (first|simp only [↓wR,zV,simprocAttr,kQ]|simp (disch:=omega) only [zW])
   rw [cf];refine ⟨fun ⟨h0,e0⟩=>?_,fun ⟨h0,e0⟩=>?_⟩
   ·rw [if_pos (.inr zO)] at hx bY;simp only [List.length_cons,List.length_nil] at bY
    repeat (first|simp only [↓wR,zV,simprocAttr,h0]|simp (disch:=omega) only [zW])
    exact ⟨(i+1,x++[UInt8.ofNat c.size]++c.data.toList),⟨hlt,fin _ hx⟩,by simp;omega,zF,zF⟩
   ·rw [if_neg zO] at hx bY;simp only [List.length_nil] at bY
    repeat (first|simp only [↓wR,zV,simprocAttr,h0]|simp (disch:=omega) only [zW])
    exact ⟨(i+1,x++c.data.toList),⟨hlt,by have:=fin _ hx;simpa using this⟩,by simp;omega,zF,zF⟩
 rw [eu (zq h)] at hx;obtain rfl:x=tk t d:=by simpa [qy] using hx
 clear hx
 repeat (first|simp only [↓wR,zV,simprocAttr,h]|simp (disch:=omega) only [zW])
 unfold oo;rw [tV,oY];rw [cf];refine ⟨fun ⟨h6,e6⟩=>?_,fun ⟨h6,e6⟩=>?_⟩
 ·rw [if_pos e6]
  repeat (first|simp only [↓wR,zV,simprocAttr,h6]|simp (disch:=omega) only [zW])
 ·rw [if_neg e6];have sA:nu.length+(na.length+((tk t d).length+d.raw.length))<=134217728:=zO
  repeat (first|simp only [↓wR,zV,simprocAttr,h6,D2,sA]|simp (disch:=omega) only [zW])
  rw [<- zzw,<- zzw,<- zzw];exact vv ca false _ false _ _ rfl rfl
noncomputable def yf (x:UInt16 × cq × Unit):Option AV:=if da x.2.1 then some ((r1 (cg ca)).E false (oo x.1 x.2.1)) else none
theorem Jl (x:UInt16 × cq × Unit) (r:AV) (h:yf x=some r):bj PP 152 ((aC cj (aC bc a0)).E x) r:=by obtain ⟨hc,rfl⟩:=zI h;exact az (ar.cons (aq I1) (ar.cons (aq am6) (ar.cons (aq Zy) (ar.cons (aq aio) (ar.nil PP))))) Tryz.func152 zK zK zK zL (r1 (cg ca)) false (oo x.1 x.2.1) (aAq x.1 x.2.1 hc)
noncomputable abbrev Xx:Nat × Bool × (List AV->M AV):=(152,true,cx (aC cj (aC bc a0)) yf)
theorem amw (d:cq) (hd:da d):wl PP [akk,ais,ao7,ve] 0 (Tryz.f120.body.getD .skip) (c9 PP Tryz.f120.results.toList (fun r st=>(r1 bc).get true st.h r=some d)) (cp 0 [bc.val false d]) (bg []):=by
 have hl:=hd.lens;have l2:=hl.2.1;have l3:=hl.2.2.1;have l4:=hl.2.2.2;unfold Tryz.f120;simp only [iy,bz];simp only [↓wR,zV,simprocAttr];refine ⟨zK,.inl ?_⟩;simp only [↓wR,zV,simprocAttr,B6,B9,Ei,l2,l3,l4];refine ⟨zK,?_⟩;refine fg [2,17,18,19,3] (fun (x:List Name)=>[.ptr 0 0,.vl false 1 (d.names.map (aj.val false)),.sc (.int .i64 (d.names.length)),.sc (.int .i64 (x.length)),.ptr 1 0]) (fun x=>[some (.row [.sc (.slice none 0 0),.sc (.slice none 0 0),.sc (.slice none 0 0),.sc (.slice none 0 0)] 0 2 116),some (.row [.sl 2 0 x.length 1,.vl true 1 (d.nums.map (cz.val false)),.vl true 1 (d.texts.map (ai.val false)),.vl true 1 (d.raw.map (ca.val false))] 0 2 116),some (.row (x.map (aj.val true)) 0 0 23)]) (fun x=>x.length<=d.names.length/\x++d.names.drop x.length=d.names) (fun x=>d.names.length - x.length) [] ⟨zzb _,rfl⟩ (by simp only [↓wR,zV,simprocAttr];(refine ir.lax [] (by first|exact zB rfl|(simp [dm];omega)) ?_ ?_<;>repeat' first|exact dx.nil|exact bw.nil|exact eh.same _|exact eh.nil _ _ _|exact eh.k8 _ _|exact bw.refl _ _|apply dx.cons|apply bw.ghost|apply bw.same|apply bw.row)) ?_;rintro x ⟨hi,hx⟩;simp only [↓wR,zV,simprocAttr];rw [bh];refine ⟨fun h=>?_,fun h=>?_⟩
 ·obtain ⟨c,hc,aF,hlt⟩:=du (zp h);rw [aF] at hx;have aD:(x.length+1) * 24<=140737488355328:=zO;simp only [↓wR,zV,simprocAttr,h,hc];refine ⟨zK,.inl ?_⟩;simp only [↓wR,zV,simprocAttr,oe,hd.name c (zm hc),aD];refine ⟨zK,?_⟩;exact ⟨x++[c],⟨by simp;omega,by simpa using hx⟩,by simp;omega,zF,zF⟩
 ·rw [eu (zq h)] at hx;rw [zzn] at hx;subst hx;simp only [↓wR,zV,simprocAttr,h]
noncomputable def Fy (x:cq × Unit):Option AV:=if da x.1 then some ((r1 bc).E true (x.1)) else none
theorem afr (x:cq × Unit) (r:AV) (h:Fy x=some r):bj PP 120 ((aC bc a0).E x) r:=by obtain ⟨hc,rfl⟩:=zI h;exact az (ar.cons (aq Og) (ar.cons (aq Ov) (ar.cons (aq Qq) (ar.cons (aq px) (ar.nil PP))))) Tryz.func120 zK zK zK zL (r1 bc) true (x.1) (amw x.1 hc)
noncomputable abbrev az4:Nat × Bool × (List AV->M AV):=(120,true,cx (aC bc a0) Fy)
def th {α:Type} (f : α -> α) (l:List α) (i:Nat):List α:=(l.take i).map f++l.drop i
theorem auh {α:Type} (f : α -> α) (l:List α) (i:Nat):(th f l i).length=l.length:=by simp [th];omega
theorem aul {α:Type} (f : α -> α) {l:List α} {i:Nat} {c : α} (h:l[i]? = some c):(th f l i)[i]? = some c:=by
 obtain ⟨hi,rfl⟩:=zg.1 h;have hl:((l.take i).map f).length=i:=by simp;omega
 rw [th,zzd zO,hl,Nat.sub_self,zz6];simp [h]
theorem arn {α:Type} (f : α -> α) {l:List α} {i:Nat} {c : α} (h:l[i]? = some c):(th f l i).take i++[f c]++(th f l i).drop (i+1)=th f l (i+1):=by
 obtain ⟨hi,rfl⟩:=zg.1 h;have h1:((l.take i).map f).length=i:=by simp;omega
 have h2:(th f l i).take i=(l.take i).map f:=by rw [th,List.take_append_of_le_length zO,zzp zO]
 have h3:(th f l i).drop (i+1)=l.drop (i+1):=by rw [th,List.drop_append,zzx zO,h1];simp
 rw [h2,h3,th,zz5 hi,zzw];rfl
theorem atk {α:Type} (f : α -> α) (l:List α):th f l l.length=l.map f:=by simp [th]
noncomputable def nj (t:UInt16) (d:cq):cq:=if 0<(c8 t).names then { d with names:=d.names.map fh } else d
theorem aot (t:UInt16) (d:cq) (hd:da d):wl PP [aat,aBj] 0 (Tryz.f180.body.getD .skip) (c9 PP Tryz.f180.results.toList (fun r st=>(r1 bc).get true st.h r=some (nj t d))) (cp 0 [cj.val false t,bc.val false d]) (bg []):=by
 have hl:=hd.lens;have l2:=hl.2.1;have l3:=hl.2.2.1;have l4:=hl.2.2.2;unfold Tryz.f180;simp only [iy,bz];simp only [↓wR,zV,simprocAttr];refine ct (T:=[akk,ais,ao7,ve]) (ar.cons (aq Og) (ar.cons (aq Ov) (ar.cons (aq Qq) (ar.cons (aq px) (ar.nil PP))))) mixed Tryz.func120 rfl zK zK zK zK ?_;unfold Tryz.f120;simp only [↓wR,zV,simprocAttr];refine ⟨zK,.inl ?_⟩;simp only [↓wR,zV,simprocAttr,B6,B9,Ei,l2,l3,l4];refine ⟨zK,?_⟩;refine fg [2,17,18,19,3] (fun (x:List Name)=>[.ptr 2 0,.vl false 1 (d.names.map (aj.val false)),.sc (.int .i64 (d.names.length)),.sc (.int .i64 (x.length)),.ptr 3 0]) (fun x=>[some (.row [.vl false 1 (d.names.map (aj.val false)),.vl false 1 (d.nums.map (cz.val false)),.vl false 1 (d.texts.map (ai.val false)),.vl false 1 (d.raw.map (ca.val false))] 0 2 116),some (.row [.sc (.slice none 0 0),.sc (.slice none 0 0),.sc (.slice none 0 0),.sc (.slice none 0 0)] 0 2 116),some (.row [.sc (.slice none 0 0),.sc (.slice none 0 0),.sc (.slice none 0 0),.sc (.slice none 0 0)] 0 2 116),some (.row [.sl 4 0 x.length 1,.vl true 1 (d.nums.map (cz.val false)),.vl true 1 (d.texts.map (ai.val false)),.vl true 1 (d.raw.map (ca.val false))] 0 2 116),some (.row (x.map (aj.val true)) 0 0 23)]) (fun x=>x.length<=d.names.length/\x++d.names.drop x.length=d.names) (fun x=>d.names.length - x.length) [] ⟨zzb _,rfl⟩ (by simp only [↓wR,zV,simprocAttr];(refine ir.lax [] (by first|exact zB rfl|(simp [dm];omega)) ?_ ?_<;>repeat' first|exact dx.nil|exact bw.nil|exact eh.same _|exact eh.nil _ _ _|exact eh.k8 _ _|exact bw.refl _ _|apply dx.cons|apply bw.ghost|apply bw.same|apply bw.row)) ?_;rintro x ⟨hi,hx⟩;simp only [↓wR,zV,simprocAttr];rw [bh];refine ⟨fun h=>?_,fun h=>?_⟩
 ·obtain ⟨c,hc,aF,hlt⟩:=du (zp h);rw [aF] at hx;have aD:(x.length+1) * 24<=140737488355328:=zO;simp only [↓wR,zV,simprocAttr,h,hc];refine ⟨zK,.inl ?_⟩;simp only [↓wR,zV,simprocAttr,oe,hd.name c (zm hc),aD];refine ⟨zK,?_⟩;exact ⟨x++[c],⟨by simp;omega,by simpa using hx⟩,by simp;omega,zF,zF⟩
 rw [eu (zq h)] at hx;rw [zzn] at hx;subst hx;simp only [↓wR,zV,simprocAttr,h,I6,Hx];unfold nj;clear hi h;rw [bh];refine ⟨fun h0=>?_,fun h0=>?_⟩
 ·rw [if_pos h0];simp only [↓wR,zV,simprocAttr,h0];refine dq [4,5,15,16,17] (fun (i:Nat)=>[.ptr 0 0,.ptr 1 0,.sl 2 0 d.names.length 1,.sc (.int .i64 (d.names.length)),.sc (.int .i64 (i))]) (fun i=>[some (.row [.sc (.slice none 0 0),.sc (.slice none 0 0),.sc (.slice none 0 0),.sc (.slice none 0 0)] 0 2 116),some (.row [.sl 2 0 d.names.length 1,.vl true 1 (d.nums.map (cz.val false)),.vl true 1 (d.texts.map (ai.val false)),.vl true 1 (d.raw.map (ca.val false))] 0 2 116),some (.row ((th fh d.names i).map (aj.val true)) 0 0 23)]) (fun i=>i<=d.names.length) (fun i=>d.names.length - i) 0 (zzb _) (by simp only [↓wR,zV,simprocAttr]<;>rfl) (by simp only [↓wR,zV,simprocAttr]<;>rfl) ?_;intro i hi;simp only [↓wR,zV,simprocAttr];rw [bh];refine ⟨fun h=>?_,fun h=>?_⟩
  ·obtain ⟨c,hc,aF,hlt⟩:=du (zp h);have hs:=aul fh hc;have hlen:=auh fh d.names i;have eR:i+1<=d.names.length:=hlt;simp only [↓wR,zV,simprocAttr,h,hs,hlt];refine ⟨zK,.inl ?_⟩;simp only [↓wR,zV,simprocAttr,h,hlt,eR,hlen,Gj,hd.name c (zm hc)];refine ⟨zK,i+1,hlt,zO,zF,?_⟩;rw [<- arn fh hc];simp only [zzw,List.map_cons,List.map_nil]
  ·have hin:i=d.names.length:=zO;subst hin;rw [atk];have cF:(d.names.map fh).length=d.names.length:=zzo _;generalize d.names.map fh=m at cF ⊢;simp only [↓wR,zV,simprocAttr,h,cF];rfl
 ·rw [if_neg h0];simp only [↓wR,zV,simprocAttr,h0]
noncomputable def Gk (x:UInt16 × cq × Unit):Option AV:=if da x.2.1 then some ((r1 bc).E true (nj x.1 x.2.1)) else none
theorem afs (x:UInt16 × cq × Unit) (r:AV) (h:Gk x=some r):bj PP 180 ((aC cj (aC bc a0)).E x) r:=by obtain ⟨hc,rfl⟩:=zI h;exact az (ar.cons (aq I1) (ar.cons (aq afc) (ar.nil PP))) Tryz.func180 zK zK zK zL (r1 bc) true (nj x.1 x.2.1) (aot x.1 x.2.1 hc)
noncomputable abbrev aCb:Nat × Bool × (List AV->M AV):=(180,true,cx (aC cj (aC bc a0)) Gk)
def kx:List Name->Int
 | []=>0
 |n::r=>if dk n≠0 then dk n else kx r
noncomputable def ek (t:UInt16) (d:cq):Int:=
 if om t=true then 6 else if tr (c8 t) t d=false then 7 else if kx d.names≠0 then kx d.names else if 65535<(oo t d).length then 3 else 0
theorem Va {l:List Name} {i:Nat} {c:Name} (h:l.drop i=c::l.drop (i+1)):kx (l.drop i)=if dk c≠0 then dk c else kx (l.drop (i+1)):=by rw [h];rfl
theorem akc (t:UInt16) (d:cq) (hd:da d):wl PP [aH5,aat,aI6,gb,Xx] 0 (Tryz.f117.body.getD .skip) (c9 PP Tryz.f117.results.toList (fun r st=>(r1 (bb .i64)).get true st.h r=some (ek t d))) (cp 0 [cj.val false t,bc.val false d]) (bg []):=by
 have hs:=Cy t;have hl:=hd.lens;unfold Tryz.f117;simp only [iy,bz];simp only [↓wR,zV,simprocAttr,aa8];unfold ek;rw [cw];refine ⟨fun hb=>?_,fun hb=>?_⟩
 ·rw [if_pos hb];simp only [↓wR,zV,simprocAttr,hb]
 rw [if_neg (by rw [hb];decide)];simp only [↓wR,zV,simprocAttr,hb];refine ⟨zK,.inl ?_⟩;simp only [↓wR,zV,simprocAttr,I6,Qv,hs,hd];refine ⟨zK,?_⟩;rw [cw];refine ⟨fun hf=>?_,fun hf=>?_⟩
 ·rw [if_pos (by simpa using hf)];simp only [↓wR,zV,simprocAttr,hf]
 have hf':tr (c8 t) t d=true:=by simpa using hf
 rw [if_neg (by rw [hf'];decide)];simp only [↓wR,zV,simprocAttr,hf];refine dq [0,3,17,18,19] (fun (i:Nat)=>[.sc (.int .u16 t.toNat),.ptr 0 0,.vl false 1 (d.names.map (aj.val false)),.sc (.int .i64 (d.names.length)),.sc (.int .i64 (i))]) (fun _=>[some (.row [.vl false 1 (d.names.map (aj.val false)),.vl false 1 (d.nums.map (cz.val false)),.vl false 1 (d.texts.map (ai.val false)),.vl false 1 (d.raw.map (ca.val false))] 0 2 116)]) (fun i=>i<=d.names.length/\kx d.names=kx (d.names.drop i)) (fun i=>d.names.length - i) 0 ⟨zzb _,rfl⟩ (by simp only [↓wR,zV,simprocAttr]<;>rfl) (by simp only [↓wR,zV,simprocAttr]<;>rfl) ?_;rintro i ⟨hi,hx⟩;simp only [↓wR,zV,simprocAttr];rw [bh];refine ⟨fun h=>?_,fun h=>?_⟩
 ·obtain ⟨c,hc,aF,hlt⟩:=du (zp h);rw [Va aF] at hx;simp only [↓wR,zV,simprocAttr,h,hc,sh,(hd.name c (zm hc)).fit];rw [cw];refine ⟨fun h1=>?_,fun h1=>?_⟩
  ·have he:dk c≠0:=by simpa using h1
   rw [if_pos he] at hx;rw [if_pos (by rw [hx];exact he),hx];simp only [↓wR,zV,simprocAttr,h1]
  ·have he:dk c=0:=by simpa using h1
   rw [if_neg zO] at hx
   repeat (first|simp only [↓wR,zV,simprocAttr,h1]|simp (disch:=omega) only [zW])
   exact ⟨i+1,⟨hlt,hx⟩,zO,zF⟩
 rw [eu (zq h)] at hx;rw [if_neg (by rw [hx];decide)];simp only [↓wR,zV,simprocAttr,h,yf,hd];rw [bh];refine ⟨fun h2=>?_,fun h2=>?_⟩
 ·rw [if_pos zO];simp only [↓wR,zV,simprocAttr,h2]
 ·rw [if_neg zO];simp only [↓wR,zV,simprocAttr,h2]
noncomputable def ux (x:UInt16 × cq × Unit):Option AV:=if da x.2.1 then some ((r1 (bb .i64)).E true (ek x.1 x.2.1)) else none
theorem E4 (x:UInt16 × cq × Unit) (r:AV) (h:ux x=some r):bj PP 117 ((aC cj (aC bc a0)).E x) r:=by obtain ⟨hc,rfl⟩:=zI h;exact az (ar.cons (aq am0) (ar.cons (aq I1) (ar.cons (aq aup) (ar.cons (aq sx) (ar.cons (aq Jl) (ar.nil PP)))))) Tryz.func117 zK zK zK zL (r1 (bb .i64)) true (ek x.1 x.2.1) (akc x.1 x.2.1 hc)
noncomputable abbrev Rh:Nat × Bool × (List AV->M AV):=(117,true,cx (aC cj (aC bc a0)) ux)
noncomputable def Ii (t:UInt16) (d:cq):List UInt8:=if ek t d≠0 then [] else oo t d
theorem ai9 (t:UInt16) (d:cq) (hd:da d):wl PP [Rh,Xx] 0 (Tryz.f179.body.getD .skip) (c9 PP Tryz.f179.results.toList (fun r st=>(r2 (cg ca) (bb .i64)).get false st.h r=some (Ii t d,ek t d))) (cp 0 [cj.val false t,bc.val false d]) (bg []):=by
 unfold Tryz.f179;simp only [iy,bz];simp only [↓wR,zV,simprocAttr,ux,hd];unfold Ii;rw [cw];refine ⟨fun h=>?_,fun h=>?_⟩
 ·have he:ek t d≠0:=by simpa using h
  rw [if_pos he];simp only [↓wR,zV,simprocAttr,h]
 ·have he:ek t d=0:=by simpa using h
  rw [if_neg zO];simp only [↓wR,zV,simprocAttr,h,yf,hd,he]
noncomputable def Ct (x:UInt16 × cq × Unit):Option AV:=if da x.2.1 then some ((r2 (cg ca) (bb .i64)).E false ((Ii x.1 x.2.1,ek x.1 x.2.1))) else none
theorem aby (x:UInt16 × cq × Unit) (r:AV) (h:Ct x=some r):bj PP 179 ((aC cj (aC bc a0)).E x) r:=by obtain ⟨hc,rfl⟩:=zI h;exact az (ar.cons (aq E4) (ar.cons (aq Jl) (ar.nil PP))) Tryz.func179 zK zK zK zL (r2 (cg ca) (bb .i64)) false ((Ii x.1 x.2.1,ek x.1 x.2.1)) (ai9 x.1 x.2.1 hc)
noncomputable abbrev aw8:Nat × Bool × (List AV->M AV):=(179,true,cx (aC cj (aC bc a0)) Ct)
theorem avw (args:List AV):Cr PP 203 args (Cx.mr args):=
 Cx.Ia (fn:=(PP.funcs[203]?).getD default) zK zK zK zK zK args
noncomputable abbrev aHy:Nat × Bool × (List AV->M AV):=(203,true,Cx.mr)
theorem aEc:ar PP [aHy]:=ar.cons avw (ar.nil PP)
noncomputable def aa5 (a b:List UInt8):Int:=Lib.compareBytes a b
theorem Yq (a b:List UInt8):wl PP [aHy] 0 (Tryz.f181.body.getD .skip) (c9 PP Tryz.f181.results.toList (fun r st=>(r1 (bb .i64)).get true st.h r=some (aa5 a b))) (cp 0 [(cg ca).val false a,(cg ca).val false b]) (bg []):=by unfold Tryz.f181;simp only [l5];simp only [↓wR,zV,simprocAttr,aa5]
noncomputable def Bh (x:List UInt8 × List UInt8 × Unit):Option AV:=some ((r1 (bb .i64)).E true (aa5 x.1 x.2.1))
theorem Tn (x:List UInt8 × List UInt8 × Unit) (r:AV) (h:Bh x=some r):bj PP 181 ((aC (cg ca) (aC (cg ca) a0)).E x) r:=by cases h;exact az aEc Tryz.func181 zK zK zK zL (r1 (bb .i64)) true (aa5 x.1 x.2.1) (Yq x.1 x.2.1)
noncomputable abbrev aif:Nat × Bool × (List AV->M AV):=(181,true,cx (aC (cg ca) (aC (cg ca) a0)) Bh)
theorem Jh (s:ByteArray):(fold s).size=s.size:=by show (s.data.toList.map low).toArray.size=s.data.size;simp
theorem D8 (n:Name):cd (fh n)=cd n:=by unfold cd fh;rw [List.foldl_map];simp only [Jh]
theorem avj (l:List Name):gu cd (l.map fh)=gu cd l:=by
 induction l with
 |nil=>rfl
 |cons a l ih=>simp only [gu,List.map_cons,List.foldr_cons,D8] at ih ⊢;rw [ih]
theorem da.fold {d:cq} (h:da d) (t:UInt16):da (nj t d):=by
 unfold nj
 split
 ·unfold da Ce at *;simp only [avj];exact h
 ·exact h
noncomputable def E0 (t:UInt16) (a b:cq):Int:=if ek t (nj t a)≠0\/ek t (nj t b)≠0 then 0 else aa5 (Ii t (nj t a)) (Ii t (nj t b))
noncomputable def Bk (t:UInt16) (a b:cq):Bool:=decide (ek t a=0) && decide (ek t b=0) && decide (E0 t a b=0)
theorem aaa (t:UInt16) (a b:cq) (ha:da a) (hb:da b):wl PP [aCb,aw8,aif] 0 (Tryz.f140.body.getD .skip) (c9 PP Tryz.f140.results.toList (fun r st=>(r1 (bb .i64)).get true st.h r=some (E0 t a b))) (cp 0 [cj.val false t,bc.val false a,bc.val false b]) (bg []):=by
 have fa:=ha.fold t;have fb:=hb.fold t;unfold Tryz.f140;simp only [iy,bz];simp only [↓wR,zV,simprocAttr,Gk,Ct,Bh,ha,hb,fa,fb];unfold E0;rw [cw];refine ⟨fun h=>?_,fun h=>?_⟩
 ·have he:ek t (nj t a)≠0:=by simpa using h
  rw [if_pos (.inl he)];simp only [↓wR,zV,simprocAttr,h]
 have he:ek t (nj t a)=0:=by simpa using h
 simp only [↓wR,zV,simprocAttr,h];rw [cw];refine ⟨fun h2=>?_,fun h2=>?_⟩
 ·have nS:ek t (nj t b)≠0:=by simpa using h2
  rw [if_pos (.inr nS)];simp only [↓wR,zV,simprocAttr,h2]
 ·have nS:ek t (nj t b)=0:=by simpa using h2
  rw [if_neg zO];simp only [↓wR,zV,simprocAttr,h2,Bh]
noncomputable def pa (x:UInt16 × cq × cq × Unit):Option AV:=if da x.2.1/\da x.2.2.1 then some ((r1 (bb .i64)).E true (E0 x.1 x.2.1 x.2.2.1)) else none
theorem Iv (x:UInt16 × cq × cq × Unit) (r:AV) (h:pa x=some r):bj PP 140 ((aC cj (aC bc (aC bc a0))).E x) r:=by obtain ⟨hc,rfl⟩:=zI h;exact az (ar.cons (aq afs) (ar.cons (aq aby) (ar.cons (aq Tn) (ar.nil PP)))) Tryz.func140 zK zK zK zL (r1 (bb .i64)) true (E0 x.1 x.2.1 x.2.2.1) (aaa x.1 x.2.1 x.2.2.1 hc.1 hc.2)
noncomputable abbrev Kq:Nat × Bool × (List AV->M AV):=(140,true,cx (aC cj (aC bc (aC bc a0))) pa)
theorem ams (t:UInt16) (a b:cq) (ha:da a) (hb:da b):wl PP [Rh,Kq] 0 (Tryz.f159.body.getD .skip) (c9 PP Tryz.f159.results.toList (fun r st=>(r1 bk).get true st.h r=some (Bk t a b))) (cp 0 [cj.val false t,bc.val false a,bc.val false b]) (bg []):=by
 unfold Tryz.f159;simp only [iy,bz];simp only [↓wR,zV,simprocAttr,ux,ha,hb];unfold Bk;rw [cf];refine ⟨fun ⟨h,e⟩=>?_,fun ⟨h,e⟩=>?_⟩
 ·rw [zp e];simp only [↓wR,zV,simprocAttr,h,ux,ha,hb];rw [cf];refine ⟨fun ⟨h2,e2⟩=>?_,fun ⟨h2,e2⟩=>?_⟩
  ·rw [zp e2];simp only [↓wR,zV,simprocAttr,h2,pa,ha,hb];rfl
  ·rw [zq e2];simp only [↓wR,zV,simprocAttr,h2];rfl
 ·rw [zq e];simp only [↓wR,zV,simprocAttr,h];rfl
noncomputable def F5 (x:UInt16 × cq × cq × Unit):Option AV:=if da x.2.1/\da x.2.2.1 then some ((r1 bk).E true (Bk x.1 x.2.1 x.2.2.1)) else none
theorem afi (x:UInt16 × cq × cq × Unit) (r:AV) (h:F5 x=some r):bj PP 159 ((aC cj (aC bc (aC bc a0))).E x) r:=by obtain ⟨hc,rfl⟩:=zI h;exact az (ar.cons (aq E4) (ar.cons (aq Iv) (ar.nil PP))) Tryz.func159 zK zK zK zL (r1 bk) true (Bk x.1 x.2.1 x.2.2.1) (ams x.1 x.2.1 x.2.2.1 hc.1 hc.2)
noncomputable abbrev az0:Nat × Bool × (List AV->M AV):=(159,true,cx (aC cj (aC bc (aC bc a0))) F5)
end Go.Proofs.YtjagjbceegbaiaaGreat
end
section
namespace Go.Vm
variable [TK]
noncomputable section
theorem Ep {α:Type} (C:dp α) (fr:Bool) (h:Tr bp) (l:List AV) (ha:C.agg=true):C.dec fr h l=C.gv fr h (.agg l):=by rw [vn _ _ _ _ rfl (by rw [ha];rfl)];rfl
theorem Wd {α β:Type} (A:dp α) (B:dp β) (fr:Bool) (h:Tr bp) (l:List AV):(jq A B).dec fr h l=match A.dec fr h (l.take A.sz),B.dec fr h (l.drop A.sz) with|some x,some y=>some (x,y)|_,_=>none:=rfl
theorem Nz {α:Type} (C:dp α) (fr h) (x:AV):(cg C).dec fr h [x]=gm C fr h x:=rfl
theorem M9 (fr h) (x:AV):aj.dec fr h [x]=gm ai fr h x:=rfl
theorem ar8 {P:Program} {T:fc} {l:Nat} {be:Nat} {L:SL} {st:St} {Q:QI} {ps:List Tmp} {ra rb:Code} {L0:SL} {α:Type} {b:Code} (keep:List Nat) (V : α->List AV) (O : α->List (Option bp)) (I : α->Prop) (μ : α->Nat) (x : α) (hx:I x)
 (hv:ir be (jc be keep L st) (gh be keep L st) (V x) (O x))
 (step:∀ x,I x->sf P T l (qa ps (fun p=>wl P T p ra) (fun p=>wl P T p rb) L0) be b (Cm (As be keep (fun vs os=>∃ y,I y /\ μ y < μ x/\vs=V y/\os=O y) (fun _ _ _=>False)) Q) none (jn keep (V x)) (bg (O x))):sf P T l (qa ps (fun p=>wl P T p ra) (fun p=>wl P T p rb) L0) be (.loop b) Q none L st:=by
 have mono:∀ (Q1 Q2:QL),(∀ e L st,Q1 e L st->Q2 e L st)->∀ L st,sf P T l (qa ps (fun p=>wl P T p ra) (fun p=>wl P T p rb) L0) be b (Cm Q1 Q) none L st->sf P T l (qa ps (fun p=>wl P T p ra) (fun p=>wl P T p rb) L0) be b (Cm Q2 Q) none L st:=fun Q1 Q2 h L st hh=>V3 (Uq P T) b _ _ (fun e pe L st q=>by
  cases e with
  |normal=>exact ⟨q.1,h _ _ _ q.2⟩
  |ret=>exact q
  |exit i=>exact q) none L st hh
 refine ⟨rfl,vu.aBc (B:=fun Q' L st=>sf P T l _ be b (Cm Q' Q) none L st) keep V O I μ x hx hv mono (fun x hi=>mono _ _ (fun e L' st' hq=>?_) _ _ (step x hi))⟩;cases e with
 |normal=>
  obtain ⟨y,h1,h2,h3,h4⟩:=hq;refine ⟨y,h1,h2,?_⟩;rw [h3,h4];exact .refl _ _ _
 |exit i=>exact hq.elim
 |ret=>exact hq.elim
theorem O0 (k fr h n cells kk st et) (hn:n=cells.length) (hro:A5 fr st 1 (.int k) et=true):kl (bb k) fr h 0 n (.row cells kk st et)=sy (bb k) fr h cells:=Aw (bb k) rfl fr h n cells kk st et hn hro
def ja (n:Nat) (r:AV) (st:St):List Nat:=reach st.h ga (r.names++qf st.h (ew 0 n)) (ew 0 n)
def jx (n:Nat) (r:AV) (st:St):AV:=r.de (fun o=>idx (ja n r st) o 0)
def jo (n:Nat) (r:AV) (st:St):St:=bg (jw st.h (fun o=>idx (ja n r st) o 0) (ja n r st))
theorem apq {g g':Gh} {st st':St} {w w':World} {r:AV} {v:Value} (hn:st.nx<=1000) (hfr:∀ o,st.nx<=o->g.inj o=none) (hs:Step g st.h w st.nx st'.nx g' st'.h w') (aB:Ok g' st'.h w') (hr:Rel g' w' r v) :
 ∃ g'',st.nx<=(jo st.nx r st').nx/\Step g st.h w st.nx (jo st.nx r st').nx g'' (jo st.nx r st').h w'/\Ok g'' (jo st.nx r st').h w'/\Rel g'' w' (jx st.nx r st') v:=by
 have hN:=Cg st'.h ga (r.names++qf st'.h (ew 0 st.nx)) (ew 0 st.nx) (tg _ _);change (ja st.nx r st').Nodup/\(∃ q,ja st.nx r st'=ew 0 st.nx++q)/\(ja st.nx r st').length<=_ at hN;have hτ:∀ o p,(fun o=>idx (ja st.nx r st') o 0) o=some p->(ja st.nx r st')[p]? = some o:=fun o p h=>Em _ o p h
 unfold jo jx;generalize ja st.nx r st'=N at hN hτ;obtain ⟨cE,⟨rest,hpre⟩,hlen⟩:=hN;rw [kf] at hlen;have aD:N.length<=dm:=by simp only [ga,dm] at *;omega
 have er:∀ i x,(bg (jw st'.h (fun o=>idx N o 0) N)).h.get i=some x->∃ o y,N[i]? = some o/\st'.h.get o=some y/\y.de (fun o=>idx N o 0)=some x:=by
  intro i x hx;simp only [bg] at hx;rw [wi _ _ _ (by rw [jf];omega),if_pos (zzb _),Nat.sub_zero,xe] at hx;cases hi:N[i]? with
  |none=>rw [hi] at hx;cases hx
  |some o=>
   rw [hi] at hx;simp only [Option.map_some,Option.join_some] at hx;cases hy:st'.h.get o with
   |none=>rw [hy] at hx;cases hx
   |some y=>rw [hy] at hx;exact ⟨o,y,rfl,hy,hx⟩
 have aO:∀ i o,N[i]? = some o->(g'.de N).inj i=g'.inj o:=fun i o h=>by simp [Gh.de,h]
 have aY:∀ o,o<st.nx->N[o]? = some o:=fun o ho=>by rw [hpre,zzi (by rw [kf];exact ho),G3 _ _ _ ho,Nat.zero_add]
 have bN:(bg (jw st'.h (fun o=>idx N o 0) N)).nx=N.length:=by simp only [bg,jf]
 have hle:st.nx<=N.length:=by rw [hpre,za,kf];omega
 rw [bN];refine ⟨g'.de N,hle,⟨⟨hs.ext.b0,fun o p ho=>?_,hs.ext.K,hs.ext.cell,hs.ext.ta,hs.ext.lp,hs.ext.whole⟩,hs.size,hs.os,hs.tape,hs.output,hs.frame,fun o ho hr=>?_,fun i b base hi hj=>?_,hs.ox⟩,⟨aB.size,fun i x hx=>?_,fun i j x y b base base' dK hx hy hb hb'=>?_,aB.K⟩,hr.de hτ⟩
 ·have hlt:o<st.nx:=by
   rcases zyf o st.nx with h|h
   ·exact h
   ·rw [hfr o h] at ho;cases ho
  rw [aO o o (aY o hlt)];exact hs.ext.inj o p ho
 ·rcases zyf o st.nx with h|h
  ·rw [aO o o (aY o h)];exact hs.fresh o ho zO
  ·simp [Gh.de,zzy (show N.length<=o by omega)]
 ·obtain ⟨x,hx⟩:=zzv.1 hi;obtain ⟨o,y,h1,h2,_⟩:=er i x hx;rw [aO i o h1] at hj;exact hs.own o b base (by rw [h2];rfl) hj
 ·obtain ⟨o,y,h1,h2,h3⟩:=er i x hx;refine (aB.oa o y h2).imp (fun q=>⟨by rw [aO i o h1];exact q.1,by obtain ⟨s0,e0,rfl⟩:=q.2;simp only [bp.de,AV.de.go,Option.some.injEq] at h3;exact ⟨s0,e0,h3.symm⟩⟩) ?_;rintro ⟨b,base,q1,q2,q3⟩;exact ⟨b,base,by rw [aO i o h1];exact q1,q2,q3.de hτ h3⟩
 ·obtain ⟨o,y1,h1,h2,_⟩:=er i x hx;obtain ⟨o',y2,h1',h2',_⟩:=er j y hy;rw [aO i o h1] at hb;rw [aO j o' h1'] at hb';have hne:o≠o':=by
   intro e;subst e;obtain ⟨hi,ei⟩:=zg.1 h1;obtain ⟨hj,ej⟩:=zg.1 h1';exact dK ((List.getElem_inj cE).1 (ei.trans ej.symm))
  exact aB.sep o o' _ _ b base base' hne h2 h2' hb hb'
theorem en {P:Program} {f:Nat} {args:List AV} {st:St} {R:AV->St->Prop} (R0:AV->St->Prop) (hn:Nat.ble st.nx 1000=true) (h1:ky P f args st (fun r st'=>R0 (jx st.nx r st') (jo st.nx r st'))) (h2:∀ r st',R0 r st'->R r st'):ky P f args st R:=by
 intro g w vs aB hfr hrel;rcases h1 g w vs aB hfr hrel with ⟨v,w',g',r,st',q1,q2,q3,q4,q5,q6⟩|⟨q1,q2⟩
 ·obtain ⟨g'',p1,p2,p3,p4⟩:=apq (zB hn) hfr q4 q5 q6;exact .inl ⟨v,w',g'',_,_,q1,h2 _ _ q2,p1,p2,p3,p4⟩
 ·refine .inr ⟨q1,q2.mono ?_⟩;rintro e w' ⟨v,g',r,st',rfl,q2,q3,q4,q5,q6⟩;obtain ⟨g'',p1,p2,p3,p4⟩:=apq (zB hn) hfr q4 q5 q6;exact ⟨v,g'',_,_,rfl,h2 _ _ q2,p1,p2,p3,p4⟩
theorem O4 (l) (n:Name):lq (aj.val l n)=some n.length:=by rw [bz];show some (List.map (ai.val l) n).length=_;rw [zzo]
theorem apb (a b:Operand):(#[a]++(none:Option Operand).toArray++(some b).toArray++(none:Option Operand).toArray).toList=[a,b]:=id rfl
theorem apt (a b:Operand):(#[a]++(some b).toArray++(none:Option Operand).toArray++(none:Option Operand).toArray).toList=[a,b]:=id rfl
theorem md5 (a:Nat):a * 5 / 5=a:=zO
theorem dv4 : 4 / 4=1:=rfl
theorem dv5 : 5 / 5=1:=rfl
theorem aj8 (fr h):cj.dec fr h [.sc (.int .u16 0)]=some 0:=rfl
theorem ah9 (fr h):cz.dec fr h [.sc (.int .u32 0)]=some 0:=rfl
theorem ao3 (k fr h n):(bb k).dec fr h [.sc (.int k n)]=some n:=(bb k).rt fr h true n (fun _=>rfl)
theorem On (l:Bool) (d:cq):(bc.val l d).cells=[.vl l 1 (d.names.map (aj.val l)),.vl l 1 (d.nums.map (cz.val l)),.vl l 1 (d.texts.map (ai.val l)),.vl l 1 (d.raw.map (ca.val l))]:=id rfl
theorem Pv (fr h l) (n:Name) (hl:(l || !fr)=true):gm ai fr h (aj.val l n)=some n:=vv ai fr h l n 1 rfl hl
def alf {α:Type} (C:dp α) (h:Tr bp) (off:Nat) (x:bp):Option α:=
 match x with
 |.row cells _ _ _=>bif Nat.ble (off+C.sz) cells.length then C.dec false h ((cells.drop off).take C.sz) else none
 |_=>none
def aas {α:Type} (C:dp α) (h:Tr bp) (a:AV):Option α:=
 match a with
 |.fe l=>bif Nat.ble C.sz l.length then C.dec false h (l.take C.sz) else none
 |.ptr o off=>(h.get o).bind (alf C h off)
 |_=>none
theorem Wn {α:Type} (C:dp α) (h o off):aas C h (.ptr o off)=(h.get o).bind (alf C h off):=id rfl
theorem Kf {α:Type} (C:dp α) (h l):aas C h (.fe l)=bif Nat.ble C.sz l.length then C.dec false h (l.take C.sz) else none:=id rfl
theorem Wi {α:Type} (C:dp α) (h off cells k s e):alf C h off (.row cells k s e)=bif Nat.ble (off+C.sz) cells.length then C.dec false h ((cells.drop off).take C.sz) else none:=id rfl
theorem aD5 {α:Type} (C:dp α) {g h w K b0 a v x} (aB:Ok g h w) (hl:yv g h K) (hr:Rel g w a v) (hd:aas C h a=some x):Rel (gK b0 K) w (.fe (C.cells false x)) v:=by
 have fin:∀ (b off:Nat) (vs:List Value),cb g w ((C.cells false x).map fun _=>AV.bad) vs->cb (gK b0 K) w (C.cells false x) vs->(∀ j u,vs[j]? = some u->K b (off+j)/\w.cell? ⟨b,off+j,none⟩=some u)->Rel (gK b0 K) w (.fe (C.cells false x)) (.pointer (some ⟨b,off,none⟩)):=by
  intro b off vs _ hrl hc;refine .fe _ b off (fun j=>vs.getD j undef) (fun j a hj=>?_) (fun j a hj=>?_)
  ·obtain ⟨u,hu,_⟩:=hrl.get hj;have:=hc j u hu;exact ⟨this.1,by rw [this.2,List.getD_eq_getElem?_getD,hu];rfl⟩
  ·obtain ⟨u,hu,hrel⟩:=hrl.get hj;show Rel _ _ a (vs.getD j undef);rw [List.getD_eq_getElem?_getD,hu];exact hrel
 have oI:∀ vs:List Value,cb (gK b0 K) w (C.cells false x) vs->cb g w ((C.cells false x).map fun _=>AV.bad) vs:=fun vs h=>⟨by simpa using h.1,fun i a v ha _=>by rw [zzj,zzk] at ha;obtain ⟨_,_,rfl⟩:=ha;exact .bad _⟩
 cases hr with
 |fe l b off c h1 h2=>
  rw [Kf] at hd;cases hb:Nat.ble C.sz l.length with
  |false=>rw [hb] at hd;cases hd
  |true=>
   rw [hb,cond_true] at hd;have hle:=zB hb;have fU:cb g w (l.take C.sz) (ll 0 C.sz c):=by
    refine ⟨by simp [ll];omega,fun i a v ha hv=>?_⟩;rw [zye] at ha;by_cases hi:i<C.sz
    ·rw [if_pos hi] at ha;simp only [ll,zzj,zyi hi,Option.map_some,Option.some.injEq,Nat.zero_add] at hv;subst hv;exact h2 i a ha
    ·rw [if_neg hi] at ha;cases ha
   have q:=C.ok (b0:=b0) aB hl (fun e=>by cases e) fU hd;refine fin b off _ (oI _ q) q (fun j u hu=>?_);have hj:j<C.sz:=by have:=(zg.1 hu).1;simpa [ll] using this
   simp only [ll,zzj,zyi hj,Option.map_some,Option.some.injEq,Nat.zero_add] at hu;subst hu;have:=h1 j _ (zh zO);exact ⟨hl.K _ _ this.1,this.2⟩
 |ptr o off b base hi=>
  rw [Wn,Option.bind_eq_some_iff] at hd;obtain ⟨y,hy,hd⟩:=hd;obtain ⟨b',base',hi',gR,hrow⟩:=aB.obj o y hy;rw [hi] at hi';cases hi';cases y with
  |map es=>cases hd
  |loop=>cases hd
  |row cells k st et=>
   rw [Wi] at hd;cases hle:Nat.ble (off+C.sz) cells.length with
   |false=>rw [hle] at hd;cases hd
   |true=>
    rw [hle,cond_true] at hd;have rF:=zB hle;obtain ⟨cs,fz,r1,r2,r3,_⟩:=hrow;have hpart:cb g w ((cells.drop off).take C.sz) (ll (base+off) C.sz (fun j=>cs.getD j undef)):=by
     refine ⟨by simp [ll];omega,fun i a v ha hv=>?_⟩;rw [zye,zz6] at ha;by_cases bX:i<C.sz
     ·rw [if_pos bX] at ha;obtain ⟨u,hu,hrel⟩:=r3 _ a ha;simp only [ll,zzj,zyi bX,Option.map_some,Option.some.injEq] at hv;subst hv;rw [zze,zyk,hu];exact hrel
     ·rw [if_neg bX] at ha;cases ha
    have q:=C.ok (b0:=b0) aB hl (fun e=>by cases e) hpart hd;refine fin b (base+off) _ (oI _ q) q (fun j u hv=>?_);have hj:j<C.sz:=by have:=(zg.1 hv).1;simpa [ll] using this
    simp only [ll,zzj,zyi hj,Option.map_some,Option.some.injEq] at hv;obtain ⟨u,hu,_⟩:=r3 (off+j) (cells[off+j]'zO) (by simp);have dF:=hl.rows o cells k st et hy b base hi (off+j) (.inr zO);rw [<- zyk] at dF hu;refine ⟨dF,?_⟩;rw [j9 r1,hu,<- hv,zze,hu];rfl
 |_=>cases hd
def aP {α β:Type} (C:dp α) (R:AC β):AC (α × β) where
 E p:=.fe (C.cells false p.1)::R.E p.2
 D h l:=match l with
  | []=>none
  |a::r=>match aas C h a,R.D h r with
   |some x,some y=>some (x,y)
   |_,_=>none
 rt h p:=by
  have:aas C h (.fe (C.cells false p.1))=some p.1:=by rw [Kf,C.len,Nat.ble_self_eq_true,cond_true,zzp (by rw [C.len];exact zza _)];exact C.rt false h false p.1 (fun e=>by cases e)
  simp only [this,R.rt]
 ok:=by
  intro g h w K b0 l vs x aB hl hr hd
  match l,hd with
  |a::r,hd=>
   simp only at hd
   split at hd
   ·rename_i x1 y1 hx hy;simp at hd;subst hd
    match vs,hr with
    | [],hr=>have:=hr.1;simp at this
    |v::vs,hr=>exact cb.cons (aD5 C aB hl hr.head hx) (R.ok aB hl hr.tail hy)
   ·cases hd
theorem aG9 {α β:Type} (C:dp α) (R:AC β) (h:Tr bp) (a:AV) (r:List AV):(aP C R).get h (a::r)=match aas C h a,R.get h r with|some x,some y=>some (x,y)|_,_=>none:=id rfl
theorem Oz (f) (l:List cq) (d:cq):cellsOf bc f (l++[d])=cellsOf bc f l++[.vl f 1 (d.names.map (aj.val f)),.vl f 1 (d.nums.map (cz.val false)),.vl f 1 (d.texts.map (ai.val false)),.vl f 1 (d.raw.map (ca.val false))]:=by rw [Fo,U7];rfl
structure ba where
 owner:Name
 type:UInt16
 cls:UInt16
 i9:UInt32
 data:List cq
def mkS (owner:Name) (type:UInt16) (cls:UInt16) (i9:UInt32) (data:List cq):ba:=⟨owner,type,cls,i9,data⟩
theorem ap9 (x:ba):mkS x.owner x.type x.cls x.i9 x.data=x:=id rfl
def ag:dp ba:=x7 (jq aj (jq cj (jq cj (jq cz (cg bc))))) (fun x=>(x.owner,x.type,x.cls,x.i9,x.data)) (fun p=>⟨p.1,p.2.1,p.2.2.1,p.2.2.2.1,p.2.2.2.2⟩) (fun _=>rfl) (fun _=>rfl)
theorem jz (l:Bool) (x:ba):ag.val l x = .agg [.vl l 1 (x.owner.map (ai.val l)),.sc (.int .u16 x.type.toNat),.sc (.int .u16 x.cls.toNat),.sc (.int .u32 x.i9.toNat),.vl l 4 (x.data.map (bc.val l))]:=id rfl
theorem O2 (l:Bool) (x:ba):ag.cells l x=[.vl l 1 (x.owner.map (ai.val l)),.sc (.int .u16 x.type.toNat),.sc (.int .u16 x.cls.toNat),.sc (.int .u32 x.i9.toNat),.vl l 4 (x.data.map (bc.val l))]:=id rfl
theorem ace:ag.sz=5:=id rfl
theorem Yk (fr:Bool) (h:Tr bp) (y0 y1 y2 y3 y4:AV):ag.gv fr h (.agg [y0,y1,y2,y3,y4])=match gm ai fr h y0,cj.dec fr h [y1],cj.dec fr h [y2],cz.dec fr h [y3],gm bc fr h y4 with
 |some v0,some v1,some v2,some v3,some v4=>some (mkS v0 v1 v2 v3 v4)
 |_,_,_,_,_=>none:=by
 rw [vn _ _ _ _ rfl rfl];have h1:ag.dec fr h (AV.agg [y0,y1,y2,y3,y4]).cells=Option.map (fun p=>(⟨p.1,p.2.1,p.2.2.1,p.2.2.2.1,p.2.2.2.2⟩:ba)) ((jq aj (jq cj (jq cj (jq cz (cg bc))))).dec fr h [y0,y1,y2,y3,y4]):=rfl;rw [h1];simp only [Wd,yc,ql,zx,uu,wu,u1,List.take_succ_cons,List.take_zero,List.drop_succ_cons,List.drop_zero,Nz,M9];cases (gm ai fr h y0)<;>cases (cj.dec fr h [y1])<;>cases (cj.dec fr h [y2])<;>cases (cz.dec fr h [y3])<;>cases (gm bc fr h y4)<;>rfl
theorem Tu (f) (l:List ba):(l.map (ag.val f)).flatMap AV.cells=cellsOf ag f l:=Hw ag f l
theorem kr (l) (xs:List ba) (x:ba):cellsOf ag l (xs++[x])=cellsOf ag l xs++[.vl l 1 (x.owner.map (ai.val false)),.sc (.int .u16 x.type.toNat),.sc (.int .u16 x.cls.toNat),.sc (.int .u32 x.i9.toNat),.vl l 4 (x.data.map (bc.val l))]:=by rw [Fo,U7];rfl
structure ay where
 origin:Name
 ak:List ba
def mkZ (origin:Name) (ak:List ba):ay:=⟨origin,ak⟩
theorem apc (x:ay):mkZ x.origin x.ak=x:=id rfl
def bf:dp ay:=x7 (jq aj (cg ag)) (fun x=>(x.origin,x.ak)) (fun p=>⟨p.1,p.2⟩) (fun _=>rfl) (fun _=>rfl)
theorem dy (l:Bool) (x:ay):bf.val l x = .agg [.vl l 1 (x.origin.map (ai.val l)),.vl l 5 (x.ak.map (ag.val l))]:=id rfl
theorem Ef (l:Bool) (x:ay):bf.cells l x=[.vl l 1 (x.origin.map (ai.val l)),.vl l 5 (x.ak.map (ag.val l))]:=id rfl
theorem Hg:bf.sz=2:=id rfl
theorem Kk (fr:Bool) (h:Tr bp) (y0 y1:AV):bf.gv fr h (.agg [y0,y1])=match gm ai fr h y0,gm ag fr h y1 with
 |some v0,some v1=>some (mkZ v0 v1)
 |_,_=>none:=by
 rw [vn _ _ _ _ rfl rfl];have h1:bf.dec fr h (AV.agg [y0,y1]).cells=Option.map (fun p=>(⟨p.1,p.2⟩:ay)) ((jq aj (cg ag)).dec fr h [y0,y1]):=rfl;rw [h1];simp only [Wd,yc,ql,zx,uu,wu,u1,List.take_succ_cons,List.take_zero,List.drop_succ_cons,List.drop_zero,Nz,M9];cases (gm ai fr h y0)<;>cases (gm ag fr h y1)<;>rfl
theorem Q9 (fr:Bool) (h:Tr bp) (y0 y1:AV):bf.dec fr h [y0,y1]=match gm ai fr h y0,gm ag fr h y1 with
 |some v0,some v1=>some (mkZ v0 v1)
 |_,_=>none:=(Ep bf fr h _ rfl).trans (Kk fr h y0 y1)
structure aCv where
 addr:UInt32
 aub:List Int
structure al9 where
 aub:List ay
 aIm:List aCv
 hints:List UInt32
structure Cp where
 kind:Int
 node:Name
 yj:Name
def xq (kind:Int) (node:Name) (yj:Name):Cp:=⟨kind,node,yj⟩
theorem amf (kind node yj):(xq kind node yj).node=node:=id rfl
def qi:dp Cp:=x7 (jq (bb .u8) (jq aj aj)) (fun x=>(x.kind,x.node,x.yj)) (fun p=>⟨p.1,p.2.1,p.2.2⟩) (fun _=>rfl) (fun _=>rfl)
theorem Kt (l:Bool) (x:Cp):qi.val l x = .agg [.sc (.int .u8 x.kind),.vl l 1 (x.node.map (ai.val l)),.vl l 1 (x.yj.map (ai.val l))]:=id rfl
theorem Ul (fr:Bool) (h:Tr bp) (y0 y1 y2:AV):qi.gv fr h (.agg [y0,y1,y2])=match (bb .u8).dec fr h [y0],gm ai fr h y1,gm ai fr h y2 with
 |some v0,some v1,some v2=>some (xq v0 v1 v2)
 |_,_,_=>none:=by
 rw [vn _ _ _ _ rfl rfl];have h1:qi.dec fr h (AV.agg [y0,y1,y2]).cells=Option.map (fun p=>(⟨p.1,p.2.1,p.2.2⟩:Cp)) ((jq (bb .u8) (jq aj aj)).dec fr h [y0,y1,y2]):=rfl;rw [h1];simp only [Wd,yc,ql,zx,uu,wu,u1,List.take_succ_cons,List.take_zero,List.drop_succ_cons,List.drop_zero,Nz,M9];cases ((bb .u8).dec fr h [y0])<;>cases (gm ai fr h y1)<;>cases (gm ai fr h y2)<;>rfl
structure Ja where
 turn:Int
 ak:List ba
 to:Name
def pd (turn:Int) (ak:List ba) (to:Name):Ja:=⟨turn,ak,to⟩
theorem ah1 (turn ak to):(pd turn ak to).turn=turn:=id rfl
theorem ai3 (turn ak to):(pd turn ak to).ak=ak:=id rfl
theorem ay4 (turn ak to):(pd turn ak to).to=to:=id rfl
def Av:dp Ja:=x7 (jq (bb .u8) (jq (cg ag) aj)) (fun x=>(x.turn,x.ak,x.to)) (fun p=>⟨p.1,p.2.1,p.2.2⟩) (fun _=>rfl) (fun _=>rfl)
theorem Um (l:Bool) (x:Ja):Av.val l x = .agg [.sc (.int .u8 x.turn),.vl l 5 (x.ak.map (ag.val l)),.vl l 1 (x.to.map (ai.val l))]:=id rfl
theorem Ve (fr:Bool) (h:Tr bp) (y0 y1 y2:AV):Av.gv fr h (.agg [y0,y1,y2])=match (bb .u8).dec fr h [y0],gm ag fr h y1,gm ai fr h y2 with
 |some v0,some v1,some v2=>some (pd v0 v1 v2)
 |_,_,_=>none:=by
 rw [vn _ _ _ _ rfl rfl];have h1:Av.dec fr h (AV.agg [y0,y1,y2]).cells=Option.map (fun p=>(⟨p.1,p.2.1,p.2.2⟩:Ja)) ((jq (bb .u8) (jq (cg ag) aj)).dec fr h [y0,y1,y2]):=rfl;rw [h1];simp only [Wd,yc,ql,zx,uu,wu,u1,List.take_succ_cons,List.take_zero,List.drop_succ_cons,List.drop_zero,Nz,M9];cases ((bb .u8).dec fr h [y0])<;>cases (gm ag fr h y1)<;>cases (gm ai fr h y2)<;>rfl
structure xn where
 z:ay
 e:Int
def mkL (z:ay) (e:Int):xn:=⟨z,e⟩
theorem aDo (z e):(mkL z e).z=z:=id rfl
def oj:dp xn:=x7 (jq bf (bb .i64)) (fun x=>(x.z,x.e)) (fun p=>⟨p.1,p.2⟩) (fun _=>rfl) (fun _=>rfl)
theorem Ew (l:Bool) (x:xn):oj.cells l x=[.vl l 1 (x.z.origin.map (ai.val l)),.vl l 5 (x.z.ak.map (ag.val l)),.sc (.int .i64 x.e)]:=id rfl
theorem Z3:oj.sz=3:=id rfl
theorem amp (fr:Bool) (h:Tr bp) (cO cN y1:AV):oj.gv fr h (.agg [cO,cN,y1])=match bf.gv fr h (.agg [cO,cN]),(bb .i64).dec fr h [y1] with
 |some v0,some v1=>some (mkL v0 v1)
 |_,_=>none:=by
 rw [vn _ _ _ _ rfl rfl];have h1:oj.dec fr h (AV.agg [cO,cN,y1]).cells=Option.map (fun p=>(⟨p.1,p.2⟩:xn)) ((jq bf (bb .i64)).dec fr h [cO,cN,y1]):=rfl;rw [h1];simp only [Wd,yc,ql,zx,uu,wu,u1,List.take_succ_cons,List.take_zero,List.drop_succ_cons,List.drop_zero,Nz,M9,Hg,Ep bf fr h _ rfl];cases (bf.gv fr h (.agg [cO,cN]))<;>cases ((bb .i64).dec fr h [y1])<;>rfl
theorem Rm (fr:Bool) (h:Tr bp) (cO cN y1:AV):oj.dec fr h [cO,cN,y1]=match bf.gv fr h (.agg [cO,cN]),(bb .i64).dec fr h [y1] with
 |some v0,some v1=>some (mkL v0 v1)
 |_,_=>none:=(Ep oj fr h _ rfl).trans (amp fr h cO cN y1)
structure mi where
 tl:Int
 aa:Bool
 answer:List ba
 authority:List ba
 ic:List ba
def xr (tl:Int) (aa:Bool) (answer:List ba) (authority:List ba) (ic:List ba):mi:=⟨tl,aa,answer,authority,ic⟩
theorem apo (x:mi):xr x.tl x.aa x.answer x.authority x.ic=x:=id rfl
def ed:dp mi:=x7 (jq (bb .i64) (jq bk (jq (cg ag) (jq (cg ag) (cg ag))))) (fun x=>(x.tl,x.aa,x.answer,x.authority,x.ic)) (fun p=>⟨p.1,p.2.1,p.2.2.1,p.2.2.2.1,p.2.2.2.2⟩) (fun _=>rfl) (fun _=>rfl)
theorem Hu (l:Bool) (x:mi):ed.val l x = .agg [.sc (.int .i64 x.tl),.sc (.bool x.aa),.vl l 5 (x.answer.map (ag.val l)),.vl l 5 (x.authority.map (ag.val l)),.vl l 5 (x.ic.map (ag.val l))]:=id rfl
theorem K3:ed.sz=5:=id rfl
theorem Iz (fr:Bool) (h:Tr bp) (y0 y1 y2 y3 y4:AV):ed.gv fr h (.agg [y0,y1,y2,y3,y4])=match (bb .i64).dec fr h [y0],bk.dec fr h [y1],gm ag fr h y2,gm ag fr h y3,gm ag fr h y4 with
 |some v0,some v1,some v2,some v3,some v4=>some (xr v0 v1 v2 v3 v4)
 |_,_,_,_,_=>none:=by
 rw [vn _ _ _ _ rfl rfl];have h1:ed.dec fr h (AV.agg [y0,y1,y2,y3,y4]).cells=Option.map (fun p=>(⟨p.1,p.2.1,p.2.2.1,p.2.2.2.1,p.2.2.2.2⟩:mi)) ((jq (bb .i64) (jq bk (jq (cg ag) (jq (cg ag) (cg ag))))).dec fr h [y0,y1,y2,y3,y4]):=rfl;rw [h1];simp only [Wd,yc,ql,zx,uu,wu,u1,List.take_succ_cons,List.take_zero,List.drop_succ_cons,List.drop_zero,Nz,M9];cases ((bb .i64).dec fr h [y0])<;>cases (bk.dec fr h [y1])<;>cases (gm ag fr h y2)<;>cases (gm ag fr h y3)<;>cases (gm ag fr h y4)<;>rfl
theorem Oi (fr:Bool) (h:Tr bp) (y0 y1 y2 y3 y4:AV):ed.dec fr h [y0,y1,y2,y3,y4]=match (bb .i64).dec fr h [y0],bk.dec fr h [y1],gm ag fr h y2,gm ag fr h y3,gm ag fr h y4 with
 |some v0,some v1,some v2,some v3,some v4=>some (xr v0 v1 v2 v3 v4)
 |_,_,_,_,_=>none:=(Ep ed fr h _ rfl).trans (Iz fr h y0 y1 y2 y3 y4)
structure H0 where
 z:ay
 r:mi
 seen:List Name
def mkB (z:ay) (r:mi) (seen:List Name):H0:=⟨z,r,seen⟩
theorem aje (z r seen):(mkB z r seen).seen=seen:=id rfl
def xl:dp H0:=x7 (jq bf (jq ed (cg aj))) (fun x=>(x.z,x.r,x.seen)) (fun p=>⟨p.1,p.2.1,p.2.2⟩) (fun _=>rfl) (fun _=>rfl)
theorem Wx (l:Bool) (x:H0):xl.cells l x=[.vl l 1 (x.z.origin.map (ai.val l)),.vl l 5 (x.z.ak.map (ag.val l)),.sc (.int .i64 x.r.tl),.sc (.bool x.r.aa),.vl l 5 (x.r.answer.map (ag.val l)),.vl l 5 (x.r.authority.map (ag.val l)),.vl l 5 (x.r.ic.map (ag.val l)),.vl l 1 (x.seen.map (aj.val l))]:=id rfl
theorem T5:xl.sz=8:=id rfl
theorem ajd (fr:Bool) (h:Tr bp) (cO cN gI fE gH gU gT y2:AV):xl.gv fr h (.agg [cO,cN,gI,fE,gH,gU,gT,y2])=match bf.gv fr h (.agg [cO,cN]),ed.gv fr h (.agg [gI,fE,gH,gU,gT]),gm aj fr h y2 with
 |some v0,some v1,some v2=>some (mkB v0 v1 v2)
 |_,_,_=>none:=by
 rw [vn _ _ _ _ rfl rfl];have h1:xl.dec fr h (AV.agg [cO,cN,gI,fE,gH,gU,gT,y2]).cells=Option.map (fun p=>(⟨p.1,p.2.1,p.2.2⟩:H0)) ((jq bf (jq ed (cg aj))).dec fr h [cO,cN,gI,fE,gH,gU,gT,y2]):=rfl;rw [h1];simp only [Wd,yc,ql,zx,uu,wu,u1,List.take_succ_cons,List.take_zero,List.drop_succ_cons,List.drop_zero,Nz,M9,Hg,Ep bf fr h _ rfl,K3,Ep ed fr h _ rfl];cases (bf.gv fr h (.agg [cO,cN]))<;>cases (ed.gv fr h (.agg [gI,fE,gH,gU,gT]))<;>cases (gm aj fr h y2)<;>rfl
theorem Oj (fr:Bool) (h:Tr bp) (cO cN gI fE gH gU gT y2:AV):xl.dec fr h [cO,cN,gI,fE,gH,gU,gT,y2]=match bf.gv fr h (.agg [cO,cN]),ed.gv fr h (.agg [gI,fE,gH,gU,gT]),gm aj fr h y2 with
 |some v0,some v1,some v2=>some (mkB v0 v1 v2)
 |_,_,_=>none:=(Ep xl fr h _ rfl).trans (ajd fr h cO cN gI fE gH gU gT y2)
theorem ae:type_of% @O4/\type_of% @O0/\type_of% @apb/\type_of% @apt/\type_of% @md5/\type_of% @dv4/\type_of% @dv5/\type_of% @aj8/\type_of% @ah9/\type_of% @ao3/\type_of% @Wn/\type_of% @Kf/\type_of% @Wi/\type_of% @aG9/\type_of% @Pv/\type_of% @On/\type_of% @T1/\type_of% @A6/\type_of% @nv/\type_of% @ap9/\type_of% @jz/\type_of% @ace/\type_of% @Yk/\type_of% @Tu/\type_of% @apc/\type_of% @Q9/\type_of% @dy/\type_of% @Hg/\type_of% @Kk/\type_of% @amf/\type_of% @Kt/\type_of% @Ul/\type_of% @ah1/\type_of% @ai3/\type_of% @ay4/\type_of% @Um/\type_of% @Ve/\type_of% @aDo/\type_of% @Rm/\type_of% @Z3/\type_of% @apo/\type_of% @Oi/\type_of% @Hu/\type_of% @K3/\type_of% @Iz/\type_of% @aje/\type_of% @Oj/\type_of% @T5:=
 ⟨@O4,@O0,@apb,@apt,@md5,@dv4,@dv5,@aj8,@ah9,@ao3,@Wn,@Kf,@Wi,@aG9,@Pv,@On,@T1,@A6,@nv,@ap9,@jz,@ace,@Yk,@Tu,@apc,@Q9,@dy,@Hg,@Kk,@amf,@Kt,@Ul,@ah1,@ai3,@ay4,@Um,@Ve,@aDo,@Rm,@Z3,@apo,@Oi,@Hu,@K3,@Iz,@aje,@Oj,@T5⟩
abbrev zn (x:Name):AV:=.vl false 1 (x.map (ai.val false))
theorem zne (x:Name):zn x=.vl false 1 (x.map (ai.val false)):=rfl
abbrev zs (x:List ba):AV:=.vl false 5 (x.map (ag.val false))
theorem zse (x:List ba):zs x=.vl false 5 (x.map (ag.val false)):=rfl
abbrev zd (x:List cq):AV:=.vl false 4 (x.map (bc.val false))
theorem zde (x:List cq):zd x=.vl false 4 (x.map (bc.val false)):=rfl
abbrev zt (x:Name):AV:=.vl true 1 (x.map (ai.val false))
theorem zte (x:Name):zt x=.vl true 1 (x.map (ai.val false)):=rfl
abbrev zu (x:List UInt32):AV:=.vl false 1 (x.map (cz.val false))
theorem zue (x:List UInt32):zu x=.vl false 1 (x.map (cz.val false)):=rfl
abbrev zv (x:List Name):AV:=.vl false 1 (x.map (aj.val false))
theorem zve (x:List Name):zv x=.vl false 1 (x.map (aj.val false)):=rfl
abbrev zw (x:List UInt8):AV:=.vl false 1 (x.map (ca.val false))
theorem zwe (x:List UInt8):zw x=.vl false 1 (x.map (ca.val false)):=rfl
abbrev zi (x:Int):AV:=.sc (.int .i64 x)
theorem zie (x:Int):zi x=.sc (.int .i64 x):=rfl
theorem zT:type_of% RA/\type_of% TF/\type_of% ae/\type_of% @zne/\type_of% @zse/\type_of% @zde/\type_of% @zte/\type_of% @zue/\type_of% @zve/\type_of% @zwe/\type_of% @zie:=⟨RA,TF,ae,@zne,@zse,@zde,@zte,@zue,@zve,@zwe,@zie⟩
theorem zS {p:Prop} (h:p:=by simp only [↓wR,zV,simprocAttr,ae]<;>rfl):p:=h
theorem zX {p:Prop} (h:p:=by simp only [↓wR,zV,simprocAttr,ae];(refine ir.lax [] (by first|exact zB rfl|(simp [dm];omega)) ?_ ?_<;>repeat' first|exact dx.nil|exact bw.nil|exact eh.same _|exact eh.nil _ _ _|exact eh.k8 _ _|exact bw.refl _ _|apply dx.cons|apply bw.ghost|apply bw.same|apply bw.row)):p:=h
abbrev zE:Type:=Nat × Bool × (List AV->M AV)
abbrev zY (s:ba):=some (bp.row [zn s.owner,.sc (.int .u16 s.type.toNat),.sc (.int .u16 s.cls.toNat),.sc (.int .u32 s.i9.toNat),zd s.data] 0 2 63)
abbrev zZ (z:ay):=some (bp.row [zn z.origin,zs z.ak] 0 2 26)
end
end Go.Vm
end
section
namespace Go.Proofs.YtjagjbceegbaiaaGreat
open Go.Vm
noncomputable def Eu (t:UInt16) (l:List cq) (d:cq):Bool:=l.any fun x=>Bk t x d
theorem aHp (t:UInt16) (l:List cq) (d:cq) (hl:∀ x ∈ l,da x) (hn:l.length<=16777216) (hd:da d):wl PP [] 0 (Tryz.f119.body.getD .skip) (c9 PP Tryz.f119.results.toList (fun r st=>(r1 bk).get true st.h r=some (Eu t l d))) (cp 0 [cj.val false t,(cg bc).val false l,bc.val false d]) (bg []):=by
 unfold Tryz.f119;simp only [l5,iy];simp only [↓wR,zT,simprocAttr];refine ct (T:=[]) (ar.nil PP) mixed Tryz.func157 rfl zK zK zK zK ?_;unfold Tryz.f157;simp only [↓wR,zT,simprocAttr];refine ct (T:=[]) (ar.nil PP) mixed Tryz.func193 rfl zK zK zK zK ?_;unfold Tryz.f193;simp only [↓wR,zT,simprocAttr];refine dq [0,1,7,8] (fun (i:Nat)=>[zd l,.fn (.func 158) [] [.ptr 0 0,.ptr 1 0],zi l.length,zi i]) (fun _=>[some (.row [.sc (.int .u16 t.toNat)] 0 2 50),some (.row [zv d.names,zu d.nums,.vl false 1 (d.texts.map (ai.val false)),zw d.raw] 0 2 116)]) (fun i=>i<=l.length/\Eu t l d=Eu t (l.drop i) d) (fun i=>l.length - i) 0 ⟨zzb _,rfl⟩ zS zS ?_;rintro i ⟨hi,hx⟩;simp only [↓wR,zT,simprocAttr];rw [bh];refine ⟨fun h=>?_,fun h=>?_⟩
 ·obtain ⟨c,hc,aF,hlt⟩:=du (zp h);have hx':Eu t l d=(Bk t c d || Eu t (l.drop (i+1)) d):=by rw [hx,aF];rfl
  repeat (first|simp only [↓wR,zT,simprocAttr,h,hc]|simp (disch:=omega) only [zW])
  refine ct (T:=[az0]) (ar.cons (aq afi) (ar.nil PP)) mixed Tryz.func158 rfl zK zK zK zK ?_;unfold Tryz.f158;simp only [↓wR,zT,simprocAttr,F5,hl c (zm hc),hd];rw [cw];refine ⟨fun h1=>?_,fun h1=>?_⟩
  ·rw [h1,Bool.true_or] at hx';simp only [↓wR,zT,simprocAttr,h1];rw [hx']
   done
  ·rw [h1,Bool.false_or] at hx'
   repeat (first|simp only [↓wR,zT,simprocAttr,h1]|simp (disch:=omega) only [zW])
   exact ⟨i+1,⟨hlt,hx'⟩,zO,zF⟩
 ·rw [eu (zq h)] at hx;simp only [↓wR,zT,simprocAttr,h];rw [hx];rfl
def pq (l:List cq):Prop:=gu Ce l<=16777216
instance (l:List cq):Decidable (pq l):=inferInstanceAs (Decidable (_<=_))
theorem pq.mem {l:List cq} (h:pq l):∀ x ∈ l,da x:=fun x hx=>by have h1:Ce x<gu Ce l:=E8 hx;unfold pq at h;unfold da;omega
theorem pq.len {l:List cq} (h:pq l):l.length<=16777216:=zzu (D3 Ce l) h
theorem V8 {α:Type} (f : α->Nat) (l:List α) (i:Nat):gu f (l.take i)<=gu f l:=by
 induction l generalizing i with
 |nil=>simp
 |cons a l ih=>
  cases i with
  |zero=>exact zzb _
  |succ i=>have:=ih i;simp only [gu,List.take_succ_cons,List.foldr_cons] at this ⊢;omega
theorem pq.take {l:List cq} (h:pq l) (i:Nat):pq (l.take i):=zzu (V8 Ce l i) h
noncomputable def Zk (x:UInt16 × List cq × cq × Unit):Option AV:=if pq x.2.1/\da x.2.2.1 then some ((r1 bk).E true (Eu x.1 x.2.1 x.2.2.1)) else none
theorem awv (x:UInt16 × List cq × cq × Unit) (r:AV) (h:Zk x=some r):bj PP 119 ((aC cj (aC (cg bc) (aC bc a0))).E x) r:=by obtain ⟨hc,rfl⟩:=zI h;exact az (ar.nil PP) Tryz.func119 zK zK zK zL (r1 bk) true (Eu x.1 x.2.1 x.2.2.1) (aHp x.1 x.2.1 x.2.2.1 hc.1.mem hc.1.len hc.2)
noncomputable abbrev aJ8:zE:=(119,true,cx (aC cj (aC (cg bc) (aC bc a0))) Zk)
def n9 (s:ba):Nat:=cd s.owner+gu Ce s.data
def db (s:ba):Prop:=n9 s<=16777216
instance (s:ba):Decidable (db s):=inferInstanceAs (Decidable (_<=_))
theorem db.owner {s:ba} (h:db s):aw s.owner:=by unfold db n9 at h;unfold aw;omega
theorem db.data {s:ba} (h:db s):pq s.data:=by unfold db n9 at h;unfold pq;omega
noncomputable def r9 (t:UInt16):List cq->List cq->Int
 |_,[]=>0
 |pre,d::r=>if ek t d≠0 then ek t d else if Eu t pre d=true then 10 else r9 t (pre++[d]) r
noncomputable def mu (s:ba):Int:=
 if dk s.owner≠0 then dk s.owner else if s.data.length=0 then 9 else if 512<s.data.length then 3 else r9 s.type [] s.data
theorem Uy (t:UInt16) {l:List cq} {i:Nat} {c:cq} (hc:l[i]? = some c):r9 t (l.take i) (l.drop i)=if ek t c≠0 then ek t c else if Eu t (l.take i) c=true then 10 else r9 t (l.take (i+1)) (l.drop (i+1)):=by obtain ⟨hi,rfl⟩:=zg.1 hc;rw [zzs hi,r9,zz5 hi]
theorem anu (s:ba) (hs:db s):wl PP [gb,Rh,aJ8] 0 (Tryz.f138.body.getD .skip) (c9 PP Tryz.f138.results.toList (fun r st=>(r1 (bb .i64)).get true st.h r=some (mu s))) (cp 0 [ag.val false s]) (bg []):=by
 have ho:=hs.owner;have hd:=hs.data;have hn:=hd.len;unfold Tryz.f138;simp only [jz];simp only [↓wR,zT,simprocAttr,sh,ho.fit];unfold mu;rw [cw];refine ⟨fun h=>?_,fun h=>?_⟩
 ·have he:dk s.owner≠0:=by simpa using h
  rw [if_pos he];simp only [↓wR,zT,simprocAttr,h]
 have he:dk s.owner=0:=by simpa using h
 rw [if_neg zO];simp only [↓wR,zT,simprocAttr,h];rw [cf];refine ⟨fun ⟨h1,e1⟩=>?_,fun ⟨h1,e1⟩=>?_⟩
 ·rw [if_pos zO];simp only [↓wR,zT,simprocAttr,h1]
 rw [if_neg zO];simp only [↓wR,zT,simprocAttr,h1];rw [bh];refine ⟨fun h2=>?_,fun h2=>?_⟩
 ·rw [if_pos zO];simp only [↓wR,zT,simprocAttr,h2]
 rw [if_neg zO];simp only [↓wR,zT,simprocAttr,h2];refine dq [1,24,25,26] (fun (i:Nat)=>[.ptr 0 0,zd s.data,zi s.data.length,zi i]) (fun _=>[some (.row [.vl false 1 (s.owner.map (ai.val false)),.sc (.int .u16 s.type.toNat),.sc (.int .u16 s.cls.toNat),.sc (.int .u32 s.i9.toNat),zd s.data] 0 2 63)]) (fun i=>i<=s.data.length/\r9 s.type [] s.data=r9 s.type (s.data.take i) (s.data.drop i)) (fun i=>s.data.length - i) 0 ⟨zzb _,rfl⟩ zS zS ?_;rintro i ⟨hi,hx⟩;simp only [↓wR,zT,simprocAttr];rw [bh];refine ⟨fun h3=>?_,fun h3=>?_⟩
 ·obtain ⟨c,hc,aF,hlt⟩:=du (zp h3);rw [Uy _ hc] at hx;have hcs:=hd.mem c (zm hc);simp only [↓wR,zT,simprocAttr,h3,hc,ux,hcs];rw [cw];refine ⟨fun h4=>?_,fun h4=>?_⟩
  ·have nR:ek s.type c≠0:=by simpa using h4
   rw [if_pos nR] at hx;simp only [↓wR,zT,simprocAttr,h4];rw [hx]
  ·have nR:ek s.type c=0:=by simpa using h4
   rw [if_neg zO] at hx;simp only [↓wR,zT,simprocAttr,h4];refine ⟨zK,.inl ?_⟩;simp only [↓wR,zT,simprocAttr,hi,Zk,hd.take i,hcs];refine ⟨zK,?_⟩;rw [cw];refine ⟨fun h5=>?_,fun h5=>?_⟩
   ·rw [if_pos h5] at hx;simp only [↓wR,zT,simprocAttr,h5];rw [hx]
   ·rw [if_neg (by rw [h5];decide)] at hx
    repeat (first|simp only [↓wR,zT,simprocAttr,h5]|simp (disch:=omega) only [zW])
    exact ⟨i+1,⟨hlt,hx⟩,zO,zF⟩
 ·rw [eu (zq h3)] at hx;simp only [↓wR,zT,simprocAttr,h3];rw [hx];rfl
noncomputable def B8 (x:ba × Unit):Option AV:=if db x.1 then some ((r1 (bb .i64)).E true (mu x.1)) else none
theorem Om (x:ba × Unit) (r:AV) (h:B8 x=some r):bj PP 138 ((aC ag a0).E x) r:=by obtain ⟨hc,rfl⟩:=zI h;exact az (ar.cons (aq sx) (ar.cons (aq E4) (ar.cons (aq awv) (ar.nil PP)))) Tryz.func138 zK zK zK zL (r1 (bb .i64)) true (mu x.1) (anu x.1 hc)
noncomputable abbrev i7:zE:=(138,true,cx (aC ag a0) B8)
theorem aih {S:Nat->Prop} {M b0:Nat} {K:Nat->Nat->Prop} {w:World} {l:List ByteArray} {v:Value} (hS:∀ b,b0<=b->(∀ j,K b j)->S b) (hM:∀ s ∈ l,s.size<=M) (hr:Rel (gK b0 K) w (.vl true 1 (l.map (ai.val true))) v):qh S M w .str v:=by
 refine ab3 (l:=true) ai rfl rfl rfl (by decide) (fun x hx c hc s e=>?_) (fun x hx c hc=>?_) hS hr
 ·have hc':c ∈ [AV.sc (.string x)]:=hc;rw [zz0] at hc';rw [hc'] at e;cases e;exact hM _ hx
 ·have hc':c ∈ [AV.sc (.string x)]:=hc;rw [zz0] at hc';exact ⟨_,hc'⟩
theorem aB3 {S:Nat->Prop} {M b0:Nat} {K:Nat->Nat->Prop} {w:World} {l:List UInt32} {v:Value} (hS:∀ b,b0<=b->(∀ j,K b j)->S b) (hr:Rel (gK b0 K) w (.vl true 1 (l.map (cz.val true))) v):qh S M w (.int .u32) v:=by
 refine ab3 (l:=true) cz rfl rfl rfl (by decide) (fun x hx c hc s e=>?_) (fun x hx c hc=>?_) hS hr
 ·have hc':c ∈ [AV.sc (.int .u32 x.toNat)]:=hc;rw [zz0] at hc';rw [hc'] at e;cases e
 ·have hc':c ∈ [AV.sc (.int .u32 x.toNat)]:=hc;rw [zz0] at hc';exact ⟨_,hc'⟩
theorem aFv {S:Nat->Prop} {M b0:Nat} {K:Nat->Nat->Prop} {w:World} {l:List UInt8} {v:Value} (hS:∀ b,b0<=b->(∀ j,K b j)->S b) (hr:Rel (gK b0 K) w (.vl true 1 (l.map (ca.val true))) v):qh S M w (.int .u8) v:=by
 refine ab3 (l:=true) ca rfl rfl rfl (by decide) (fun x hx c hc s e=>?_) (fun x hx c hc=>?_) hS hr
 ·have hc':c ∈ [AV.sc (.int .u8 x.toNat)]:=hc;rw [zz0] at hc';rw [hc'] at e;cases e
 ·have hc':c ∈ [AV.sc (.int .u8 x.toNat)]:=hc;rw [zz0] at hc';exact ⟨_,hc'⟩
theorem size_le (n:Name):∀ s ∈ n,s.size<=cd n:=by intro s hs;obtain ⟨i,hi,rfl⟩:=List.getElem_of_mem hs;have h1:=Gu n i _ (zh hi);have h2:=(ju n (i+1)).1;omega
theorem aej {S:Nat->Prop} {b0:Nat} {K:Nat->Nat->Prop} {w:World} {n:Name} {v:Value} (hS:∀ b,b0<=b->(∀ j,K b j)->S b) (hn:aw n) (hr:Rel (gK b0 K) w (.vl true 1 (n.map (ai.val true))) v):qh S 16777216 w .str v:=
 aih hS (fun s hs=>by have:=size_le n s hs;unfold aw at hn;omega) hr
theorem aEf {S:Nat->Prop} {b0:Nat} {K:Nat->Nat->Prop} {w:World} {d:cq} {vs:List Value} (hS:∀ b,b0<=b->(∀ j,K b j)->S b) (hd:da d) (hr:cb (gK b0 K) w (bc.cells true d) vs):So S 16777216 16777216 w vs:=by
 have h4:vs.length=4:=hr.1
 match vs,h4,hr with
 | [a,b,c,e],_,hr=>
  have ha:Rel (gK b0 K) w (.vl true 1 (d.names.map (aj.val true))) a:=hr.2 0 _ _ rfl rfl;have hb:Rel (gK b0 K) w (.vl true 1 (d.nums.map (cz.val true))) b:=hr.2 1 _ _ rfl rfl;have hc:Rel (gK b0 K) w (.vl true 1 (d.texts.map (ai.val true))) c:=hr.2 2 _ _ rfl rfl;have he:Rel (gK b0 K) w (.vl true 1 (d.raw.map (ca.val true))) e:=hr.2 3 _ _ rfl rfl;refine ⟨a,b,c,e,rfl,aao (l:=true) aj rfl hd.lens.1 (fun n hn us iN=>?_) hS ha,aB3 hS hb,aih hS (fun s hs=>hd.text s hs) hc,aFv hS he⟩;have h1:us.length=1:=iN.1
  match us,h1,iN with
  | [u],_,iN=>exact ⟨u,rfl,aej hS (hd.name n hn) iN.head⟩
theorem aH2 {S:Nat->Prop} {b0:Nat} {K:Nat->Nat->Prop} {w:World} {s:ba} {vs:List Value} (hS:∀ b,b0<=b->(∀ j,K b j)->S b) (hs:db s) (hr:cb (gK b0 K) w (ag.cells true s) vs):Ea S 16777216 16777216 16777216 w vs:=by
 have h5:vs.length=5:=hr.1
 match vs,h5,hr with
 | [o,t,c,u,d],_,hr=>
  have ho:Rel (gK b0 K) w (.vl true 1 (s.owner.map (ai.val true))) o:=hr.2 0 _ _ rfl rfl;have ht:Rel (gK b0 K) w (.sc (.int .u16 s.type.toNat)) t:=hr.2 1 _ _ rfl rfl;have hc:Rel (gK b0 K) w (.sc (.int .u16 s.cls.toNat)) c:=hr.2 2 _ _ rfl rfl;have hu:Rel (gK b0 K) w (.sc (.int .u32 s.i9.toNat)) u:=hr.2 3 _ _ rfl rfl;have hd:Rel (gK b0 K) w (.vl true 4 (s.data.map (bc.val true))) d:=hr.2 4 _ _ rfl rfl;refine ⟨o,t,c,u,d,rfl,aej hS hs.owner ho,by rw [ht.exact rfl];rfl,by rw [hc.exact rfl];rfl,by rw [hu.exact rfl];rfl,aao (l:=true) bc rfl (hs.data.len) (fun x hx us iN=>aEf hS (hs.data.mem x hx) iN) hS hd⟩
theorem abq {S:Nat->Prop} {N b0:Nat} {K:Nat->Nat->Prop} {w:World} {l:List ba} {v:Value} (hS:∀ b,b0<=b->(∀ j,K b j)->S b) (hl:∀ s ∈ l,db s) (hN:l.length<=N) (hr:Rel (gK b0 K) w (.vl true 5 (l.map (ag.val true))) v):mc S N w 5 (Ea S 16777216 16777216 16777216) v:=
 aao (l:=true) ag rfl hN (fun s hs us iN=>aH2 hS (hl s hs) iN) hS hr
end Go.Proofs.YtjagjbceegbaiaaGreat
end
namespace Go.Vm
variable [TK]
noncomputable section
def SW (P:Program) (nt:NT) (c:Code) (Q:QL) (L:SL) (st:St):Prop:=
 ∀ (N:Nat) (B:fi) (g:Gh) (a:Act) (w:World),B.k6->B.be=0->B.n0<=B.w.heap.size->gj B nt L st g a w->c.wpIn (fu none) N P (Fin B nt Q) a w
def xi (keep:List Nat) (V:List AV) (O:List (Option bp)):QL:=fun e L st=>
 match e with
 |.normal=>jc 0 keep L st=V/\gh 0 keep L st=O
 |_=>False
theorem fw {keep V O L st}:xi keep V O .normal L st=(jc 0 keep L st=V/\gh 0 keep L st=O):=rfl
variable {P : Program} [KP P] {nt : NT} {Q : QL} {L : SL} {st : St}
theorem Zp {T:fc} (hT:ar P T) (hm:P.follows .mixedOrders=true) {c:Code} (hs:ey nt c=true) (h:wl P T 0 c Q L st):SW P nt c Q L st:=by intro N B g a w aG hp aN hh;refine wpIn_mono (piece hT hm (N:=N) aG zO aN hs (by rw [hp];exact h) hh) ?_;rintro ex a' w' ⟨e,L',st',g',rfl,hq,bT,_⟩;exact ⟨e,L',st',g',rfl,hq,bT.cur,bT.sl,bT.Cc⟩
theorem K9 {c:Code} {Q':QL} (hq:∀ e L st,Q e L st->Q' e L st) (h:SW P nt c Q L st):SW P nt c Q' L st:=by intro N B g a w aG hp aN hh;refine wpIn_mono (h N B g a w aG hp aN hh) ?_;rintro ex a' w' ⟨e,L',st',g',rfl,h0,h1,h2,h3⟩;exact ⟨e,L',st',g',rfl,hq _ _ _ h0,h1,h2,h3⟩
theorem Rs {x y:Code} (h:SW P nt x (Kw (SW P nt y) Q) L st):SW P nt (.seq x y) Q L st:=by
 intro N B g a w aG hp aN hh;refine wpIn_seq (wpIn_mono (h N B g a w aG hp aN hh) ?_);rintro ex a' w' ⟨e,L',st',g',rfl,hq,h1,h2,h3⟩;cases e with
 |normal=>exact hq N B g' a' w' aG hp aN ⟨h1,h2,h3⟩
 |ret=>exact ⟨.ret,L',st',g',rfl,hq,h1,h2,h3⟩
 |exit id=>exact ⟨.exit id,L',st',g',rfl,hq,h1,h2,h3⟩
theorem aix {id:Nat} {c:Code} (h:SW P nt c (Oe id Q) L st):SW P nt (.block id c) Q L st:=by
 intro N B g a w aG hp aN hh;refine wpIn_block (wpIn_mono (h N B g a w aG hp aN hh) ?_);rintro ex a' w' ⟨e,L',st',g',rfl,hq,h1,h2,h3⟩;cases e with
 |normal=>exact ⟨.normal,L',st',g',rfl,hq,h1,h2,h3⟩
 |ret=>exact ⟨.ret,L',st',g',rfl,hq,h1,h2,h3⟩
 |exit j=>
  simp only [Oe] at hq;by_cases e:j=id
  ·subst e;simp only [Nat.beq_refl,cond_true] at hq;simp only [uo,Exit.inBlock,if_true];exact ⟨.normal,L',st',g',rfl,hq,h1,h2,h3⟩
  ·rw [sd e,cond_false] at hq;simp only [uo,Exit.inBlock,if_neg e];exact ⟨.exit j,L',st',g',rfl,hq,h1,h2,h3⟩
theorem Mg {c:Code} (keep:List Nat) (V:List AV) (O:List (Option bp)) (hv:ir 0 (jc 0 keep L st) (gh 0 keep L st) V O) (h:SW P nt c Q (jn keep V) (bg O)):SW P nt c Q L st:=by intro N B g a w aG hp aN hh;obtain ⟨V',O',g1,⟨rfl,rfl⟩,k1,k2,k3,_⟩:=Sy (X:=fun vs os=>vs=V/\os=O) aG zO keep (by rw [hp];exact ⟨_,_,hv,rfl,rfl⟩) hh.cur hh.sl;exact h N B g1 a w aG hp aN ⟨k1,k2,k3 _ _ _ (Ff zO keep hh.Cc)⟩
theorem B5 {T:fc} (hT:ar P T) (hm:P.follows .mixedOrders=true) {x y:Code} (keep:List Nat) (V:List AV) (O:List (Option bp)) (hs:ey nt x=true) (h:wl P T 0 x (xi keep V O) L st) (k:SW P nt y Q (jn keep V) (bg O)):SW P nt (.seq x y) Q L st:=by
 refine Rs (K9 ?_ (Zp hT hm hs h));intro e L' st' hq;cases e with
 |normal=>exact Mg keep V O (by rw [hq.1,hq.2];exact ir.refl _ _ _) k
 |ret=>exact hq.elim
 |exit id=>exact hq.elim
theorem axc {T:fc} (hT:ar P T) (hm:P.follows .mixedOrders=true) {x:Code} (keep:List Nat) (V:List AV) (O:List (Option bp)) (hs:ey nt x=true) (h:wl P T 0 x (xi keep V O) L st) (k:∀ L st,jc 0 keep L st=V->gh 0 keep L st=O->Q .normal L st):SW P nt x Q L st:=by
 refine K9 ?_ (Zp hT hm hs h);intro e L' st' hq;cases e with
 |normal=>exact k L' st' hq.1 hq.2
 |ret=>exact hq.elim
 |exit id=>exact hq.elim
theorem aFl {c:Code} {α:Type} (keep:List Nat) (V : α->List AV) (O : α->List (Option bp)) (I : α->Prop) (μ : α->Nat) (x : α) (hx:I x)
 (hv:ir 0 (jc 0 keep L st) (gh 0 keep L st) (V x) (O x))
 (step:∀ x,I x->SW P nt c (As 0 keep (fun vs os=>∃ y,I y /\ μ y < μ x/\vs=V y/\os=O y) Q) (jn keep (V x)) (bg (O x))):SW P nt (.loop c) Q L st:=by
 refine Mg keep (V x) (O x) hv ?_;intro N B g a w aG hp aN hh;refine asm (fun x a w=>I x/\∃ g,gj B nt (jn keep (V x)) (bg (O x)) g a w) μ ?_ x a w ⟨hx,g,hh⟩;rintro x a w ⟨hi,g,hh⟩;refine wpIn_mono (step x hi N B g a w aG hp aN hh) ?_;rintro ex a' w' ⟨e,L',st',g',rfl,hq,h1,h2,h3⟩;cases e with
 |normal=>
  obtain ⟨y,hy,hlt,e1,e2⟩:=hq;have hc:=gj.canon aG zO keep (⟨h1,h2,h3⟩:gj B nt L' st' g' a' w');rw [hp,e1,e2] at hc;exact ⟨y,hlt,hy,_,hc⟩
 |ret=>exact ⟨.ret,L',st',g',rfl,hq,h1,h2,h3⟩
 |exit id=>exact ⟨.exit id,L',st',g',rfl,hq,h1,h2,h3⟩
def ati (k:Nat) (keep:List Nat) (V:List AV) (O:List (Option bp)):QL:=fun e L st=>
 match e with
 |.exit j=>j=k/\jc 0 keep L st=V/\gh 0 keep L st=O
 |_=>False
theorem aFt {k keep V O L st j}:ati k keep V O (.exit j) L st=(j=k/\jc 0 keep L st=V/\gh 0 keep L st=O):=rfl
theorem ayj {T:fc} (hT:ar P T) (hm:P.follows .mixedOrders=true) (n:Nat) {c:Code} (hsp:Ps (n+1) c=true) (hs:ey nt c=true) (h:wl P T 0 (mz (n+1) c) (Kw (SW P nt (fm (n+1) c)) Q) L st):SW P nt c Q L st:=by
 intro N B g a w aG hp aN hh;refine wk hT hm (N:=N) aG zO aN n c hsp hs (X:=Fin B nt Q) (Q:=Kw (SW P nt (fm (n+1) c)) Q) ?_ L st g a w (by rw [hp];exact h) hh;intro e L' st' g' a' w' hq bT;cases e with
 |normal=>exact hq N B g' a' w' aG hp aN bT
 |ret=>exact ⟨.ret,L',st',g',rfl,hq,bT.cur,bT.sl,bT.Cc⟩
 |exit id=>exact ⟨.exit id,L',st',g',rfl,hq,bT.cur,bT.sl,bT.Cc⟩
theorem abf {f:Nat} {fn:Func} {body:Code} (hf:P.funcs[f]? = some fn) (hb:fn.body=some body) (he:oi P f=true) {args:List AV} (hl:args.length<=fn.ntmps) {ρ:Type} (R:RC ρ) (fr:Bool) (x : ρ)
 (h:SW P fn.ntmps body (c9 P fn.results.toList (fun r st=>R.get fr st.h r=some x)) (cp 0 args) (bg [])):bj P f args (R.E fr x):=
 Bt hf hb he hl R fr x (fun B g a w aG hp _ aN hh=>h 0 B g a w aG hp aN hh)
end
variable [TK]
noncomputable section
def zb (P:Program) (N:Nat) (ops:Array Oper) (l:List Oper) (X:Exit->Act->World->Prop) (a:Act) (w:World):Prop:=
 ∀ is:List Nat,is.map (fun i=>ops[i]?)=l.map some->wpOpsIn (fu none) N P ops X is a w
theorem Fm {P:Program} {N id:Nat} {ops:Array Oper} {X:Exit->Act->World->Prop} {a:Act} {w:World} (h:zb P N ops ops.toList X a w):(Code.region id ops false).wpIn (fu none) N P X a w:=
 wpIn_region (h (List.range ops.size) (Jg ops))
theorem akt {P:Program} [KP P] {T:fc} (hT:ar P T) {B:fi} {nt:NT} (aG:B.k6) {N:Nat} {ops:Array Oper} {l:List Oper} {K:SL->St->Prop} {X:Exit->Act->World->Prop} {L st g a w} (hg:mq nt ops=true) (hd:ri nt ops=true) (hm:∀ o ∈ l,o ∈ ops)
 (h:opsL P T ops l K L st) (hh:gj B nt L st g a w) (hK:∀ L st g a w,K L st->gj B nt L st g a w->X .normal a w):zb P N ops l X a w:=fun is aI=>
 aqs hT aG hg hd (fun L st g w a hk hc hr hm=>hK L st g a w hk ⟨hc,hr,hm⟩) l is hm aI L st g w a h hh.cur hh.sl hh.Cc
theorem adg {o:Oper} {f:Nat} {d:Option Nat} {args:List Nat} (h:Ga o=some (d,f,args)):∃ ts pos af ty,o=⟨d,.call { callee:=.value (.func f),args:=(args.map Operand.tmp).toArray,argTypes:=ts },ty,pos,af,none⟩:=by
 obtain ⟨dst,op,ty,pos,af,gd⟩:=o;unfold Ga at h
 split at h
 ·rename_i f' aa ats h1 h2;simp only [zzk,Prod.mk.injEq] at h;obtain ⟨ts,h3,rfl,rfl,rfl⟩:=h;subst h1 h2;refine ⟨ats,pos,af,ty,?_⟩;rw [<- aaw h3]
 ·cases h
theorem axf {P:Program} [KP P] {T:fc} (hT:ar P T) {B:fi} {nt:NT} (aG:B.k6) {N:Nat} {ops:Array Oper} {l1 l2:List Oper} {o:Oper} {K:SL->St->Prop} {X:Exit->Act->World->Prop} {L st g a w} (hg:mq nt ops=true) (hd:ri nt ops=true) (hm:∀ o ∈ l1,o ∈ ops) (kY:o ∈ ops)
 {f:Nat} {args:List Nat} {d:Option Nat} (hl:Ga o=some (d,f,args)) (he:oi P f=true)
 (h:opsL P T ops l1 K L st) (hh:gj B nt L st g a w)
 (hK:∀ L' st' g' a' w',K L' st'->gj B nt L' st' g' a' w'->Calls P f (args.map fun t=>a'.tmps.getD t undef).toArray w' (fun e w''=>∃ r,e = .returned r/\∀ a'',a''.defers=a'.defers->a''.tmps.size=a'.tmps.size->(∀ t,d≠some t->a''.tmps.getD t undef=a'.tmps.getD t undef)->(∀ dd,d=some dd->a''.tmps.getD dd undef=r)->zb P N ops l2 X a'' w'')) :
 zb P N ops (l1++o::l2) X a w:=by
 obtain ⟨ts,pos,af,ty,rfl⟩:=adg hl;have key:∀ (l:List Oper) (is:List Nat),(∀ o ∈ l,o ∈ ops)->is.map (fun i=>ops[i]?)=(l++(⟨d,.call { callee:=.value (.func f),args:=(args.map Operand.tmp).toArray,argTypes:=ts },ty,pos,af,none⟩:Oper)::l2).map some->∀ L st g a w,opsL P T ops l K L st->gj B nt L st g a w->wpOpsIn (fu none) N P ops X is a w:=by
  intro l
  induction l with
  |nil=>
   intro is _ aI L st g a w h hh;rw [List.nil_append] at aI
   match is,aI with
   |i::is,aI=>
    simp only [List.map_cons,List.cons.injEq] at aI;obtain ⟨hi,aI⟩:=aI;have hK':=hK L st g a w h hh;simp only [wpOpsIn,hi];have hw:Region.wanted (⟨d,.call { callee:=.value (.func f),args:=(args.map Operand.tmp).toArray,argTypes:=ts },ty,pos,af,none⟩:Oper) (yielded ops a.tmps)=true:=by simp [Region.wanted]
    rw [hw,if_pos rfl];refine ⟨ka none P _ a w,?_⟩;rw [Oper.semAt_eq _ _ _ (by intro c e;cases e)];have hrun:(execOp a.eval (⟨d,.call { callee:=.value (.func f),args:=(args.map Operand.tmp).toArray,argTypes:=ts },ty,pos,af,none⟩:Oper)).run P w=(callFunc f (args.map fun t=>a.tmps.getD t undef).toArray).run P w:=by
     rw [D6 (h:=f) (first:=#[]) (captured:=#[]) (f:=.func f) rfl rfl]
     congr 2
     apply Array.ext';simp [Act.eval]
    rw [hrun,si he];refine ⟨(fun h=>(by cases h)),(qg (ro:=none) (n:=N - 1) hK').mono ?_⟩;rintro e w' ⟨r,rfl,hX⟩;have hdd:=fun dd (e:d=some dd)=>lu hd kY dd e
    show wpOpsIn (fu none) N P ops X is (a.put d r) w';refine hX _ (put_defers _ _ _) ?_ (fun t ht=>?_) (fun dd e=>?_) is aI
    ·cases d with
     |none=>rfl
     |some dd=>show (a.tmps.setIfInBounds dd r).size=_;simp
    ·cases d with
     |none=>rfl
     |some dd=>
      have hne:dd≠t:=fun e=>ht (by rw [e])
      show (a.tmps.setIfInBounds dd r).getD t undef=a.tmps.getD t undef;rw [zze,zzz,if_neg hne,zze]
    ·subst e;have:=(NT.I7 (hdd dd rfl)).1;show (a.tmps.setIfInBounds dd r).getD dd undef=r;rw [zze,zzz,if_pos rfl,if_pos (by rw [hh.sl.1.size];exact this)];rfl
   | [],aI=>cases aI
  |cons o l ih=>
   intro is hmem aI L st g a w h hh;obtain ⟨hc,hr,bL⟩:=hh;cases is with
   |nil=>cases aI
   |cons i is=>
    simp only [List.cons_append,List.map_cons,List.cons.injEq] at aI;obtain ⟨hi,aI⟩:=aI;have ho:=hmem o (by simp);simp only [wpOpsIn,hi];rcases wz hr (zy hg ho) h with ⟨hw,h1⟩|⟨hw,h1⟩
    ·rw [hw,if_pos rfl];unfold Nj Dj at h1;cases hop:gw P T o (dv L) st with
     |none=>
      rw [hop] at h1;refine H9 hc.ok (fun o ho=>hc.fresh o ho (aG o)) hr.eval h1 none N _ _ ?_;rintro u w' ⟨g',v,st',q0,q1,q2,q3,q4⟩;exact ih is (fun o ho=>hmem o (by simp [ho])) aI _ st' g' _ w' q0 ⟨hc.step (aG.tu _ _) ⟨q1,q2⟩ q3,(hr.ext q2.ext).put q4 (lu hd ho),by rw [put_defers];exact bL.step q2⟩
     |some p=>
      obtain ⟨v,st'⟩:=p;rw [hop] at h1;refine D4 hT hc.ok (hc.free (aG.tu _ _)) hr.eval hop none N _ _ ?_;rintro u w' ⟨g',q1,q2,q3⟩;exact ih is (fun o ho=>hmem o (by simp [ho])) aI _ st' g' _ w' h1 ⟨hc.step (aG.tu _ _) ⟨Ac hop,q1⟩ q2,(hr.ext q1.ext).put q3 (lu hd ho),by rw [put_defers];exact bL.step q1⟩
    ·rw [hw,if_neg (by simp)];refine ⟨ka none P o a w,?_⟩;exact ih is (fun o ho=>hmem o (by simp [ho])) aI _ st g _ w h1 ⟨hc,hr.put (.sc _) (lu hd ho),by rw [put_defers];exact bL⟩
 intro is aI;exact key l1 is hm aI L st g a w h hh
theorem aG5 {b0:Nat} {K:Nat->Nat->Prop} {w:World} (hb:b0<=w.heap.size) (hK:∀ b j,K b j->b<w.heap.size):Ok (gK b0 K) .nil w:=
 ⟨hb,fun o x hx=>(by rw [Tr.get_nil] at hx;cases hx),fun o o' x x' b base base' _ hx=>(by rw [Tr.get_nil] at hx;cases hx),hK⟩
theorem cb.aHs {b0:Nat} {K K':Nat->Nat->Prop} {w:World} {l:List AV} {vs:List Value} (h:cb (gK b0 K) w l vs) (hf:∀ a ∈ l,a.fresh=true) (lD:∀ b j,K b j->b0<=b->K' b j):cb (gK b0 K') w l vs:=
 ⟨h.1,fun i a v ha hv=>(h.2 i a v ha hv).fresh (g:=gK b0 K') (hf a (zm ha)) (zza _) lD⟩
theorem avt {α:Type} (C:dp α) {b0 b1:Nat} {K K':Nat->Nat->Prop} {w:World} {x : α} {vs:List Value} (hb:b0<=w.heap.size) (hK:∀ b j,K' b j->b<w.heap.size) (lD:∀ b j,K b j->b0<=b->K' b j) (hr:cb (gK b0 K) w (C.cells true x) vs):cb (gK b1 K') w (C.cells false x) vs:=
 C.ok (fr:=false) (aG5 hb hK) (yv.nil _ _ (fun _ _ h=>h)) (fun e=>by cases e) (hr.aHs (C.fr x) lD) (C.rt false .nil true x (fun e=>by cases e))
theorem at9 {g:Gh} {w:World} {b:Nat} {cs:Array Value} {e:TypeId} {fr:Nat × Nat} {cells:List AV} (h:w.heap[b]? = some (.cells cs e fr)) (hK:∀ j,g.K b j) (hr:cb g w cells cs.toList):Rel g w (.fe cells) (.pointer (some ⟨b,0,none⟩)):=by
 have hlen:cs.size=cells.length:=by rw [<- hr.1];simp
 refine .fe _ b 0 (fun j=>cs.getD j undef) (fun j a ha=>⟨hK _,?_⟩) (fun j a ha=>?_)
 ·rw [Nat.zero_add];exact cell_of h (by have:=(zg.1 ha).1;omega)
 ·have hj:=(zg.1 ha).1;refine hr.2 j a _ ha ?_;rw [zz2,zze,zz3 zO];rfl
theorem gj.aHd {B:fi} {nt L st g a w} (hh:gj B nt L st g a w) {α:Type} (C:dp α) {t o k:Nat} {x : α} {et:TypeId} (hl:lk L t = .ptr o 0) (ho:st.h.get o=some (.row (C.cells true x) k 2 et)) {b1:Nat} {K':Nat->Nat->Prop} (hb:B.b0<=w.heap.size) (hK:∀ b j,K' b j->b<w.heap.size) (lD:∀ b j,B.b0<=b->b<w.heap.size->K' b j) :
 Rel (gK b1 K') w (.fe (C.cells false x)) (a.tmps.getD t undef):=by
 obtain ⟨b,cs,e1,e2,e3,e4⟩:=hh.box hl ho;rw [e1];exact at9 e3 (fun j=>lD b j e2 (cr e3)) (avt C hb hK (fun b j h1 h2=>lD b j h2 h1) (hh.aC2 C e4))
theorem cb.aro {b0 b1:Nat} {K K':Nat->Nat->Prop} {w w':World} {l:List AV} {vs:List Value} (hb0:∀ b,b0<=b->(∀ j,K b j)->b1<=b) (hK:∀ b j,K b j->K' b j) (hh:∀ b j,K b j->w'.heap[b]? = w.heap[b]?) (h:cb (gK b0 K) w l vs):cb (gK b1 K') w' l vs:=
 ⟨h.1,fun i a v ha hv=>(h.2 i a v ha hv).stay hb0 hK hh⟩
theorem cb.aJv {S:Nat->Prop} {w1 D ds w} {K':Nat->Nat->Prop} (h:rn S w1 D ds w) (hS:∀ b,b<w1.heap.size->¬ S b) (hK:∀ b j,b<w1.heap.size->K' b j) {l:List AV} {vs:List Value} (hr:cb (gK w1.heap.size (vj w1)) w1 l vs):cb (gK w.heap.size K') w l vs:=
 hr.aro (K:=vj w1) (fun b h1 h2=>absurd (h2 0) (Nat.not_lt.2 h1)) (fun b j hk=>hK b j hk) (fun b _ (hk:b<w1.heap.size)=>h.low b hk (hS b hk))
theorem cb.win {S:Nat->Prop} {w3 D ds w4} {K':Nat->Nat->Prop} (h:rn S w3 D ds w4) (hK:∀ b j,K' b j->b<w3.heap.size/\¬ S b) {l:List AV} {vs:List Value} (hr:cb (gK w3.heap.size K') w3 l vs):cb (gK w4.heap.size (vj w4)) w4 l vs:=
 hr.aro (K:=K') (fun b h1 h2=>absurd (hK b 0 (h2 0)).1 (Nat.not_lt.2 h1)) (fun b j hk=>zyc (hK b j hk).1 h.size) (fun b j hk=>h.low b (hK b j hk).1 (hK b j hk).2)
theorem aB6 {P:Program} [KP P] {o:Oper} {a:Act} {g:Gh} {st st':St} {w:World} {ρ:Operand->AV} {r:AV} (aB:Ok g st.h w) (hf:od g st st') (hr:oc g w ρ a.eval) (h:mono (Dz P o ρ) st=some (r,st')) {v0:Value}
 (hx:∀ nx w',(execOp a.eval o).run P w = .ok nx w'->nx = .value v0) :
 Gt P o a w (fun v w'=>v=v0/\∃ g',Step g st.h w st.nx st'.nx g' st'.h w'/\Ok g' st'.h w'/\Rel g' w' r v):=by
 obtain ⟨h1,hle⟩:=u4 h;have hd:∀ c,o.op ≠ .defer c:=by intro c e;unfold Dz at h1;rw [e] at h1;cases h1
 obtain ⟨nx,w',g',q1,q2,q3,q4⟩:=ag7 (P:=P) aB hf hr h1;have e0:=hx nx w' q1;subst e0;intro ro N K Q hK;refine ⟨ka ro P o a w,?_⟩;rw [Oper.semAt_eq _ _ _ hd,q1];rcases q4 with ⟨v,e,hv⟩|⟨e,_⟩
 ·cases e;exact hK v0 w' ⟨rfl,g',q2,q3,hv⟩
 ·cases e
theorem wq {P:Program} [KP P] {T:fc} (hT:ar P T) {B:fi} {nt:NT} (aG:B.k6) {N:Nat} {ops:Array Oper} {l2:List Oper} {o:Oper} {X:Exit->Act->World->Prop} {L st g a w} (hg:mq nt ops=true) (hd:ri nt ops=true) (kY:o ∈ ops) (hgd:o.guard=none)
 {r:AV} {st':St} (h:mono (Dz P o (dv L)) st=some (r,st')) (hh:gj B nt L st g a w) {v0:Value} (hx:∀ nx w',(execOp a.eval o).run P w = .ok nx w'->nx = .value v0)
 (hK:∀ g' w',gj B nt (kn o.dst r L) st' g' (a.put o.dst v0) w'->zb P N ops l2 X (a.put o.dst v0) w'):zb P N ops (o::l2) X a w:=by
 intro is aI;obtain ⟨hc,hr,bL⟩:=hh;cases is with
 |nil=>cases aI
 |cons i is=>
  simp only [List.map_cons,List.cons.injEq] at aI;obtain ⟨hi,aI⟩:=aI;simp only [wpOpsIn,hi];have hw:Region.wanted o (yielded ops a.tmps)=true:=by simp [Region.wanted,hgd]
  rw [hw,if_pos rfl];refine aB6 hc.ok (hc.free (aG.tu _ _)) hr.eval h hx none N _ _ ?_;rintro u w' ⟨rfl,g',q1,q2,q3⟩;exact hK g' w' ⟨hc.step (aG.tu _ _) ⟨(u4 h).2,q1⟩ q2,(hr.ext q1.ext).put q3 (lu hd kY),by rw [put_defers];exact bL.step q1⟩ is aI
theorem aA3 {P:Program} {g:Gh} {st st':St} {w:World} {t:TypeId} {l c r:AV} {lv cv:Value} (hl:Rel g w l lv) (hc:Rel g w c cv) (h:o8 P t l c st=some (r,st')) {n m:Int} (hn:wm l=some n) (hm:wm c=some m) {x:Value} {w2:World}
 (hx:(Instr.makeSlice t lv cv).run P w = .ok x w2):x = .slice (some ⟨w.heap.size,0,none⟩) n.toNat m.toNat:=by
 unfold o8 at h;cases he:qp P t with
 |none=>simp [he,M.fail] at h
 |some e=>
 cases hsz:dw P e with
 |none=>simp [he,hn,hm,hsz,M.fail] at h
 |some sz=>
 cases hz:gk P e with
 |none=>simp [he,hn,hm,hsz,hz,M.fail] at h
 |some z=>
 cases hby:lj P e with
 |none=>simp [he,hn,hm,hsz,hz,hby,M.fail] at h
 |some bytes=>
 simp only [he,hn,hm,hsz,hz,hby] at h;rcases c7 h with ⟨hcc,h2⟩|⟨_,h2⟩
 case inr=>cases h2
 simp only [zzh,decide_eq_true_eq] at hcc;obtain ⟨⟨⟨⟨c1,c2⟩,c3⟩,c4⟩,c5⟩:=hcc;have c5:=zzg c5;obtain ⟨i,hi,rfl⟩:=Ze hby;have hwl:IntKind.i64.wrap n=n:=Fb c1 zO;have hwc:IntKind.i64.wrap m=m:=Fb zO zO;have n1:¬ (m<0):=zO;have n2:¬ (n<0):=zO;have n3:¬ (m<n):=zO;have n4:¬ ((i.bytes:Int) * m > 281474976710656):=by rw [Int.mul_comm];omega
 have a1:=Pf (P:=P) (w':=w) hl hn;have a2:=Pf (P:=P) (w':=w) hc hm;by_cases h0:m.toNat * sz=0
 ·simp [Instr.makeSlice,run_underlying (sw he),a1,a2,run_typeInfo hi,hwl,hwc,n1,n2,n3,n4,run_sizeOf hsz,h0,newRow] at hx;exact hx.1.symm
 ·simp [Instr.makeSlice,run_underlying (sw he),a1,a2,run_typeInfo hi,hwl,hwc,n1,n2,n3,n4,run_sizeOf hsz,h0,newRow,my hz] at hx;exact hx.1.symm
theorem au5 {P:Program} {g:Gh} {st st':St} {w:World} {a:Act} {o:Oper} {t:TypeId} {l c:Operand} {L:SL} {r:AV} (ho:o.op = .makeSlice t l c) (hl:Rel g w (dv L l) (a.eval l)) (hc:Rel g w (dv L c) (a.eval c)) (h:o8 P t (dv L l) (dv L c) st=some (r,st')) {n m:Int} (hn:wm (dv L l)=some n) (hm:wm (dv L c)=some m) :
 ∀ nx w',(execOp a.eval o).run P w = .ok nx w'->nx = .value (.slice (some ⟨w.heap.size,0,none⟩) n.toNat m.toNat):=by
 intro nx w' hx;obtain ⟨dst,op,ty,pos,af,gd⟩:=o;subst ho;cases hr:(Instr.makeSlice t (a.eval l) (a.eval c)).run P w with
 |ok x w2=>
  have h1:(execOp a.eval ⟨dst,.makeSlice t l c,ty,pos,af,gd⟩).run P w = .ok (.value x) w2:=by simp [execOp,hr]
  rw [h1] at hx;cases hx;rw [aA3 hl hc h hn hm hr]
 |_=>
  simp [execOp,hr] at hx
theorem azz {P:Program} [KP P] {T:fc} (hT:ar P T) {B:fi} {nt:NT} (aG:B.k6) {N:Nat} {ops:Array Oper} {l1 l2:List Oper} {K:SL->St->Prop} {X:Exit->Act->World->Prop} {L st g a w} (hg:mq nt ops=true) (hd:ri nt ops=true) (hm:∀ o ∈ l1,o ∈ ops)
 (h:opsL P T ops l1 K L st) (hh:gj B nt L st g a w) (hK:∀ L' st' g' a' w',K L' st'->gj B nt L' st' g' a' w'->zb P N ops l2 X a' w'):zb P N ops (l1++l2) X a w:=by
 have key:∀ (l:List Oper) (is:List Nat),(∀ o ∈ l,o ∈ ops)->is.map (fun i=>ops[i]?)=(l++l2).map some->∀ L st g a w,opsL P T ops l K L st->gj B nt L st g a w->wpOpsIn (fu none) N P ops X is a w:=by
  intro l
  induction l with
  |nil=>
   intro is _ aI L st g a w h hh;exact hK L st g a w h hh is aI
  |cons o l ih=>
   intro is hmem aI L st g a w h hh;obtain ⟨hc,hr,bL⟩:=hh;cases is with
   |nil=>cases aI
   |cons i is=>
    simp only [List.cons_append,List.map_cons,List.cons.injEq] at aI;obtain ⟨hi,aI⟩:=aI;have ho:=hmem o (by simp);simp only [wpOpsIn,hi];rcases wz hr (zy hg ho) h with ⟨hw,h1⟩|⟨hw,h1⟩
    ·rw [hw,if_pos rfl];unfold Nj Dj at h1;cases hop:gw P T o (dv L) st with
     |none=>
      rw [hop] at h1;refine H9 hc.ok (fun o ho=>hc.fresh o ho (aG o)) hr.eval h1 none N _ _ ?_;rintro u w' ⟨g',v,st',q0,q1,q2,q3,q4⟩;exact ih is (fun o ho=>hmem o (by simp [ho])) aI _ st' g' _ w' q0 ⟨hc.step (aG.tu _ _) ⟨q1,q2⟩ q3,(hr.ext q2.ext).put q4 (lu hd ho),by rw [put_defers];exact bL.step q2⟩
     |some p=>
      obtain ⟨v,st'⟩:=p;rw [hop] at h1;refine D4 hT hc.ok (hc.free (aG.tu _ _)) hr.eval hop none N _ _ ?_;rintro u w' ⟨g',q1,q2,q3⟩;exact ih is (fun o ho=>hmem o (by simp [ho])) aI _ st' g' _ w' h1 ⟨hc.step (aG.tu _ _) ⟨Ac hop,q1⟩ q2,(hr.ext q1.ext).put q3 (lu hd ho),by rw [put_defers];exact bL.step q1⟩
    ·rw [hw,if_neg (by simp)];refine ⟨ka none P o a w,?_⟩;exact ih is (fun o ho=>hmem o (by simp [ho])) aI _ st g _ w h1 ⟨hc,hr.put (.sc _) (lu hd ho),by rw [put_defers];exact bL⟩
 intro is aI;exact key l1 is hm aI L st g a w h hh
theorem alp {P:Program} {N:Nat} {ops:Array Oper} {X:Exit->Act->World->Prop} {a:Act} {w:World} (h:X .normal a w):zb P N ops [] X a w:=by
 intro is aI;cases is with
 |nil=>exact h
 |cons i is=>cases aI
theorem J0 {P:Program} {a:Act} {o:Oper} {x:Operand} {w:World} {v:Value} (ho:o.op = .move x\/o.op = .assign x) (hv:a.eval x=v):∀ nx w',(execOp a.eval o).run P w = .ok nx w'->nx = .value v:=by
 intro nx w' hx;obtain ⟨dst,op,ty,pos,af,gd⟩:=o;rcases ho with ho|ho <;>
 ·subst ho;simp only [execOp,hv] at hx;cases hx;rfl
theorem atc {P:Program} {g:Gh} {w:World} {a:Act} {o:Oper} {t e:TypeId} {x hi:Operand} {L:SL} {b len cap h sz:Nat} (ho:o.op = .slice t x none (some hi) none) (hρ:oc g w (dv L) a.eval) (hx:a.eval x = .slice (some ⟨b,0,none⟩) len cap) (hc:len<=cap) (aL : 0<cap)
 (hb:bounds (dv L) len none (some hi) none=some (0,h,false)) (hu:P.underlying t=some (.slice e)) (hs:dw P e=some sz):∀ nx w',(execOp a.eval o).run P w = .ok nx w'->nx = .value (.slice (some ⟨b,0,none⟩) h cap):=by
 intro nx w' hr;obtain ⟨_,_,m,h1,h2,h3,_,h5⟩:=ue (P:=P) (isS:=true) hρ hc hb;have hm:=h5 rfl;subst hm;have h6:=wh (a:=some ⟨b,0,none⟩) hu hs h1;obtain ⟨dst,op,ty,pos,af,gd⟩:=o;subst ho;have h7:(execOp a.eval ⟨dst,.slice t x none (some hi) none,ty,pos,af,gd⟩).run P w = .ok (.value (.slice (some ⟨b,0,none⟩) h m)) w:=by simp only [execOp,hx];have hne:¬ m=0:=zO;rw [if_neg hne] at h6;simp only [Option.map_some,Option.map_none,Nat.zero_mul,Nat.sub_zero] at h6 ⊢;simp [h6,Addr.add]
 rw [h7] at hr;cases hr;rfl
theorem aCf {P:Program} [KP P] {g:Gh} {st st':St} {w:World} {a:Act} {o:Oper} {L:SL} {v0:Value} (aB:Ok g st.h w) (hf:od g st st') (hr:oc g w (dv L) a.eval) (h:mono (Dz P o (dv L)) st=some (.sc v0,st')) (hne:v0≠undef) :
 ∀ nx w',(execOp a.eval o).run P w = .ok nx w'->nx = .value v0:=by
 intro nx w' hx;obtain ⟨AH,w2,g',q1,q2,q3,q4⟩:=ag7 (P:=P) aB hf hr (u4 h).1;rw [hx] at q1;cases q1;rcases q4 with ⟨v,rfl,hv⟩|⟨rfl,e⟩
 ·rw [hv.exact rfl]
 ·cases e;exact (hne rfl).elim
theorem aog {P:Program} [KP P] {f:Nat} {fn:Func} {body:Code} (hf:P.funcs[f]? = some fn) (hb:fn.body=some body) {t:Nat} (hres:fn.results = #[.tmp t])
 {args:List AV} (hl:args.length<=fn.ntmps) {V:Nat->Value} {et:TypeId} {Good:Nat->Array Value->Prop}
 (h:∀ (B:fi) (g:Gh) (a:Act) (w:World),B.k6->B.be=0->(∀ b,¬ B.O b)->B.n0<=B.w.heap.size->B.b0=B.w.heap.size->gj B fn.ntmps (cp 0 args) (bg []) g a w->body.wpIn (fu none) 0 P (fun ex a' w'=>ex = .ret/\∃ L st g' b cs,gj B fn.ntmps L st g' a' w'/\a'.tmps.getD t undef=V b/\B.w.heap.size<=b/\w'.heap[b]? = some (.cells cs et (0,0))/\Good b cs) a w)
 {K:Nat->Nat->Prop} {w:World} {vs:List Value} (hK:∀ b j,K b j->b<w.heap.size) (hrel:cb (gK w.heap.size K) w args vs) :
 Calls P f vs.toArray w (fun e w'=>∃ b cs,e = .returned (V b)/\qk w w'/\w.heap.size<=b/\w'.heap[b]? = some (.cells cs et (0,0))/\Good b cs):=by
 refine xb (ro:=none) (n:=0) (callsIn_of_wp_marks hf hb trivial ?_)
 let B:fi:={ b0:=w.heap.size,w,K,O:=fun _=>False,be:=0,pb:=fun _=>none,n0:=w.heap.size }
 have eB:kz B (gK w.heap.size K) (bg []) w:=by
  refine ⟨⟨zza _,fun o x hx=>?_,fun o o' x x' b base base' _ hx=>?_,hK⟩,fun o _ _=>rfl,⟨rfl,(fun o ho=>(by rcases ho with ho|ho;cases ho;exact ho.elim)),fun _ _ h=>h,fun _ _ _=>rfl,zza _,rfl,rfl,rfl,fun _ _ _=>rfl,fun o b base ho=>?_,fun _ _ h=>.inl h,fun b cs e fr h=>⟨cs,fr,h,rfl⟩,fun b l h=>⟨l,h⟩,fun _ _ _ _ _ _=>rfl⟩,zzb _⟩
  ·simp [bg,ng,Tr.get_nil] at hx
  ·simp [bg,ng,Tr.get_nil] at hx
  ·simp [bg,ng,Tr.get_nil] at ho
 refine wpIn_mono (h B (gK w.heap.size K) _ w (fun _ h=>h) rfl (fun _ h=>h) (zza _) rfl ⟨eB,Dw hrel hl,Marks.nil _ _ _ _⟩) ?_;rintro ex a w' ⟨rfl,L,st,g,b,cs,hh,hv,gR,hcs,hgd⟩;show LeavesInM (fu none) 0 P fn a.tmps _ a.defers .returning w';have aX:=hh.cur.base;obtain ⟨bs,e1,e2,e3⟩:=hh.Cc;have e1:=e1.trans (zzn _);rw [e1];refine Fq (Good:=fun u=>qk w u/\u.heap[b]? = some (.cells cs et (0,0))) (S:=fun b=>w.heap.size<=b) ?_ ?_ bs w'
  ⟨⟨aX.size,fun b hlt=>aX.frame b hlt (fun h=>h),aX.os,aX.tape,aX.output⟩,hcs⟩ e2 (fun b hb=>⟨(e3 b hb).1,(e3 b hb).2.1⟩)
 ·rintro u b' ⟨g2,g3⟩ hb1 hb3;have hne:b'≠b:=fun e=>by subst e;rw [g3] at hb3;cases hb3
  exact ⟨⟨by rw [ni];exact g2.size,fun c hc=>(fo u _ zO).trans (g2.heap c hc),g2.os,g2.tape,g2.output⟩,(fo u _ zO).trans g3⟩
 ·rintro u ⟨g2,g3⟩;refine ⟨V b,?_,b,cs,rfl,g2,gR,g3,hgd⟩;have hmap:(fn.results.mapM (uy a.tmps)).run P u = .ok #[V b] u:=by
   rw [Array.mapM_eq_mapM_toList,hres];simp [uy,hv]
  rw [X3];simp only [Sem.run_bind,hmap,Result.andThen_ok,Sem.run_pure];rfl
theorem gj.less {B:fi} {nt oL:NT} {L L':SL} {st st':St} {g:Gh} {a:Act} {w:World} (hh:gj B nt L st g a w) (mS:qx oL a.tmps) (h:∀ t,lk L' t=lk L t\/lk L' t = .bad) (hn:st'.nx=st.nx) (hg:∀ o,st'.h.get o=st.h.get o):gj B oL L' st' g a w:=by
 have h2:gj B oL L' st g a w:=⟨hh.cur,⟨mS,fun t=>by
  rcases h t with e|e
  ·rw [e];exact hh.sl.2 t
  ·rw [e];exact .bad _⟩,hh.Cc⟩
 exact h2.congr hn hg
theorem gj.aJ5 {B:fi} {nt L st g a w} (hh:gj B nt L st g a w) {t o k n sz:Nat} {cells:List AV} {et:TypeId} (hn:n≠0) (hl:lk L t = .sl o 0 n sz) (ho:st.h.get o=some (.row cells k 0 et)) :
 ∃ b cap cs,a.tmps.getD t undef = .slice (some ⟨b,0,none⟩) n cap/\B.b0<=b/\w.heap[b]? = some (.cells cs et (0,0))/\∀ (i:Nat) x,cells[i]? = some x->∃ c,cs[i]? = some c/\Rel g w x c:=by
 have h1:=hh.sl.2 t;rw [hl] at h1;obtain ⟨v,hv⟩:∃ v,a.tmps.getD t undef=v:=⟨_,rfl⟩;rw [hv] at h1 ⊢;cases h1 with
 |wo _ _ _ a=>exact (hn rfl).elim
 |xp _ _ _=>exact (hn rfl).elim
 |sl _ _ _ _ b base cap hi hc hm hr=>
  obtain ⟨b',base',q1,q2,cs,fr,q3,q4,q5,q6,q7,q8,q9,kS⟩:=hh.cur.ok.obj o _ ho ⟨_,hi⟩;rw [hi] at q1;cases q1;have hf:=q8 (by decide);have hs:=kS rfl;have e1:=hs.1;subst hf e1;exact ⟨b,cap,cs,rfl,by rw [<- hh.cur.base.b0];exact q2,q3,fun i x hx=>by obtain ⟨c,hc,hr⟩:=q5 i x hx;rw [Nat.zero_add] at hc;exact ⟨c,hc,hr⟩⟩
theorem Kb {α:Type} (x : α) (st:St):mono (M.pure x) st=some (x,st):=by unfold mono M.pure;simp only [Nat.ble_eq_true_of_le (zza _),cond_true]
theorem bj.calls {P:Program} [KP P] {f:Nat} {args:List AV} {r:AV} (h:bj P f args r) (he:oi P f=true) {K:Nat->Nat->Prop} {w:World} {vs:List Value} (hK:∀ b j,K b j->b<w.heap.size) (hrel:cb (gK w.heap.size K) w args vs) :
 Calls P f vs.toArray w (fun e w'=>∃ v,e = .returned v/\qk w w'/\Rel (gK w.heap.size (N0 K w w')) w' r v):=by
 rcases h K w vs hK hrel with ⟨v,h1,_⟩|⟨_,h2⟩
 ·rw [si he] at h1;cases h1
 ·exact h2
theorem asw {o:Oper} {f:Nat} {d:Option Nat} {args:List Nat} (h:Ga { o with guard:=none }=some (d,f,args)):∃ ts pos af ty gd,o=⟨d,.call { callee:=.value (.func f),args:=(args.map Operand.tmp).toArray,argTypes:=ts },ty,pos,af,gd⟩:=by obtain ⟨ts,pos,af,ty,e⟩:=adg h;obtain ⟨dst,op,ty',pos',BD,gd⟩:=o;simp only [Oper.mk.injEq] at e;obtain ⟨rfl,rfl,rfl,rfl,rfl,_⟩:=e;exact ⟨ts,_,_,_,_,rfl⟩
theorem ar0 {P:Program} [KP P] {T:fc} (hT:ar P T) {B:fi} {nt:NT} (aG:B.k6) {N:Nat} {ops:Array Oper} {l1 l2:List Oper} {o:Oper} {K:SL->St->Prop} {X:Exit->Act->World->Prop} {L st g a w} (hg:mq nt ops=true) (hd:ri nt ops=true) (hm:∀ o ∈ l1,o ∈ ops) (kY:o ∈ ops)
 {f:Nat} {args:List Nat} {d:Option Nat} (hl:Ga { o with guard:=none }=some (d,f,args)) (he:oi P f=true)
 (h:opsL P T ops l1 K L st) (hh:gj B nt L st g a w)
 (hgo:∀ L' st',K L' st'->guarded ops L' o.guard True False)
 (hK:∀ L' st' g' a' w',K L' st'->gj B nt L' st' g' a' w'->Calls P f (args.map fun t=>a'.tmps.getD t undef).toArray w' (fun e w''=>∃ r,e = .returned r/\∀ a'',a''.defers=a'.defers->a''.tmps.size=a'.tmps.size->(∀ t,d≠some t->a''.tmps.getD t undef=a'.tmps.getD t undef)->(∀ dd,d=some dd->a''.tmps.getD dd undef=r)->zb P N ops l2 X a'' w'')) :
 zb P N ops (l1++o::l2) X a w:=by
 obtain ⟨ts,pos,af,ty,gd,rfl⟩:=asw hl;have key:∀ (l:List Oper) (is:List Nat),(∀ o ∈ l,o ∈ ops)->is.map (fun i=>ops[i]?)=(l++(⟨d,.call { callee:=.value (.func f),args:=(args.map Operand.tmp).toArray,argTypes:=ts },ty,pos,af,gd⟩:Oper)::l2).map some->∀ L st g a w,opsL P T ops l K L st->gj B nt L st g a w->wpOpsIn (fu none) N P ops X is a w:=by
  intro l
  induction l with
  |nil=>
   intro is _ aI L st g a w h hh;rw [List.nil_append] at aI
   match is,aI with
   |i::is,aI=>
    simp only [List.map_cons,List.cons.injEq] at aI;obtain ⟨hi,aI⟩:=aI;have hK':=hK L st g a w h hh;simp only [wpOpsIn,hi];have hw:Region.wanted (⟨d,.call { callee:=.value (.func f),args:=(args.map Operand.tmp).toArray,argTypes:=ts },ty,pos,af,gd⟩:Oper) (yielded ops a.tmps)=true:=by
     rcases wz hh.sl (zy hg kY) (hgo L st h) with ⟨q,_⟩|⟨_,q⟩
     ·exact q
     ·exact q.elim
    rw [hw,if_pos rfl];refine ⟨ka none P _ a w,?_⟩;rw [Oper.semAt_eq _ _ _ (by intro c e;cases e)];have hrun:(execOp a.eval (⟨d,.call { callee:=.value (.func f),args:=(args.map Operand.tmp).toArray,argTypes:=ts },ty,pos,af,gd⟩:Oper)).run P w=(callFunc f (args.map fun t=>a.tmps.getD t undef).toArray).run P w:=by
     rw [D6 (h:=f) (first:=#[]) (captured:=#[]) (f:=.func f) rfl rfl]
     congr 2
     apply Array.ext';simp [Act.eval]
    rw [hrun,si he];refine ⟨(fun h=>(by cases h)),(qg (ro:=none) (n:=N - 1) hK').mono ?_⟩;rintro e w' ⟨r,rfl,hX⟩;have hdd:=fun dd (e:d=some dd)=>lu hd kY dd e
    show wpOpsIn (fu none) N P ops X is (a.put d r) w';refine hX _ (put_defers _ _ _) ?_ (fun t ht=>?_) (fun dd e=>?_) is aI
    ·cases d with
     |none=>rfl
     |some dd=>show (a.tmps.setIfInBounds dd r).size=_;simp
    ·cases d with
     |none=>rfl
     |some dd=>
      have hne:dd≠t:=fun e=>ht (by rw [e])
      show (a.tmps.setIfInBounds dd r).getD t undef=a.tmps.getD t undef;rw [zze,zzz,if_neg hne,zze]
    ·subst e;have:=(NT.I7 (hdd dd rfl)).1;show (a.tmps.setIfInBounds dd r).getD dd undef=r;rw [zze,zzz,if_pos rfl,if_pos (by rw [hh.sl.1.size];exact this)];rfl
   | [],aI=>cases aI
  |cons o l ih=>
   intro is hmem aI L st g a w h hh;obtain ⟨hc,hr,bL⟩:=hh;cases is with
   |nil=>cases aI
   |cons i is=>
    simp only [List.cons_append,List.map_cons,List.cons.injEq] at aI;obtain ⟨hi,aI⟩:=aI;have ho:=hmem o (by simp);simp only [wpOpsIn,hi];rcases wz hr (zy hg ho) h with ⟨hw,h1⟩|⟨hw,h1⟩
    ·rw [hw,if_pos rfl];unfold Nj Dj at h1;cases hop:gw P T o (dv L) st with
     |none=>
      rw [hop] at h1;refine H9 hc.ok (fun o ho=>hc.fresh o ho (aG o)) hr.eval h1 none N _ _ ?_;rintro u w' ⟨g',v,st',q0,q1,q2,q3,q4⟩;exact ih is (fun o ho=>hmem o (by simp [ho])) aI _ st' g' _ w' q0 ⟨hc.step (aG.tu _ _) ⟨q1,q2⟩ q3,(hr.ext q2.ext).put q4 (lu hd ho),by rw [put_defers];exact bL.step q2⟩
     |some p=>
      obtain ⟨v,st'⟩:=p;rw [hop] at h1;refine D4 hT hc.ok (hc.free (aG.tu _ _)) hr.eval hop none N _ _ ?_;rintro u w' ⟨g',q1,q2,q3⟩;exact ih is (fun o ho=>hmem o (by simp [ho])) aI _ st' g' _ w' h1 ⟨hc.step (aG.tu _ _) ⟨Ac hop,q1⟩ q2,(hr.ext q1.ext).put q3 (lu hd ho),by rw [put_defers];exact bL.step q1⟩
    ·rw [hw,if_neg (by simp)];refine ⟨ka none P o a w,?_⟩;exact ih is (fun o ho=>hmem o (by simp [ho])) aI _ st g _ w h1 ⟨hc,hr.put (.sc _) (lu hd ho),by rw [put_defers];exact bL⟩
 intro is aI;exact key l1 is hm aI L st g a w h hh
theorem aA7 {S:Nat->Prop} {m:Nat} {xx:Bool} {w w':World} (h:ji S m xx w w') {b sz:Nat} {cs:Array Value} {e:TypeId} (hb:w.heap[b]? = some (.cells cs e (0,0))) (hs:TK.sz e=some sz) (hz:sz≠4) :
 ∃ cs':Array Value,w'.heap[b]? = some (.cells cs' e (0,0))/\cs'.size=cs.size/\∀ (j:Nat) x,cs[j]? = some x->o0 x = .no->cs'[j]? = some x:=by
 obtain ⟨cs',q1,q2,q3⟩:=h.cells b cs e _ hb;refine ⟨cs',q1,q2,fun j x hx hn=>?_⟩;have hlt:j<cs'.size:=by rw [q2];exact (zz1.1 hx).1
 have hx':=zz3 hlt;rw [hx',(q3 j x _ hx hx').same hs hz hn]
end
variable [TK]
theorem aw6 {n:Nat} {ts:List Nat} {z x y:Array Value} {d:Nat} (h:qx (s6 n ts z) x) (hs:y.size=x.size) (hn:∀ t,some d≠some t->y.getD t undef=x.getD t undef) (hd:d ∉ ts):qx (s6 n ts z) y:=by refine ⟨by rw [hs];exact h.size,fun p hp=>?_⟩;have h2:=h.fix p hp;obtain ⟨t,ht,rfl⟩:=zyj.1 hp;rw [hn t (fun e=>hd (by cases e;exact ht))];exact h2
theorem Ya {g:Gh} {w:World} {tmps:Array Value} {t:Nat} {x:Value} (h:tmps.getD t undef=x):Rel g w (.sc x) (tmps.getD t undef):=by rw [h];exact .sc _
theorem ay8 {ops:Array Oper} {L:SL} {gd:Option (Nat × Bool)} {j s:Nat} {b:Bool} (hg:gd=some (j,b)) (hs:wt ops j=s) (hl:lk L s = .sc (.bool b)):guarded ops L gd True False:=by
 subst hg;unfold guarded;simp only [hs,hl];cases b
 ·exact ⟨fun _=>trivial,fun h=>by cases h⟩
 ·exact ⟨fun _=>trivial,fun h=>by cases h⟩
theorem qk.sv {w w':World} (q:qk w w') (S:Nat->Prop) (m:Nat) (xx:Bool):ji S m xx w w':=.quiet S m xx q.size q.os q.tape q.output q.heap
end Go.Vm
section
namespace Go.Proofs.YtjagjbceegbaiaaGreat
open Go.Vm
theorem aun (s:ba) (hs:db s):wl PP [ve,az4] 0 (Tryz.f81.body.getD .skip) (c9 PP Tryz.f81.results.toList (fun r st=>(r1 ag).get true st.h r=some s)) (cp 0 [ag.val false s]) (bg []):=by
 have ho:=hs.owner;have hd:=hs.data;have hn:=hd.len;unfold Tryz.f81;simp only [jz];simp only [↓wR,zT,simprocAttr,oe,ho];refine fg [2,13,14,15,3] (fun (x:List cq)=>[.ptr 0 0,zd s.data,zi s.data.length,zi x.length,.ptr 1 0]) (fun x=>[some (.row [.sc (.slice none 0 0),.sc (.int .u16 0),.sc (.int .u16 0),.sc (.int .u32 0),.sc (.slice none 0 0)] 0 2 63),some (.row [aj.val true s.owner,.sc (.int .u16 s.type.toNat),.sc (.int .u16 s.cls.toNat),.sc (.int .u32 s.i9.toNat),.sl 2 0 x.length 4] 0 2 63),some (.row (cellsOf bc true x) 0 0 116)]) (fun x=>x.length<=s.data.length/\x++s.data.drop x.length=s.data) (fun x=>s.data.length - x.length) [] ⟨zzb _,rfl⟩ zX ?_;rintro x ⟨hi,hx⟩;simp only [↓wR,zT,simprocAttr];rw [bh];refine ⟨fun h=>?_,fun h=>?_⟩
 ·obtain ⟨c,hc,aF,hlt⟩:=du (zp h);rw [aF] at hx;have hcs:=hd.mem c (zm hc);simp only [↓wR,zT,simprocAttr,h,hc];refine ⟨zK,.inl ?_⟩;have aD:(x.length * 4+4) * 96<=140737488355328:=zO;simp only [↓wR,zT,simprocAttr,Fy,hcs,aD];refine ⟨zK,x++[c],⟨by simp;omega,by simpa using hx⟩,by simp;omega,zF,?_⟩;rw [Oz,za];rfl
 ·rw [eu (zq h)] at hx;rw [zzn] at hx;subst hx;simp only [↓wR,zT,simprocAttr,h]
noncomputable def ry (x:ba × Unit):Option AV:=if db x.1 then some ((r1 ag).E true (x.1)) else none
theorem vy (x:ba × Unit) (r:AV) (h:ry x=some r):bj PP 81 ((aC ag a0).E x) r:=by obtain ⟨hc,rfl⟩:=zI h;exact az (ar.cons (aq px) (ar.cons (aq afr) (ar.nil PP))) Tryz.func81 zK zK zK zL (r1 ag) true (x.1) (aun x.1 hc)
noncomputable abbrev Am:zE:=(81,true,cx (aC ag a0) ry)
def Mk (z:ay):Nat:=cd z.origin+gu n9 z.ak
def bo (z:ay):Prop:=Mk z<=16777216
instance (z:ay):Decidable (bo z):=inferInstanceAs (Decidable (_<=_))
theorem bo.origin {z:ay} (h:bo z):aw z.origin:=by unfold bo Mk at h;unfold aw;omega
theorem bo.set {z:ay} (h:bo z):∀ s ∈ z.ak,db s:=fun s hs=>by have h1:n9 s<gu n9 z.ak:=E8 hs;unfold bo Mk at h;unfold db;omega
theorem bo.len {z:ay} (h:bo z):z.ak.length<=16777216:=by have:=D3 n9 z.ak;unfold bo Mk at h;omega
def E3 (n top:Name):Bool:=decide (top.length<n.length) && dj n top
theorem aAk (n top:Name) (hn:aw n) (ht:aw top):wl PP [uf] 0 (Tryz.f79.body.getD .skip) (c9 PP Tryz.f79.results.toList (fun r st=>(r1 bk).get true st.h r=some (E3 n top))) (cp 0 [aj.val false n,aj.val false top]) (bg []):=by
 unfold Tryz.f79;simp only [bz];simp only [↓wR,zT,simprocAttr];unfold E3;rw [bh];refine ⟨fun h=>?_,fun h=>?_⟩
 ·rw [zp (show top.length<n.length by omega)];simp only [↓wR,zT,simprocAttr,h,kp,hn,ht]
 ·rw [zq (show ¬ top.length<n.length by omega)];simp only [↓wR,zT,simprocAttr,h];rfl
noncomputable def La (x:Name × Name × Unit):Option AV:=if aw x.1/\aw x.2.1 then some ((r1 bk).E true (E3 x.1 x.2.1)) else none
theorem anc (x:Name × Name × Unit) (r:AV) (h:La x=some r):bj PP 79 ((aC aj (aC aj a0)).E x) r:=by obtain ⟨hc,rfl⟩:=zI h;exact az (ar.cons (aq oh) (ar.nil PP)) Tryz.func79 zK zK zK zL (r1 bk) true (E3 x.1 x.2.1) (aAk x.1 x.2.1 hc.1 hc.2)
noncomputable abbrev aHz:zE:=(79,true,cx (aC aj (aC aj a0)) La)
def fl (z:ay) (n:Name):List ba:=z.ak.filter fun s=>dt s.owner n
theorem Py {l:List ba} {p:ba->Bool} {i:Nat} {c:ba} (h:l.drop i=c::l.drop (i+1)):(l.drop i).filter p=(if p c=true then [c] else [])++(l.drop (i+1)).filter p:=by rw [h,List.filter_cons];split<;>rfl
theorem n5 {l:List ba} (p:ba->Bool):(l.filter p).length<=l.length:=List.length_filter_le _ _
theorem aIf (z:ay) (n:Name) (hz:bo z) (hn:aw n):wl PP [eg,Am] 0 (Tryz.f44.body.getD .skip) (c9 PP Tryz.f44.results.toList (fun r st=>(r1 (cg ag)).get true st.h r=some (fl z n))) (cp 0 [bf.val false z,aj.val false n]) (bg []):=by
 have hl:=hz.len;unfold Tryz.f44;simp only [dy,bz];simp only [↓wR,zT,simprocAttr];refine fg [1,9,10,11,5] (fun (x:Nat × List ba)=>[zn n,zs z.ak,zi z.ak.length,zi x.1,.sl 0 0 x.2.length 5]) (fun x=>[some (.row (cellsOf ag true x.2) 0 0 63)]) (fun x=>x.1<=z.ak.length/\x.2++(z.ak.drop x.1).filter (fun s=>dt s.owner n)=fl z n) (fun x=>z.ak.length - x.1) (0,[]) ⟨zzb _,rfl⟩ zX ?_;rintro ⟨i,x⟩ ⟨hi,hx⟩;simp only at hi hx;have bY:x.length<=z.ak.length:=by have h1:=n5 (l:=z.ak) (fun s=>dt s.owner n);have h2:=congrArg List.length hx;simp only [za,fl] at h2;omega
 simp only [↓wR,zT,simprocAttr];rw [bh];refine ⟨fun h=>?_,fun h=>?_⟩
 ·obtain ⟨c,hc,aF,hlt⟩:=du (zp h);rw [Py aF] at hx;have hcs:=hz.set c (zm hc);simp only [↓wR,zT,simprocAttr,h,hc,j6,hcs.owner,hn];rw [cw];refine ⟨fun h1=>?_,fun h1=>?_⟩
  ·rw [if_pos h1] at hx;have aD:(x.length * 5+5) * 64<=140737488355328:=zO
   repeat (first|simp only [↓wR,zT,simprocAttr,h1,ry,hcs,aD]|simp (disch:=omega) only [zW])
   refine ⟨(i+1,x++[c]),⟨hlt,by rw [<- hx];simp⟩,by simp;omega,zF,?_⟩;rw [kr]
  ·rw [if_neg (by rw [h1];decide)] at hx
   repeat (first|simp only [↓wR,zT,simprocAttr,h1]|simp (disch:=omega) only [zW])
   exact ⟨(i+1,x),⟨hlt,hx⟩,by simp;omega,zF,zF⟩
 ·rw [eu (zq h)] at hx;rw [List.filter_nil,zzn] at hx;subst hx;simp only [↓wR,zT,simprocAttr,h]
noncomputable def aka (x:ay × Name × Unit):Option AV:=if bo x.1/\aw x.2.1 then some ((r1 (cg ag)).E true (fl x.1 x.2.1)) else none
theorem azy (x:ay × Name × Unit) (r:AV) (h:aka x=some r):bj PP 44 ((aC bf (aC aj a0)).E x) r:=by obtain ⟨hc,rfl⟩:=zI h;exact az (ar.cons (aq gy) (ar.cons (aq vy) (ar.nil PP))) Tryz.func44 zK zK zK zL (r1 (cg ag)) true (fl x.1 x.2.1) (aIf x.1 x.2.1 hc.1 hc.2)
noncomputable abbrev zAt:zE:=(44,true,cx (aC bf (aC aj a0)) aka)
def Ed (n:Name) (b:Option Name):Bool:=match b with|none=>true|some m=>decide (n.length<m.length)
def kq (z:ay) (n:Name) (cY:Option Name) (s:ba):Option Name:=
 if (decide ((s.type.toNat:Int)=2) && (E3 s.owner z.origin && (dj n s.owner && Ed s.owner cY)))=true then some s.owner else cY
def k7 (z:ay) (n:Name):Option Name:=z.ak.foldl (kq z n) none
theorem Rb {z:ay} {n:Name} (hz:bo z):∀ (l:List ba) (b:Option Name),(∀ s ∈ l,s ∈ z.ak)->(∀ m,b=some m->aw m)->∀ m,l.foldl (kq z n) b=some m->aw m:=by
 intro l
 induction l with
 |nil=>intro b _ hb m hm;exact hb m hm
 |cons s l ih=>
  intro b hl hb m hm;refine ih (kq z n b s) (fun x hx=>hl x (by simp [hx])) (fun q hq=>?_) m hm;unfold kq at hq
  split at hq
  ·cases hq;exact (hz.set s (hl s (by simp))).owner
  ·exact hb q hq
theorem aGy (z:ay) (n:Name) (hz:bo z) (hn:aw n):wl PP [uf,aHz,ve] 0 (Tryz.f42.body.getD .skip) (c9 PP Tryz.f42.results.toList (fun r st=>(r2 aj bk).get true st.h r=some ((k7 z n).getD [],(k7 z n).isSome))) (cp 0 [bf.val false z,aj.val false n]) (bg []):=by
 have hl:=hz.len;unfold Tryz.f42;simp only [dy,bz];simp only [↓wR,zT,simprocAttr];refine ct (T:=[]) (ar.nil PP) mixed Tryz.func78 rfl zK zK zK zK ?_;unfold Tryz.f78;simp only [↓wR,zT,simprocAttr];refine ⟨[2,3,6,7,10],?_⟩;have hib:Fp PP 131=some (Tryz.f131.ntmps,Tryz.f131.body.getD .skip):=zK;simp only [↓wR,zT,simprocAttr,hib];refine ⟨zK,fun l=>?_⟩;unfold Tryz.f131;simp only [↓wR,zT,simprocAttr];refine ar8 [0,2,7,8,9] (fun (x:Nat × Option Name)=>[.sc (.func (.yield l) #[] #[]),.ptr 5 0,zs z.ak,zi z.ak.length,zi x.1]) (fun x=>[(zZ z),some (.row [zn n] 0 2 23),some (.row [.vl false 1 ((x.2.getD []).map (ai.val false))] 0 2 23),some (.row [.sc (.bool (x.2.isSome))] 0 2 4),(zZ z),some (.row [.sc (.int .u16 2)] 0 2 50)]) (fun x=>x.1<=z.ak.length/\k7 z n=(z.ak.drop x.1).foldl (kq z n) x.2/\∀ m,x.2=some m->aw m) (fun x=>z.ak.length - x.1) (0,none) ⟨zzb _,rfl,fun m hm=>by cases hm⟩ zX ?_;rintro ⟨i,b⟩ ⟨hi,hx,hb⟩;simp only at hi hx hb;simp only [↓wR,zT,simprocAttr];rw [Aq];refine ⟨fun h=>?_,fun h=>?_⟩
 ·obtain ⟨c,hc,aF,hlt⟩:=du h;have hcs:=hz.set c (zm hc);have hstep:k7 z n=(z.ak.drop (i+1)).foldl (kq z n) (kq z n b c):=by rw [hx,aF];rfl
  simp only [↓wR,zT,simprocAttr,h,hc];rw [Aq];refine ⟨fun h2=>?_,fun h2=>?_⟩
  ·have e2:(c.type.toNat:Int)=2:=by simpa using h2
   simp only [↓wR,zT,simprocAttr,h2];refine Cu [0,2,7,8,9,17,19] ?_;simp only [↓wR,zT,simprocAttr,Dr,qa,La,hcs.owner,hz.origin];rw [cw];refine ⟨fun h3=>?_,fun h3=>?_⟩
   ·simp only [↓wR,zT,simprocAttr,h3,kp,hcs.owner,hn];rw [cw];refine ⟨fun h4=>?_,fun h4=>?_⟩
    ·cases b with
     |none=>
      have hb2:kq z n none c=some c.owner:=by simp [kq,e2,h3,h4,Ed]
      rw [hb2] at hstep
      repeat (first|simp only [↓wR,zT,simprocAttr,h4,Option.isSome_none]|simp (disch:=omega) only [zW])
      exact ⟨(i+1,some c.owner),⟨hlt,hstep,fun m hm=>by cases hm;exact hcs.owner⟩,by simp;omega,zF,zF⟩
     |some m=>
      simp only [↓wR,zT,simprocAttr,h4];rw [bh];refine ⟨fun h5=>?_,fun h5=>?_⟩
      ·have hb2:kq z n (some m) c=some c.owner:=by simp [kq,e2,h3,h4,Ed];omega
       rw [hb2] at hstep
       repeat (first|simp only [↓wR,zT,simprocAttr,h5]|simp (disch:=omega) only [zW])
       exact ⟨(i+1,some c.owner),⟨hlt,hstep,fun m hm=>by cases hm;exact hcs.owner⟩,by simp;omega,zF,zF⟩
      ·have hb2:kq z n (some m) c=some m:=by simp [kq,e2,h3,h4,Ed];omega
       rw [hb2] at hstep
       repeat (first|simp only [↓wR,zT,simprocAttr,h5]|simp (disch:=omega) only [zW])
       exact ⟨(i+1,some m),⟨hlt,hstep,hb⟩,by simp;omega,zF,zF⟩
    ·have hb2:kq z n b c=b:=by simp [kq,h4]
     rw [hb2] at hstep
     repeat (first|simp only [↓wR,zT,simprocAttr,h4]|simp (disch:=omega) only [zW])
     exact ⟨(i+1,b),⟨hlt,hstep,hb⟩,by simp;omega,zF,zF⟩
   ·have hb2:kq z n b c=b:=by simp [kq,h3]
    rw [hb2] at hstep
    repeat (first|simp only [↓wR,zT,simprocAttr,h3]|simp (disch:=omega) only [zW])
    exact ⟨(i+1,b),⟨hlt,hstep,hb⟩,by simp;omega,zF,zF⟩
  ·have e2:¬ (c.type.toNat:Int)=2:=by simpa using h2
   have hb2:kq z n b c=b:=by simp [kq,e2]
   rw [hb2] at hstep
   repeat (first|simp only [↓wR,zT,simprocAttr,h2]|simp (disch:=omega) only [zW])
   exact ⟨(i+1,b),⟨hlt,hstep,hb⟩,by simp;omega,zF,zF⟩
 ·rw [eu h] at hx;simp only [↓wR,zT,simprocAttr,h];cases b with
  |none=>
   have hc0:k7 z n=none:=hx;simp only [↓wR,zT,simprocAttr,Option.isSome_none];rw [hc0];rfl
  |some m=>
   have hc0:k7 z n=some m:=hx;simp only [↓wR,zT,simprocAttr,oe,hb m rfl];rw [hc0];rfl
noncomputable def J4 (x:ay × Name × Unit):Option AV:=if bo x.1/\aw x.2.1 then some ((r2 aj bk).E true (((k7 x.1 x.2.1).getD [],(k7 x.1 x.2.1).isSome))) else none
theorem ad3 (x:ay × Name × Unit) (r:AV) (h:J4 x=some r):bj PP 42 ((aC bf (aC aj a0)).E x) r:=by obtain ⟨hc,rfl⟩:=zI h;exact az (ar.cons (aq oh) (ar.cons (aq anc) (ar.cons (aq px) (ar.nil PP)))) Tryz.func42 zK zK zK zL (r2 aj bk) true (((k7 x.1 x.2.1).getD [],(k7 x.1 x.2.1).isSome)) (aGy x.1 x.2.1 hc.1 hc.2)
noncomputable abbrev aHk:zE:=(42,true,cx (aC bf (aC aj a0)) J4)
end Go.Proofs.YtjagjbceegbaiaaGreat
end
