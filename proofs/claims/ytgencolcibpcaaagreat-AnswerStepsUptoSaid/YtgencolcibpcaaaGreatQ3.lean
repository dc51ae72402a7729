/- A piece of the proof of the law AnswerSteps: lemmas. No condition. -/
import Derived.Test.YtgencolcibpcaaaGreatProg
import Derived.Test.YtgencolcibpcaaaGreatRows
import Derived.Test.YtgencolcibpcaaaGreatQ2
set_option linter.unusedSimpArgs false
set_option linter.unusedVariables false
set_option linter.unusedSectionVars false
set_option maxRecDepth 2000000
section
namespace Go.Vm
variable [TK]
noncomputable section
open Go.ChangeShapes Go.WideShapes Go.ChangeAt
mutual
def mg {H:Type}:DataW H->Nat
 |.lit (.string bytes)=>bytes.length+1
 |.lit _=>1
 |.nil=>1
 |.ptr d=>mg d+1
 |.slice elems spare=>nh elems+nh spare+1
 |.agg parts=>nh parts+1
 |.iface _ d=>mg d+1
 |.map entries=>Wv entries+1
 |.held _=>1
def nh {H:Type}:List (DataW H)->Nat
 | []=>0
 |d::r=>mg d+nh r
def Wv {H:Type}:List (Lit × DataW H)->Nat
 | []=>0
 |x::r=>ao9 x+Wv r
def ao9 {H:Type}:Lit × DataW H->Nat
 |(.string bytes,d)=>bytes.length+mg d+1
 |(_,d)=>mg d+1
end
def aiw (W:World):Nat->Nat->Prop:=fun b _=>b<W.heap.size
def Rd (P:Program) (t:TypeId) {α:Type} (C:di α) (μ : α->Nat):Prop:=
 ∀ {H:Type} (enc:TypeId × Value->H) (W:World) (b0 fuel:Nat) (cs:List Value) (x:DataW H × List MemPlace),DataW.trod enc P W 0 (fun _=>true) true fuel t cs=some x ->
  ∃ y,bt (gK b0 (aiw W)) W (C.cells false y) cs /\ μ y<=mg x.1
theorem aE1 {P:Program} {t:TypeId} (ht:P.underlying t=some (.int .u8)):Rd P t bq (fun _=>1):=by
 intro H enc W b0 fuel cs x h;obtain ⟨n,rfl,rfl,hw⟩:=DataW.trod_int ht h;have hx : 0<=n/\n<=255:=by simpa [Lit.wf,IntKind.min,IntKind.max,IntKind.signed,IntKind.bits] using hw
 refine ⟨UInt8.ofNat n.toNat,?_,by simp [mg]⟩;have:n=((UInt8.ofNat n.toNat).toNat:Int):=by rw [UInt8.toNat_ofNat'];omega
 exact bt.one (by (conv=>rhs;rw [this]);exact .sc _)
theorem arq {P:Program} {t:TypeId} (ht:P.underlying t=some (.int .u16)):Rd P t cf (fun _=>1):=by
 intro H enc W b0 fuel cs x h;obtain ⟨n,rfl,rfl,hw⟩:=DataW.trod_int ht h;have hx : 0<=n/\n<=65535:=by simpa [Lit.wf,IntKind.min,IntKind.max,IntKind.signed,IntKind.bits] using hw
 refine ⟨UInt16.ofNat n.toNat,?_,by simp [mg]⟩;have:n=((UInt16.ofNat n.toNat).toNat:Int):=by rw [UInt16.toNat_ofNat'];omega
 exact bt.one (by (conv=>rhs;rw [this]);exact .sc _)
theorem avc {P:Program} {t:TypeId} (ht:P.underlying t=some (.int .u32)):Rd P t cw (fun _=>1):=by
 intro H enc W b0 fuel cs x h;obtain ⟨n,rfl,rfl,hw⟩:=DataW.trod_int ht h;have hx : 0<=n/\n<=4294967295:=Go.bounds_u32 hw;refine ⟨UInt32.ofNat n.toNat,?_,by simp [mg]⟩;have:n=((UInt32.ofNat n.toNat).toNat:Int):=by rw [UInt32.toNat_ofNat'];omega
 exact bt.one (by (conv=>rhs;rw [this]);exact .sc _)
theorem aC9 {P:Program} {t:TypeId} (ht:P.underlying t=some .string):Rd P t ah (fun s=>s.size+1):=by intro H enc W b0 fuel cs x h;obtain ⟨s,rfl,rfl,_⟩:=DataW.trod_string ht h;refine ⟨s,bt.one (.sc _),?_⟩;show s.size+1<=mg (DataW.lit (Lit.string s.data.toList));rw [mg,zz9];exact zza _
theorem aA1 (ao k s v j:Nat) (h3:v=k * s) (hge:v<=j):ao+k * s+(j - v)=ao+j:=by rw [<- h3];omega
def tq {α:Type} (μ : α->Nat):List α->Nat
 | []=>0
 |x::r=>μ x+tq μ r
theorem Sa {α:Type} (μ : α->Nat):∀ a b:List α,tq μ (a++b)=tq μ a+tq μ b
 | [],b=>by simp [tq]
 |x::a,b=>by simp [tq,Sa μ a b];omega
theorem O8 {H:Type}:∀ a b:List (DataW H),nh (a++b)=nh a+nh b
 | [],b=>by simp [nh]
 |x::a,b=>by simp [nh,O8 a b];omega
theorem aBt {P:Program} {t e:TypeId} {α:Type} {C:di α} {μ : α->Nat} (ht:P.underlying t=some (.slice e)) (hsz:P.cellsOf e=C.sz) (bZ : 0<C.sz) (he:Rd P e C μ):Rd P t (br C) (fun l=>tq μ l+1):=by
 intro H enc W b0 fuel cs x h;rcases Go.Deep.open_slice ht h with ⟨rfl,rfl⟩|⟨a,len,cap,m,n,D,Pl,rfl,_,hl,hm,hmm,rfl,hx⟩
 ·exact ⟨[],bt.one (.jy _ _),by simp [tq,mg]⟩
 ·simp only [if_true] at hmm;subst hmm;have spot : 0<m->a.spot=none/\a.block<W.heap.size:=by
   intro h0;obtain ⟨cs',h1,_⟩:=hx 0 h0;rw [hsz] at h1;simp only [World.cells?,zzb,if_true] at h1;have h2:=mapM_some_get h1 0 0 (by simp [bZ]);have hlen:=mapM_some_length h1;have h3:∃ v,cs'[0]? = some v:=⟨cs'[0]'(by rw [hlen];simpa using bZ),by simp⟩;obtain ⟨v,hv⟩:=h3;rw [hv] at h2;simp only [Nat.zero_mul,Addr.add,if_true] at h2;simp only [World.cell?] at h2
   split at h2
   ·rename_i c _ _ hb;cases hs:a.spot with
    |none=>exact ⟨rfl,bu hb⟩
    |some s=>simp [hs] at h2
   ·cases h2
  have build:∀ k,k<=len->∃ (xs:List α) (vs:List Value),xs.length=k/\bt (gK b0 (aiw W)) W (xs.flatMap (C.cells false)) vs/\vs.length=k * C.sz/\(∀ j v,vs[j]? = some v->W.cell? ⟨a.block,a.off+j,none⟩=some v) /\
   tq μ xs<=nh ((List.range k).map D):=by
   intro k
   induction k with
   |zero=>intro _;exact ⟨[],[],rfl,bt.nil _ _,by simp,(fun j v hj=>by simp at hj),by simp [tq,nh]⟩
   |succ k ih=>
    intro hk;obtain ⟨xs,vs,h1,h2,h3,h4,h5⟩:=ih zO;obtain ⟨cs',h6,h7⟩:=hx k zO;obtain ⟨y,h8,h9⟩:=he enc W b0 n cs' _ h7;rw [hsz] at h6;simp only [World.cells?,zzb,if_true] at h6;have hlen:=mapM_some_length h6;simp only [List.length_range] at hlen;refine ⟨xs++[y],vs++cs',by simp [h1],?_,by simp [h3,hlen,Nat.succ_mul],fun j v hj=>?_,?_⟩
    ·rw [List.flatMap_append];exact h2.append (by simpa using h8)
    ·by_cases oM:j<vs.length
     ·rw [zzi oM] at hj;exact h4 j v hj
     ·rw [zzd zO] at hj;have xD:=(zg.1 hj).1;have h10:=mapM_some_get h6 (j - vs.length) (j - vs.length) (zyi (by rw [<- hlen];exact xD));rw [hj] at h10;have hs:=(spot zO).1;have e:(a.add (k * C.sz)).add (j - vs.length)=⟨a.block,a.off+j,none⟩:=by
       obtain ⟨ab,ao,uL⟩:=a;simp only at hs;subst hs;rw [Addr.oe,Addr.oe];have hge:vs.length<=j:=Nat.le_of_not_lt oM;rw [aA1 ao k C.sz vs.length j h3 hge]
      rw [e] at h10;exact h10
    ·rw [Sa,List.range_succ,zzw,O8];simp only [tq,List.map_cons,List.map_nil,nh];have : μ y<=mg (D k):=h9;omega
  obtain ⟨xs,vs,h1,h2,h3,h4,h5⟩:=build len (zza _);refine ⟨xs,bt.one ?_,by
   simp only [mg];have:tq μ xs<=nh ((List.range len).map D):=h5;omega⟩
  by_cases h0 : 0<m
  ·obtain ⟨hs,hb⟩:=spot h0;obtain ⟨ab,ao,uL⟩:=a;simp only at hs hb h4;subst hs;rw [<- h1];refine aqz C h2 zO (fun e=>by cases e) (fun j v hj=>⟨hb,h4 j v hj⟩) (fun e=>by cases e)
  ·have hl0:len=0:=zO;have hm0:m=0:=zO;subst hl0 hm0;have:xs=[]:=zzf h1;subst this;exact .tv _ _ _
def Z6 (P:Program) (fs:List Field) (off:Nat) {α:Type} (C:di α) (μ : α->Nat):Prop:=
 ∀ {H:Type} (enc:TypeId × Value->H) (W:World) (b0 n:Nat) (cs:List Value) (ys:List (DataW H × List MemPlace)),ys.length=fs.length ->
  (∀ (i:Nat) f,fs[i]? = some f->DataW.trod enc P W 0 (fun _=>true) true n f.type ((cs.drop f.offset).take (P.cellsOf f.type))=ys[i]?) ->
  ∃ y,bt (gK b0 (aiw W)) W (C.cells false y) ((cs.drop off).take C.sz) /\ μ y<=nh (ys.map (·.1))
theorem aAs {P:Program} {f:Field} {off:Nat} {α:Type} {C:di α} {μ : α->Nat} (ho:f.offset=off) (hs:P.cellsOf f.type=C.sz) (h:Rd P f.type C μ):Z6 P [f] off C μ:=by
 intro H enc W b0 n cs ys hl hf
 match ys,hl with
 | [y0],_=>
  have:=hf 0 f rfl;obtain ⟨y,h1,h2⟩:=h enc W b0 n _ y0 this;rw [ho,hs] at h1;exact ⟨y,h1,by simp [nh];exact h2⟩
theorem aw4 {P:Program} {f:Field} {fs:List Field} {off:Nat} {α β:Type} {A:di α} {B:di β} {μ : α->Nat} {ν : β->Nat} (ho:f.offset=off) (hs:P.cellsOf f.type=A.sz) (h:Rd P f.type A μ) (hr:Z6 P fs (off+A.sz) B ν) :
 Z6 P (f::fs) off (kn A B) (fun p=>μ p.1 + ν p.2):=by
 intro H enc W b0 n cs ys hl hf
 match ys,hl with
 |y0::ys,hl=>
  have h0:=hf 0 f rfl;obtain ⟨y,h1,h2⟩:=h enc W b0 n _ y0 h0;obtain ⟨z,h3,h4⟩:=hr enc W b0 n cs ys (by simpa using hl) (fun i g hg=>by have:=hf (i+1) g (by simpa using hg);simpa using this);rw [ho,hs] at h1;refine ⟨(y,z),?_,by simp [nh];omega⟩;have:=h1.append h3
  rwa [show (cs.drop off).take A.sz++(cs.drop (off+A.sz)).take B.sz=(cs.drop off).take (A.sz+B.sz) from by rw [List.take_add,List.drop_drop]] at this
theorem av6 {P:Program} {t:TypeId} {fs:Array Field} {α:Type} {C:di α} {μ : α->Nat} (ht:P.underlying t=some (.struct fs)) (hc:P.cellsOf t=C.sz) (h:Z6 P fs.toList 0 C μ):Rd P t C (fun x=>μ x+1):=by
 intro H enc W b0 fuel cs x hx;obtain ⟨xs,n,_,rfl,hl,hlen,hf⟩:=DataW.trod_struct ht hx;obtain ⟨y,h1,h2⟩:=h enc W b0 n cs xs (by simpa using hlen) (fun i f hi=>hf i f (by simpa using hi));refine ⟨y,?_,by simp [mg];exact h2⟩
 rwa [List.drop_zero,zzp zO] at h1
theorem aEz {P:Program} {t:TypeId} {α β:Type} {C:di α} {μ : α->Nat} {f : β -> α} {i : α -> β} {h1:∀ y,i (f y)=y} {h2:∀ x,f (i x)=x} (h:Rd P t C μ):Rd P t (yj C f i h1 h2) (fun y=>μ (f y)):=by intro H enc W b0 fuel cs x hx;obtain ⟨y,h3,h4⟩:=h enc W b0 fuel cs x hx;exact ⟨i y,by show bt _ _ (C.cells false (f (i y))) cs;rw [h2];exact h3,by show μ (f (i y))<=_;rw [h2];exact h4⟩
def RdA (P:Program) (ts:List TypeId) {α:Type} (A:AC α) (μ : α->Nat):Prop:=
 ∀ {H:Type} (enc:TypeId × Value->H) (W:World) (b0 b1:Nat) (vs:List Value) (ds:List (DataW H)) (ps:List MemPlace),(∀ (j:Nat) t v,ts[j]? = some t->vs[j]? = some v->Value.okWide P W .any b1 t v) ->
  DataW.TrodAll enc P W 0 (fun _=>true) true ts vs ds ps->∃ y,bt (gK b0 (aiw W)) W (A.E y) vs /\ μ y<=nh ds
theorem aB7 (P:Program):RdA P [] a0 (fun _=>0):=by intro H enc W b0 b1 vs ds ps _ h;obtain ⟨rfl,rfl,rfl⟩:=trodAll_nil h;exact ⟨(),bt.nil _ _,zzb _⟩
theorem ap1 {P:Program} {W:World} {b:Nat} {t:TypeId} {v:Value} (h:mb P t=some true) (ho:Value.okWide P W .any b t v):∃ cs,v = .agg cs:=by
 unfold mb at h;unfold Value.okWide at ho;cases hu:P.underlying t with
 |none=>rw [hu] at h;cases h
 |some d=>
  rw [hu] at h ho;cases d<;>simp_all<;>exact ⟨_,ho.choose_spec.1⟩
theorem Ks {P:Program} {t:TypeId} {ts:List TypeId} {α β:Type} {C:di α} {R:AC β} {μ : α->Nat} {ν : β->Nat} (ha:mb P t=some C.agg) (h:Rd P t C μ) (hr:RdA P ts R ν):RdA P (t::ts) (aC C R) (fun p=>μ p.1 + ν p.2):=by
 intro H enc W b0 b1 vs ds ps aB hall;obtain ⟨v,sT,d,uG,p,q,rfl,rfl,rfl,h0,h1⟩:=trodAll_cons hall;obtain ⟨fuel,hf⟩:=h0;obtain ⟨y,h2,h3⟩:=h enc W b0 fuel _ _ hf;obtain ⟨z,h4,h5⟩:=hr enc W b0 b1 sT uG q (fun j t v ht hv=>aB (j+1) t v (by simpa using ht) (by simpa using hv)) h1;have dA : μ y<=mg d:=h3;refine ⟨(y,z),bt.cons ?_ h4,by simp only [nh];omega⟩;have hv:=aB 0 t v rfl rfl;show Rel _ _ (C.val false y) v;unfold di.val;cases hg:C.agg with
 |true=>
  obtain ⟨cs,rfl⟩:=ap1 (by rw [ha,hg]) hv;exact .agg _ cs (by simpa [Value.cells] using h2.1) (fun i a v ha hv=>h2.2 i a v ha (by simpa [Value.cells] using hv))
 |false=>
  obtain ⟨c,h6,h7,_⟩:=C.one hg false y;rw [cond_false,h6];rw [h6] at h2;have hcs:v.cells.toList=[v]:=by
   have hl:=h2.1;simp only [zyg] at hl;cases v with
   |agg cs=>
    exfalso;unfold mb at ha;unfold Value.okWide at hv;cases hu:P.underlying t with
    |none=>rw [hu] at ha;cases ha
    |some d=>
     rw [hu] at ha hv;have hcell:Cell.okWide P W .any b1 t (.agg cs):=by cases d<;>simp_all
     rw [hg] at ha;unfold Cell.okWide Cell.ok at hcell;rw [hu] at hcell;cases d<;>simp_all
   |_=>rfl
  rw [hcs] at h2;exact h2.head
theorem ag5 {W W':World} (q:k5 W W') {p:MemPlace} (h:p.block<W.heap.size):W.sameAt W' p:=by
 cases p with
 |cell b off=>exact o8 (q.heap b h)
 |map b=>exact q.heap b h
theorem again {H:Type} {enc:TypeId × Value->H} {P:Program} {W W':World} {sp:Nat->Bool} (K:Kids P (· < P.types.size)) (hz:∀ t e,t<P.types.size->P.underlying t=some (.slice e)->0<P.cellsOf e) (q:k5 W W') :
 ∀ {ts:List TypeId} {vs:List Value} {ds:List (DataW H)} {ps:List MemPlace},(∀ t ∈ ts,t<P.types.size)->DataW.TrodAll enc P W 0 (fun _=>true) true ts vs ds ps->(∀ p ∈ ps,sp p.block=true)->(∀ p ∈ ps,p.block<W.heap.size) ->
  DataW.TrodAll enc P W' 0 sp true ts vs ds ps
 | [],[],[],_,_,h,_,_=>h
 |t::ts,v::vs,d::ds,ps,hT,⟨p,p',h1,h2,e⟩,hs,hl=>by obtain ⟨n,hn⟩:=h1;subst e;have h3:=DataW.trod_respare (spare':=sp) K hz n t _ _ (hT t (by simp)) hn (fun x hx=>hs x (by simp only [zzq];exact .inl hx));have h4:=DataW.trod_carry (w':=W') n t _ _ h3 (fun x hx=>ag5 q (hl x (by simp only [zzq];exact .inl hx)));exact ⟨p,p',⟨n,h4⟩,again K hz q (fun t ht=>hT t (by simp [ht])) h2 (fun x hx=>hs x (by simp [hx])) (fun x hx=>hl x (by simp [hx])),rfl⟩
theorem apo {W W':World} (q:k5 W W') (may:MemPlace->Prop):W.keptBut W' may:=by
 refine ⟨q.os,q.output,fun i hi=>?_⟩;rw [q.heap i hi]
 split
 ·rename_i c t fr c' t' cI h1 h2;rw [h1] at h2;cases h2;exact ⟨rfl,rfl,rfl,fun _ _=>rfl⟩
 ·rename_i es cl es' yQ h1 h2;rw [h1] at h2;cases h2;exact .inr ⟨rfl,rfl⟩
 ·rfl
def aou (P:Program):Bool:=(List.range P.types.size).all fun t=>match P.underlying t with|some (.slice e)=>Nat.blt 0 (P.cellsOf e)|_=>true
theorem acn {P:Program} (h:aou P=true) (t e:TypeId) (ht:t<P.types.size) (hu:P.underlying t=some (.slice e)) : 0<P.cellsOf e:=by have:=zz8.1 h t (List.mem_range.2 ht);simp only [hu] at this;exact zB this
def aCk (P:Program) (l:List TypeId):Bool:=l.all fun t=>Nat.blt t P.types.size
theorem apd {P:Program} {l:List TypeId} (h:aCk P l=true):∀ t ∈ l,t<P.types.size:=fun t ht=>zB (zz8.1 h t ht)
theorem awi {P:Program} [KP P] (mM:laidOutB P=true) (mG:mapsRowed P=true) (hz:∀ t e,t<P.types.size->P.underlying t=some (.slice e)->0<P.cellsOf e) {f:Nat} {fn:Func} {s:ChangeSpec} {tb:TypeId}
 (he:nq P f=true) (iG:s.vars=[]) (hres:fn.resultTypes = #[tb]) (wE:P.underlying tb=some .bool) (qC:∀ t ∈ fn.params.toList,t<P.types.size)
 (hfn:∀ (H:Type) (ds:List (DataW H)),ds.length=fn.params.toList.length->s.fn H ds = { results:=[.lit (.bool true)],args:=ds }) {α:Type} {A:AC α} {μ : α->Nat} (hA:RdA P fn.params.toList A μ) {N:Option Nat}
 (bX:∀ x,(∀ n,N=some n -> μ x<=n)->bf P f (A.E x) (.sc (.bool true)))
 {H:Type} (enc:TypeId × Value->H) (W:World) (base:Nat) (args:Array Value) (ds gs:List (DataW H)) (before:List MemPlace) (hval:∀ (j:Nat) t v,fn.params[j]? = some t->args[j]? = some v->Value.okWide P W .any base t v)
 (hW:DataW.Whole enc P fn.params.toList s.vars false W args.toList ds gs before) (hN:∀ n,N=some n->nh (ds++gs)<=n) :
 Calls P f args W fun e W'=>∃ v,e = .returned v/\s.post enc P fn false true false false W args v W':=by
 have tV:=hW;obtain ⟨p,q,oZ,hV,rfl,hfz,bR⟩:=hW;rw [iG] at hV;obtain ⟨rfl,rfl⟩:=trodVars_none hV;obtain ⟨x,hx,hμ⟩:=hA enc W W.heap.size base args.toList ds p (fun j t v ht hv=>hval j t v (by simpa using ht) (by simpa using hv)) oZ;have hp:=bX x (fun n hn=>zzu hμ (by have:=hN n hn;simpa using this)) (aiw W) W args.toList (fun _ _ h=>h) hx;have hlen:ds.length=fn.params.toList.length:=by
  have:∀ {ts:List TypeId} {vs:List Value} {ds:List (DataW H)} {ps:List MemPlace},DataW.TrodAll enc P W 0 (fun _=>true) true ts vs ds ps->ds.length=ts.length:=by
   intro ts
   induction ts with
   |nil=>intro vs ds ps h;obtain ⟨_,rfl,_⟩:=trodAll_nil h;rfl
   |cons t ts ih=>intro vs ds ps h;obtain ⟨v,sT,d,uG,p,q,rfl,rfl,rfl,h0,h1⟩:=trodAll_cons h;simp [ih h1]
  exact this oZ
 have hlt:∀ y ∈ p++[],y.block<W.heap.size:=fun y hy=>tV.lt y hy
 have eR:=hfn H ds hlen;rcases hp with ⟨v,hv,_⟩|⟨_,hc⟩
 ·rw [sq he] at hv;cases hv
 ·refine hc.mono ?_;rintro e W' ⟨v,rfl,hq,hr⟩;obtain rfl:=hr.exact rfl;refine ⟨_,rfl,ds,[],p++[],[],p,[],tV,?_,?_,?_,apo hq _,fun e=>by cases e⟩
  ·rw [zzn,eR,hres];exact trodAll_cons_mk (Go.RowKit.shut_bool wE _) trodAll_mk0
  ·rw [zzn,eR];exact again (kids_rows mM mG) hz hq qC oZ (fun y hy=>by have:=hlt y (by simp [hy]);simpa using this) (fun y hy=>hlt y (by simp [hy]))
  ·rw [zzn,eR,iG];rfl
end
end Go.Vm
end
namespace Go.Vm
noncomputable instance tkI:TK:=⟨dt Go.Proofs.Tryz.prog,aw2 Go.Proofs.Tryz.prog⟩
instance kpI:KP Go.Proofs.Tryz.prog:=⟨rfl,rfl⟩
end Go.Vm
section
namespace Go.Vm
open Go.Proofs
theorem avi:(Tryz.prog.underlying 3=some (.int .i64)) /\
 (Tryz.prog.underlying 5=some (.int .u8)) /\
 (Tryz.prog.underlying 9=some (.string)) /\
 (Tryz.prog.underlying 22=some (.slice 31)) /\
 (Tryz.prog.underlying 23=some (.slice 9)) /\
 (Tryz.prog.underlying 24=some (.slice 9)) /\
 (Tryz.prog.underlying 28=some (.int .u32)) /\
 (Tryz.prog.underlying 29=some (.slice 101)) /\
 (Tryz.prog.underlying 59=some (.slice 24)):=
 ⟨zK,zK,zK,zK,zK,zK,zK,zK,zK⟩
theorem atc:(Tryz.prog.underlying 98=some (.slice 28)) /\
 (Tryz.prog.underlying 99=some (.slice 5)) /\
 (Tryz.prog.underlying 141=some (.slice 3)) /\
 (Tryz.prog.underlying 154=some (.slice 4)) /\
 (Tryz.prog.underlying 214=some (.slice 99)):=
 ⟨zK,zK,zK,zK,zK⟩
theorem atp:(mb Tryz.prog 3=some false) /\
 (mb Tryz.prog 4=some false) /\
 (mb Tryz.prog 5=some false) /\
 (mb Tryz.prog 9=some false) /\
 (mb Tryz.prog 22=some false) /\
 (mb Tryz.prog 23=some false) /\
 (mb Tryz.prog 24=some false) /\
 (mb Tryz.prog 26=some false):=
 ⟨zK,zK,zK,zK,zK,zK,zK,zK⟩
theorem aub:(mb Tryz.prog 27=some false) /\
 (mb Tryz.prog 28=some false) /\
 (mb Tryz.prog 29=some false) /\
 (mb Tryz.prog 31=some true) /\
 (mb Tryz.prog 41=some true) /\
 (mb Tryz.prog 45=some false) /\
 (mb Tryz.prog 59=some false) /\
 (mb Tryz.prog 64=some false) /\
 (mb Tryz.prog 66=some true) /\
 (mb Tryz.prog 98=some false) /\
 (mb Tryz.prog 99=some false) /\
 (mb Tryz.prog 101=some true) /\
 (mb Tryz.prog 109=some false) /\
 (mb Tryz.prog 124=some false):=
 ⟨zK,zK,zK,zK,zK,zK,zK,zK,zK,zK,zK,zK,zK,zK⟩
theorem awb:(mb Tryz.prog 126=some true) /\
 (mb Tryz.prog 183=some true) /\
 (mb Tryz.prog 198=some true):=
 ⟨zK,zK,zK⟩
theorem al3:(dt Tryz.prog 3=some 1) /\
 (dt Tryz.prog 4=some 1) /\
 (dt Tryz.prog 5=some 1) /\
 (dt Tryz.prog 9=some 1) /\
 (dt Tryz.prog 22=some 1) /\
 (dt Tryz.prog 23=some 1) /\
 (dt Tryz.prog 24=some 1) /\
 (dt Tryz.prog 26=some 1):=
 ⟨zK,zK,zK,zK,zK,zK,zK,zK⟩
theorem ane:(dt Tryz.prog 27=some 1) /\
 (dt Tryz.prog 28=some 1) /\
 (dt Tryz.prog 29=some 1) /\
 (dt Tryz.prog 31=some 5) /\
 (dt Tryz.prog 41=some 2) /\
 (dt Tryz.prog 45=some 1) /\
 (dt Tryz.prog 59=some 1) /\
 (dt Tryz.prog 64=some 1) /\
 (dt Tryz.prog 66=some 3) /\
 (dt Tryz.prog 98=some 1) /\
 (dt Tryz.prog 99=some 1) /\
 (dt Tryz.prog 101=some 4) /\
 (dt Tryz.prog 109=some 1) /\
 (dt Tryz.prog 124=some 1):=
 ⟨zK,zK,zK,zK,zK,zK,zK,zK,zK,zK,zK,zK,zK,zK⟩
theorem amm:(dt Tryz.prog 126=some 3) /\
 (dt Tryz.prog 183=some 5) /\
 (dt Tryz.prog 198=some 5):=
 ⟨zK,zK,zK⟩
theorem ahq:(ky Tryz.prog 4=some 1):=zK
theorem al2:(fp Tryz.prog 3=some (.int .i64 0)) /\
 (fp Tryz.prog 4=some (.bool false)) /\
 (fp Tryz.prog 5=some (.int .u8 0)) /\
 (fp Tryz.prog 24=some (.slice none 0 0)):=
 ⟨zK,zK,zK,zK⟩
theorem amq:(fp Tryz.prog 31=some (.agg #[.slice none 0 0,.int .u16 0,.int .u16 0,.int .u32 0,.slice none 0 0])) /\
 (fp Tryz.prog 41=some (.agg #[.slice none 0 0,.slice none 0 0])) /\
 (fp Tryz.prog 66=some (.agg #[.int .u8 0,.slice none 0 0,.slice none 0 0])) /\
 (fp Tryz.prog 101=some (.agg #[.slice none 0 0,.slice none 0 0,.slice none 0 0,.slice none 0 0])):=
 ⟨zK,zK,zK,zK⟩
theorem ama:(fp Tryz.prog 126=some (.agg #[.int .u8 0,.slice none 0 0,.slice none 0 0])) /\
 (fp Tryz.prog 183=some (.agg #[.int .i64 0,.int .i64 0,.int .i64 0,.int .i64 0,.int .i64 0])) /\
 (fp Tryz.prog 198=some (.agg #[.int .i64 0,.int .i64 0,.int .i64 0,.int .i64 0,.int .i64 0])):=
 ⟨zK,zK,zK⟩
theorem as9:(Bp Tryz.prog 22=some (31,5,[.sc (.slice none 0 0),.sc (.int .u16 0),.sc (.int .u16 0),.sc (.int .u32 0),.sc (.slice none 0 0)])) /\
 (Bp Tryz.prog 23=some (9,1,[.sc (.string .empty)])) /\
 (Bp Tryz.prog 24=some (9,1,[.sc (.string .empty)])) /\
 (Bp Tryz.prog 29=some (101,4,[.sc (.slice none 0 0),.sc (.slice none 0 0),.sc (.slice none 0 0),.sc (.slice none 0 0)])) /\
 (Bp Tryz.prog 59=some (24,1,[.sc (.slice none 0 0)])) /\
 (Bp Tryz.prog 98=some (28,1,[.sc (.int .u32 0)])) /\
 (Bp Tryz.prog 99=some (5,1,[.sc (.int .u8 0)])) /\
 (Bp Tryz.prog 141=some (3,1,[.sc (.int .i64 0)])) /\
 (Bp Tryz.prog 214=some (99,1,[.sc (.slice none 0 0)])):=
 ⟨zK,zK,zK,zK,zK,zK,zK,zK,zK⟩
theorem af6:(xe Tryz.prog 31=some ([.sc (.slice none 0 0),.sc (.int .u16 0),.sc (.int .u16 0),.sc (.int .u32 0),.sc (.slice none 0 0)],[(0,1),(1,1),(2,1),(3,1),(4,1)])) /\
 (xe Tryz.prog 41=some ([.sc (.slice none 0 0),.sc (.slice none 0 0)],[(0,1),(1,1)])) /\
 (xe Tryz.prog 66=some ([.sc (.int .u8 0),.sc (.slice none 0 0),.sc (.slice none 0 0)],[(0,1),(1,1),(2,1)])) /\
 (xe Tryz.prog 101=some ([.sc (.slice none 0 0),.sc (.slice none 0 0),.sc (.slice none 0 0),.sc (.slice none 0 0)],[(0,1),(1,1),(2,1),(3,1)])) /\
 (xe Tryz.prog 111=some ([.sc (.slice none 0 0),.sc (.slice none 0 0),.sc (.int .i64 0)],[(0,2),(2,1)])) /\
 (xe Tryz.prog 126=some ([.sc (.int .u8 0),.sc (.slice none 0 0),.sc (.slice none 0 0)],[(0,1),(1,1),(2,1)])) /\
 (xe Tryz.prog 183=some ([.sc (.int .i64 0),.sc (.int .i64 0),.sc (.int .i64 0),.sc (.int .i64 0),.sc (.int .i64 0)],[(0,1),(1,1),(2,1),(3,1),(4,1)])) /\
 (xe Tryz.prog 198=some ([.sc (.int .i64 0),.sc (.int .i64 0),.sc (.int .i64 0),.sc (.int .i64 0),.sc (.int .i64 0)],[(0,1),(1,1),(2,1),(3,1),(4,1)])):=
 ⟨zK,zK,zK,zK,zK,zK,zK,zK⟩
theorem aep:(fw Tryz.prog 31 0=some ⟨"Owner",24,0,false, "", "",0⟩) /\
 (fw Tryz.prog 31 1=some ⟨"Type",26,1,false, "", "",24⟩) /\
 (fw Tryz.prog 31 2=some ⟨"Class",27,2,false, "", "",26⟩) /\
 (fw Tryz.prog 31 3=some ⟨"TTL",28,3,false, "", "",28⟩) /\
 (fw Tryz.prog 31 4=some ⟨"Data",29,4,false, "", "",32⟩):=
 ⟨zK,zK,zK,zK,zK⟩
theorem ads:(fw Tryz.prog 41 0=some ⟨"Origin",24,0,false, "", "",0⟩) /\
 (fw Tryz.prog 41 1=some ⟨"Sets",22,1,false, "", "",24⟩) /\
 (fw Tryz.prog 66 0=some ⟨"Turn",64,0,false, "", "",0⟩) /\
 (fw Tryz.prog 66 1=some ⟨"Sets",22,1,false, "", "",8⟩) /\
 (fw Tryz.prog 66 2=some ⟨"To",24,2,false, "", "",32⟩) /\
 (fw Tryz.prog 101 0=some ⟨"Names",59,0,false, "", "",0⟩) /\
 (fw Tryz.prog 101 1=some ⟨"Nums",98,1,false, "", "",24⟩) /\
 (fw Tryz.prog 101 2=some ⟨"Texts",23,2,false, "", "",48⟩) /\
 (fw Tryz.prog 101 3=some ⟨"Raw",99,3,false, "", "",72⟩) /\
 (fw Tryz.prog 111 0=some ⟨"z",41,0,false, "", "nomenclator/zone",0⟩) /\
 (fw Tryz.prog 111 1=some ⟨"e",45,2,false, "", "nomenclator/zone",48⟩):=
 ⟨zK,zK,zK,zK,zK,zK,zK,zK,zK,zK,zK⟩
theorem ai4:(fw Tryz.prog 126 0=some ⟨"Kind",124,0,false, "", "",0⟩) /\
 (fw Tryz.prog 126 1=some ⟨"Node",24,1,false, "", "",8⟩) /\
 (fw Tryz.prog 183 0=some ⟨"Names",3,0,false, "", "",0⟩) /\
 (fw Tryz.prog 183 1=some ⟨"Nums",3,1,false, "", "",8⟩) /\
 (fw Tryz.prog 183 2=some ⟨"Texts",3,2,false, "", "",16⟩) /\
 (fw Tryz.prog 183 3=some ⟨"Raw",3,3,false, "", "",24⟩) /\
 (fw Tryz.prog 183 4=some ⟨"Wide",3,4,false, "", "",32⟩):=
 ⟨zK,zK,zK,zK,zK,zK,zK⟩
theorem aez:(fw Tryz.prog 198 0=some ⟨"names",3,0,false, "", "nomenclator/rdata",0⟩) /\
 (fw Tryz.prog 198 1=some ⟨"nums",3,1,false, "", "nomenclator/rdata",8⟩) /\
 (fw Tryz.prog 198 2=some ⟨"size",3,2,false, "", "nomenclator/rdata",16⟩) /\
 (fw Tryz.prog 198 3=some ⟨"texts",3,3,false, "", "nomenclator/rdata",24⟩) /\
 (fw Tryz.prog 198 4=some ⟨"raw",3,4,false, "", "nomenclator/rdata",32⟩):=
 ⟨zK,zK,zK,zK,zK⟩
theorem as8:(Cn Tryz.prog 22=some (31,5,56)) /\
 (Cn Tryz.prog 23=some (9,1,16)) /\
 (Cn Tryz.prog 24=some (9,1,16)) /\
 (Cn Tryz.prog 29=some (101,4,96)) /\
 (Cn Tryz.prog 59=some (24,1,24)) /\
 (Cn Tryz.prog 98=some (28,1,4)) /\
 (Cn Tryz.prog 99=some (5,1,1)):=
 ⟨zK,zK,zK,zK,zK,zK,zK⟩
theorem azn:(∀ kd,O9 5 kd 31=true) /\
 (O9 1 .str 9=true) /\
 (∀ kd,O9 4 kd 101=true) /\
 (O9 1 .no 24=true) /\
 (O9 1 (.int .u32) 28=true) /\
 (O9 1 (.int .u8) 5=true):=
 ⟨fun _=>by kernel_rfl,zK,fun _=>by kernel_rfl,zK,zK,zK⟩
theorem TF:type_of% avi/\type_of% atc/\type_of% atp/\type_of% aub/\type_of% awb/\type_of% al3/\type_of% ane/\type_of% amm/\type_of% ahq/\type_of% al2/\type_of% amq/\type_of% ama/\type_of% as9/\type_of% af6/\type_of% aep/\type_of% ads/\type_of% ai4/\type_of% aez/\type_of% as8/\type_of% azn:=
 ⟨avi,atc,atp,aub,awb,al3,ane,amm,ahq,al2,amq,ama,as9,af6,aep,ads,ai4,aez,as8,azn⟩
theorem zV:type_of% RA/\type_of% TF:=⟨RA,TF⟩
end Go.Vm
end
section
namespace Go.Proofs.YtgencolcibpcaaaGreat
open Go.Vm
noncomputable abbrev PP:=Tryz.prog
theorem mixed:PP.follows .mixedOrders=true:=zK
theorem aw {T:eh} (hT:ar PP T) {f:Nat} {fn:Func} (hf:PP.funcs[f]? = some fn) (hb:fn.body.isSome=true) (he:nq PP f=true) (hs:ec fn.ntmps (fn.body.getD .skip)=true)
 {args:List AV} (hl:args.length<=fn.ntmps) {ρ:Type} (R:RC ρ) (fr:Bool) (x : ρ)
 (h:wl PP T 0 (fn.body.getD .skip) (c8 PP fn.results.toList (fun r st=>R.get fr st.h r=some x)) (cg 0 args) (bh [])):bf PP f args (R.E fr x):=
 Y6 (body:=fn.body.getD .skip) hT mixed hf (by cases hq:fn.body with|none=>rw [hq] at hb;cases hb|some b=>rfl) he hs hl R fr x h
def i7 (s:ByteArray):Int:=if s.size<1\/63<s.size then 4 else 0
theorem acs (s:ByteArray):wl PP [] 0 (Tryz.f159.body.getD .skip) (c8 PP Tryz.f159.results.toList (fun r st=>(r1 (ba .i64)).get true st.h r=some (i7 s))) (cg 0 [ah.val false s]) (bh []):=by
 unfold Tryz.f159;simp only [↓wR,zV,simprocAttr];rw [cq];refine ⟨fun h=>?_,fun h=>?_⟩
 ·have h1:s.size<1:=by simp at h;omega
  simp only [↓wR,zV,simprocAttr,i7,h,h1,true_or]
 ·have h1:¬ s.size<1:=by simp at h;omega
  simp only [↓wR,zV,simprocAttr,h];rw [cq];refine ⟨fun h=>?_,fun h=>?_⟩
  ·have h2 : 63<s.size:=by simp at h;omega
   simp only [↓wR,zV,simprocAttr,i7,h2,or_true]
  ·have h2:¬ 63<s.size:=by simp at h;omega
   simp only [↓wR,zV,simprocAttr,i7,h1,h2,or_self]
noncomputable def Il (x:ByteArray × Unit):Option AV:=some ((r1 (ba .i64)).E true (i7 x.1))
theorem Vj (x:ByteArray × Unit) (r:AV) (h:Il x=some r):bf PP 159 ((aC ah a0).E x) r:=by cases h;exact aw (ar.nil PP) Tryz.func159 zK zK zK zL (r1 (ba .i64)) true (i7 x.1) (acs x.1)
noncomputable abbrev ark:Nat × Bool × (List AV->M AV):=(159,true,ct (aC ah a0) Il)
def bp (n:Name):Nat:=n.foldl (fun k s=>k+(s.size+1)) 1
theorem adb (l:Name) (c:ByteArray):bp (l++[c])=bp l+(c.size+1):=by simp [bp]
theorem Fc (n:Name) (i:Nat) (c:ByteArray) (h:n[i]? = some c):bp (n.take (i+1))=bp (n.take i)+(c.size+1):=by obtain ⟨hk,rfl⟩:=zg.1 h;rw [zz5 hk,adb]
theorem Fa (l:Name):∀ k,l.foldl (fun k s=>k+(s.size+1)) k=k+l.foldl (fun k s=>k+(s.size+1)) 0:=by
 induction l with
 |nil=>intro k;simp
 |cons a l ih=>intro k;simp only [List.foldl_cons];rw [ih,ih (0+_)];omega
theorem l5 (a b:Name):bp (a++b)+1=bp a+bp b:=by simp only [bp,List.foldl_append];rw [Fa b,Fa b 1];omega
theorem ja (n:Name) (i:Nat):bp (n.take i)<=bp n/\n.length<bp n:=by
 constructor
 ·have:=l5 (n.take i) (n.drop i);rw [zzm] at this;have h1 : 1<=bp (n.drop i):=by simp only [bp];rw [Fa];omega
  omega
 ·induction n with
  |nil=>simp [bp]
  |cons a l ih=>
   have:=l5 [a] l;simp only [List.singleton_append] at this;have h1:bp [a]=a.size+2:=by simp [bp];omega
   simp only [List.length_cons];omega
theorem wrap_i64 (x:Int) (h0 : -9223372036854775808<=x) (h1:x<9223372036854775808):IntKind.i64.wrap x=x:=by simp [IntKind.wrap,IntKind.bits,IntKind.signed];omega
theorem ajz (n:Name) (hn:bp n<17592186044416):wl PP [] 0 (Tryz.f160.body.getD .skip) (c8 PP Tryz.f160.results.toList (fun r st=>(r1 (ba .i64)).get true st.h r=some (bp n:Int))) (cg 0 [ak.val false n]) (bh []):=by
 unfold Tryz.f160;rw [bw];simp only [↓wR,zV,simprocAttr];refine dq [3,6,7,8] (fun (x:Nat)=>[.sc (.int .i64 (bp (n.take x))),.vl false 1 (n.map (ah.val false)),.sc (.int .i64 n.length),.sc (.int .i64 x)]) (fun _=>[]) (fun x=>x<=n.length) (fun x=>n.length - x) 0 (zzb _) ?_ ?_ ?_
 ·simp only [↓wR,zV,simprocAttr]<;>rfl
 ·simp only [↓wR,zV,simprocAttr]
 ·intro i hi;have h1:=ja n i;simp only [↓wR,zV,simprocAttr];rw [cq];refine ⟨fun h=>?_,fun h=>?_⟩
  ·have h4:i<n.length:=by simp at h;omega
   obtain ⟨c,hc⟩:∃ c,n[i]? = some c:=⟨n[i],by simp [h4]⟩;have h2:=Fc n i c hc;have h3:=(ja n (i+1)).1;simp only [↓wR,zV,simprocAttr,hc];refine ⟨i+1,zO,zO,?_⟩;rw [h2];simp only [List.cons.injEq,and_true,true_and,AV.sc.injEq,Value.int.injEq];refine ⟨?_,?_⟩
   ·rw [wrap_i64 ((c.size:Int)+1) zO zO,wrap_i64 _ zO zO];omega
   ·rw [wrap_i64 _ zO zO];omega
  ·have h4:i=n.length:=by simp at h;omega
   subst h4;simp only [↓wR,zV,simprocAttr,zz7]
noncomputable def B3 (x:Name × Unit):Option AV:=if bp x.1<17592186044416 then some ((r1 (ba .i64)).E true ((bp x.1:Int))) else none
theorem X3 (x:Name × Unit) (r:AV) (h:B3 x=some r):bf PP 160 ((aC ak a0).E x) r:=by obtain ⟨hc,rfl⟩:=zI h;exact aw (ar.nil PP) Tryz.func160 zK zK zK zL (r1 (ba .i64)) true ((bp x.1:Int)) (ajz x.1 hc)
noncomputable abbrev avf:Nat × Bool × (List AV->M AV):=(160,true,ct (aC ak a0) B3)
def sj (n:Name):Bool:=n.any fun s=>decide (i7 s≠0)
def dk (n:Name):Int:=if sj n then 4 else if 255<bp n then 5 else 0
theorem O1 (n:Name) (i:Nat) (c:ByteArray) (h:n[i]? = some c):sj (n.take (i+1))=(sj (n.take i) || decide (i7 c≠0)):=by obtain ⟨hk,rfl⟩:=zg.1 h;rw [zz5 hk];simp only [sj,List.any_append,List.any_cons,List.any_nil,Bool.or_false]
theorem O7 (n:Name) (i:Nat) (c:ByteArray) (h:n[i]? = some c) (hc:i7 c≠0):sj n=true:=by simp only [sj,List.any_eq_true];exact ⟨c,zm h,by simp [hc]⟩
theorem ai9 (s:ByteArray):i7 s=0\/i7 s=4:=by unfold i7;split<;>simp
theorem aho (n:Name) (hn:bp n<17592186044416):wl PP [ark,avf] 0 (Tryz.f121.body.getD .skip) (c8 PP Tryz.f121.results.toList (fun r st=>(r1 (ba .i64)).get true st.h r=some (dk n))) (cg 0 [ak.val false n]) (bh []):=by
 unfold Tryz.f121;rw [bw];simp only [↓wR,zV,simprocAttr];refine dq [0,6,7,8] (fun (x:Nat)=>[.vl false 1 (n.map (ah.val false)),.vl false 1 (n.map (ah.val false)),.sc (.int .i64 n.length),.sc (.int .i64 x)]) (fun _=>[]) (fun x=>x<=n.length/\sj (n.take x)=false) (fun x=>n.length - x) 0 ⟨zzb _,by simp [sj]⟩ ?_ ?_ ?_
 ·simp only [↓wR,zV,simprocAttr]<;>rfl
 ·simp only [↓wR,zV,simprocAttr]
 ·rintro i ⟨hi,hb⟩;have h1:=ja n i;simp only [↓wR,zV,simprocAttr];rw [cq];refine ⟨fun h=>?_,fun h=>?_⟩
  ·have h4:i<n.length:=by simp at h;omega
   obtain ⟨c,hc⟩:∃ c,n[i]? = some c:=⟨n[i],by simp [h4]⟩;simp only [↓wR,zV,simprocAttr,hc,Il];rw [cq];refine ⟨fun h=>?_,fun h=>?_⟩
   ·have h5:i7 c≠0:=by simpa using h
    have h6:i7 c=4:=(ai9 c).resolve_left h5;simp only [↓wR,zV,simprocAttr,dk,O7 n i c hc h5,h6]
   ·have h5:i7 c=0:=by simpa using h
    simp only [↓wR,zV,simprocAttr];refine ⟨i+1,⟨zO,by rw [O1 n i c hc,hb];simp [h5]⟩,zO,?_⟩;simp only [List.cons.injEq,and_true,true_and,AV.sc.injEq,Value.int.injEq];rw [wrap_i64 _ zO zO];omega
  ·have h4:i=n.length:=by simp at h;omega
   subst h4;rw [zz7] at hb;simp only [↓wR,zV,simprocAttr,B3,hn];rw [cq];refine ⟨fun h=>?_,fun h=>?_⟩
   ·have h5 : 255<bp n:=by simp at h;omega
    simp only [↓wR,zV,simprocAttr,dk,hb,h5]
   ·have h5:¬ 255<bp n:=by simp at h;omega
    simp only [↓wR,zV,simprocAttr,dk,hb,h5]
noncomputable def qh (x:Name × Unit):Option AV:=if bp x.1<17592186044416 then some ((r1 (ba .i64)).E true (dk x.1)) else none
theorem qy (x:Name × Unit) (r:AV) (h:qh x=some r):bf PP 121 ((aC ak a0).E x) r:=by obtain ⟨hc,rfl⟩:=zI h;exact aw (ar.cons (aq Vj) (ar.cons (aq X3) (ar.nil PP))) Tryz.func121 zK zK zK zL (r1 (ba .i64)) true (dk x.1) (aho x.1 hc)
noncomputable abbrev fk:Nat × Bool × (List AV->M AV):=(121,true,ct (aC ak a0) qh)
def low (c:UInt8):UInt8:=if 65<=c/\c<=90 then c+32 else c
def fold (s:ByteArray):ByteArray:=⟨(s.data.toList.map low).toArray⟩
def od (l:List UInt8) (i:Nat):List UInt8:=(l.take i).map low++l.drop i
theorem awc (l:List UInt8) (i:Nat):(od l i).length=l.length:=by simp [od];omega
theorem ab6 (l:List UInt8) (i:Nat) (h:i<l.length):(od l i)[i]? = l[i]? := by simp [od,List.getElem?_append,Nat.min_eq_left (Nat.le_of_lt h)]
theorem aa4 (l:List UInt8) (i:Nat) (h:i<l.length):(od l i).take i++[low l[i]]++(od l i).drop (i+1)=od l (i+1):=by
 have h1:((l.take i).map low).length=i:=by simp;omega
 have h2:(od l i).take i=(l.take i).map low:=by rw [od,List.take_append_of_le_length zO,zzp zO]
 have h3:(od l i).drop (i+1)=l.drop (i+1):=by rw [od,List.drop_append,zzx zO,h1];simp
 rw [h2,h3,od,zz5 h,zzw];rfl
theorem Up (l:List UInt8) (i:Nat) (h:i<l.length) (hk:low l[i]=l[i]):od l i=od l (i+1):=by
 rw [<- aa4 l i h,hk];have:(od l i)[i]? = some l[i]:=by rw [ab6 l i h];simp [h]
 obtain ⟨hlt,e⟩:=zg.1 this;rw [<- e,<- zz5 hlt,zzm]
theorem agf (s:ByteArray) (hs:s.size<=16777216):wl PP [] 0 (Tryz.f152.body.getD .skip) (c8 PP Tryz.f152.results.toList (fun r st=>(r1 ah).get true st.h r=some (fold s))) (cg 0 [ah.val false s]) (bh []):=by
 unfold Tryz.f152;have hl:s.data.toList.length=s.size:=by simp
 simp only [↓wR,zV,simprocAttr,hs];refine dq [3,8,9,10] (fun (x:Nat)=>[.sl 0 0 s.size 1,.sl 0 0 s.size 1,.sc (.int .i64 s.size),.sc (.int .i64 x)]) (fun x=>[some (.row ((od s.data.toList x).map (bq.val false)) 0 1 5)]) (fun x=>x<=s.size) (fun x=>s.size - x) 0 (zzb _) ?_ ?_ ?_
 ·simp only [↓wR,zV,simprocAttr]<;>rfl
 ·simp only [↓wR,zV,simprocAttr]<;>rfl
 ·intro i hi;simp only [↓wR,zV,simprocAttr];rw [cq];refine ⟨fun h=>?_,fun h=>?_⟩
  ·have h4:i<s.size:=by simp at h;omega
   have h6:i<s.data.toList.length:=zO;have h5:(od s.data.toList i)[i]? = some s.data.toList[i]:=by rw [ab6 s.data.toList i h6];simp [h6]
   obtain ⟨c,hc⟩:∃ c,s.data.toList[i]=c:=⟨_,rfl⟩;have hcl:=c.toNat_lt;rw [hc] at h5;simp only [↓wR,zV,simprocAttr,h4,h5];rw [cq];refine ⟨fun h1=>?_,fun h1=>?_⟩
   ·simp only [↓wR,zV,simprocAttr,h1];rw [cq];refine ⟨fun h2=>?_,fun h2=>?_⟩
    ·have h7:i+1<=s.size:=zO;have bG:low c=c+32:=by
      simp at h1 h2;have a1 : 65<=c:=by rw [UInt8.le_iff_toNat_le];simp;omega
      have a2:c<=90:=by rw [UInt8.le_iff_toNat_le];simp;omega
      simp [low,a1,a2]
     have hw:IntKind.u8.wrap (IntKind.u8.wrap ((c.toNat:Int)+97) - 65)=((low c).toNat:Int):=by simp at h1 h2;rw [bG];simp [IntKind.wrap,IntKind.bits,IntKind.signed,UInt8.toNat_add];omega
     have hst:List.map (bq.val false) (List.take i (od s.data.toList i))++[AV.sc (Value.int IntKind.u8 ((low c).toNat:Int))]++List.map (bq.val false) (List.drop (i+1) (od s.data.toList i))=List.map (bq.val false) (od s.data.toList (i+1)):=by rw [<- aa4 s.data.toList i h6,hc,zzw,zzw];rfl
     simp only [↓wR,zV,simprocAttr,h4,h7,awc,hl,hw,hst];refine ⟨i+1,h7,zO,?_,rfl⟩;rw [wrap_i64 _ zO zO];rfl
    ·simp only [↓wR,zV,simprocAttr];have hk:low c=c:=by
      simp at h2;have a2:¬ c<=90:=by rw [UInt8.le_iff_toNat_le];simp;omega
      simp [low,a2]
     refine ⟨i+1,zO,zO,?_,?_⟩
     ·rw [wrap_i64 _ zO zO];rfl
     ·rw [Up s.data.toList i h6 (by rw [hc];exact hk)]
   ·simp only [↓wR,zV,simprocAttr,h1];have hk:low c=c:=by
     simp at h1;have a2:¬ 65<=c:=by rw [UInt8.le_iff_toNat_le];simp;omega
     simp [low,a2]
    refine ⟨i+1,zO,zO,?_,?_⟩
    ·rw [wrap_i64 _ zO zO];rfl
    ·rw [Up s.data.toList i h6 (by rw [hc];exact hk)]
  ·have h4:i=s.size:=by simp at h;omega
   subst h4;have:∃ m,List.map low s.data.toList=m:=⟨_,rfl⟩;obtain ⟨m,hm⟩:=this;have h5:od s.data.toList s.size=m:=by rw [od,zzp (Nat.le_of_eq hl),zzx (Nat.le_of_eq hl),zzn,hm]
   have iQ:m.length=s.size:=by rw [<- hm,zzo,hl]
   have h6:List.take s.size (List.map (bq.val false) m)=List.map (bq.val false) m:=zzp (by rw [zzo,iQ];exact zza _);have hf:fold s=⟨m.toArray⟩:=by rw [fold,hm]
   rw [h5,hf];simp only [↓wR,zV,simprocAttr,iQ,h6]
noncomputable def uy (x:ByteArray × Unit):Option AV:=if x.1.size<=16777216 then some ((r1 ah).E true (fold x.1)) else none
theorem C4 (x:ByteArray × Unit) (r:AV) (h:uy x=some r):bf PP 152 ((aC ah a0).E x) r:=by obtain ⟨hc,rfl⟩:=zI h;exact aw (ar.nil PP) Tryz.func152 zK zK zK zL (r1 ah) true (fold x.1) (agf x.1 hc)
noncomputable abbrev Pr:Nat × Bool × (List AV->M AV):=(152,true,ct (aC ah a0) uy)
theorem ah1 (a b:ByteArray) (ha:a.size<=16777216) (hb:b.size<=16777216):wl PP [Pr] 0 (Tryz.f145.body.getD .skip) (c8 PP Tryz.f145.results.toList (fun r st=>(r1 bk).get true st.h r=some (decide (fold a=fold b)))) (cg 0 [ah.val false a,ah.val false b]) (bh []):=by unfold Tryz.f145;simp only [↓wR,zV,simprocAttr,uy,ha,hb]
noncomputable def Bo (x:ByteArray × ByteArray × Unit):Option AV:=if x.1.size<=16777216/\x.2.1.size<=16777216 then some ((r1 bk).E true (decide (fold x.1=fold x.2.1))) else none
theorem Zg (x:ByteArray × ByteArray × Unit) (r:AV) (h:Bo x=some r):bf PP 145 ((aC ah (aC ah a0)).E x) r:=by obtain ⟨hc,rfl⟩:=zI h;exact aw (ar.cons (aq C4) (ar.nil PP)) Tryz.func145 zK zK zK zL (r1 bk) true (decide (fold x.1=fold x.2.1)) (ah1 x.1 x.2.1 hc.1 hc.2)
noncomputable abbrev auo:Nat × Bool × (List AV->M AV):=(145,true,ct (aC ah (aC ah a0)) Bo)
end Go.Proofs.YtgencolcibpcaaaGreat
end
section
namespace Go.Proofs.YtgencolcibpcaaaGreat
open Go.Vm Go.RowKit
theorem aC4 {x:Value} (h:nw x = .str):∃ s,x = .string s:=by cases x<;>first|exact ⟨_,rfl⟩|cases h
theorem Ui {x:Value} {k:IntKind} (h:nw x = .int k):∃ i,x = .int k i:=by cases x<;>first|(cases h;exact ⟨_,rfl⟩)|cases h
theorem Oj:Tryz.f38.ntmps=22:=rfl
set_option maxHeartbeats 1600000 in
theorem yz {S:Nat->Prop} {M:Nat} {v:Value} {w:World} (hM:M<9223372036854775807) (hv:mo S M w .str v) :
 Calls PP 38 #[v] w (fun e w'=>∃ r,e = .returned r/\gp S 1 false w w'):=by
 rcases hv with ⟨a,rfl⟩|⟨b,off,n,cap,cs,e,rfl,h1,⟨h2,hcm⟩,h3,h4,h5,h6⟩
 ·go_enter Tryz.func38,Oj
  cases a with
  |none=>
   go_wp2
   refine wp_loop_rounds 1 ?_;rw [rounds_succ]
   go_wp2
   go_end0
   exact ⟨_,rfl,.refl _ _ _ _⟩
  |some a=>
   go_wp2
   refine wp_loop_rounds 1 ?_;rw [rounds_succ]
   go_wp2
   go_end0
   exact ⟨_,rfl,.refl _ _ _ _⟩
 unfold maxLen at hcm
 go_enter Tryz.func38,Oj
 go_wp2
 go_loopw [3] (fun i wr=>∃ k:Nat,k<=cap/\i = .int .i64 k/\Lp w b cs e off 1 k wr)
  (fun i _=>cap - (RowKit.intOf i).toNat)
 case atStart=>exact ⟨0,zzb _,rfl,.start h3⟩
 case round=>
  obtain ⟨k,hk,rfl,hl⟩:=hrel;by_cases fS:k<cap
  ·have hlt:off+k<cs.size:=zO;obtain ⟨x,hx⟩:∃ x,cs[off+k]? = some x:=⟨_,zz3 hlt⟩;obtain ⟨q1,q2⟩:=h6 k x fS hx;obtain ⟨s,rfl⟩:=aC4 q1;have hs:=hl.cell hx;have hfz:=hl.frozen (off+k);have AP:s.size+1<=9223372036854775807:=by have:=q2 s rfl;omega
   go_wp2
   go_roundw
   case rel=>exact ⟨k+1,zO,by simp,hl.step hx (by simp [nw]) rfl (fun s' e=>by cases e;exact ⟨s,rfl,by rw [ByteArray.size_append];exact zza _⟩)⟩
   case measure=>simp [RowKit.intOf];omega
  ·go_wp2
   go_end0
   exact ⟨_,rfl,hl.ph h3 h1⟩
theorem agh:Tryz.f117.ntmps=22:=rfl
set_option maxHeartbeats 1600000 in
theorem acp {S:Nat->Prop} {M:Nat} {v:Value} {w:World} (hv:mo S M w (.int .u8) v) :
 Calls PP 117 #[v] w (fun e w'=>∃ r,e = .returned r/\gp S 1 false w w'):=by
 obtain ⟨base,n,cap,rfl,h2,hcm,hb0⟩:=hv.form;unfold maxLen at hcm;have hst:=Nk.start (m:=1) hv
 go_enter Tryz.func117,agh
 go_wp2
 go_loopw [3] (fun i wr=>∃ k:Nat,k<=cap/\i = .int .i64 k/\Nk S 1 k w (.slice base n cap) wr)
  (fun i _=>cap - (RowKit.intOf i).toNat)
 case atStart=>exact ⟨0,zzb _,rfl,hst⟩
 case round=>
  obtain ⟨k,hk,rfl,hl⟩:=hrel;by_cases fS:k<cap
  ·obtain ⟨b,off,x,rfl,hs,hfz,q1,q2,hstep⟩:=hl.at (by decide) hv fS;obtain ⟨y,rfl⟩:=Ui q1
   go_wp2
   go_roundw
   case rel=>exact ⟨k+1,zO,by simp,hstep _ rfl (fun s' e=>by cases e)⟩
   case measure=>simp [RowKit.intOf];omega
  ·go_wp2
   go_end0
   exact ⟨_,rfl,hl.ph⟩
theorem aj1:Tryz.f66.ntmps=44:=rfl
set_option maxHeartbeats 1600000 in
theorem aib {S:Nat->Prop} {Nn M:Nat} {va vb vc vd:Value} {w:World} (oW : 4<=M) (hM:M+(Nn+3)<9223372036854775807) (hS:∀ b,w.heap.size<=b->S b) (hv:Qn S Nn M w [va,vb,vc,vd]) :
 Calls PP 66 #[.agg #[va,vb,vc,vd]] w (fun e w'=>∃ r,e = .returned r/\gp S (Nn+3) false w w'):=by
 obtain ⟨_,_,_,_,he,ha,hb,hc,hd⟩:=hv;cases he;have dM:gp S 0 false w (w.alloc (.cells #[va,vb,vc,vd] 101)):=gp.alloc _;obtain ⟨bn,an,cn,rfl,yU,yT,sL,yS⟩:=ha.form;obtain ⟨bm,am,cm,rfl,BD,yV,BC⟩:=hb.form;unfold maxLen at sL yV;have dV:(w.alloc (.cells #[Value.slice bn an cn,.slice bm am cm,vc,vd] 101)).heap[w.heap.size]? = some (.cells #[Value.slice bn an cn,.slice bm am cm,vc,vd] 101 (0,0)):=z9 _ _;have cell:∀ {m:Nat} {wr:World},gp S m false (w.alloc (.cells #[Value.slice bn an cn,.slice bm am cm,vc,vd] 101)) wr->wr.cell? ⟨w.heap.size,0,none⟩=some (.slice bn an cn)/\wr.cell? ⟨w.heap.size,1,none⟩=some (.slice bm am cm)/\wr.cell? ⟨w.heap.size,2,none⟩=some vc/\wr.cell? ⟨w.heap.size,3,none⟩=some vd:=by intro m wr h;refine ⟨h.stay (by rw [jr dV];rfl) rfl,h.stay (by rw [jr dV];rfl) rfl,h.stay (by rw [jr dV];rfl) hc.slice,h.stay (by rw [jr dV];rfl) hd.slice⟩
 go_enter Tryz.func66,aj1
 go_wp2
 go_loopw [2] (fun i wr=>∃ k:Nat,k<=an/\i = .int .i64 k/\gp S k false (w.alloc (.cells #[Value.slice bn an cn,.slice bm am cm,vc,vd] 101)) wr)
  (fun i _=>an - (RowKit.intOf i).toNat)
 case atStart=>exact ⟨0,zzb _,rfl,.refl _ _ _ _⟩
 case round=>
  obtain ⟨k,hk,rfl,ho⟩:=hrel;obtain ⟨c0,c1,c2,c3⟩:=cell ho;by_cases fS:k<an
  ·have hn:=aaj oW (dM.trans ho) ha;obtain ⟨b,off,cs,e,rfl,e1,e2,e3,e4,e5,e6,v,e7,e8⟩:=hn.at fS;have h9:cs.getD (off+k) undef=v:=by simpa using e7
   have hx:wr.cell? ⟨b,off+k,none⟩=some v:=by rw [<- h9];exact cell_of e2 zO
   go_wp2
   refine (yz zO e8).mono ?_;rintro ex w2 ⟨r,rfl,fR⟩
   go_wp2
   go_roundw
   case rel=>exact ⟨k+1,fS,by simp,ho.trans fR⟩
   case measure=>simp [RowKit.intOf];omega
  ·go_wp2
   have iY:=(hb.ph (by decide) (dM.trans ho)).mono (M':=M+Nn) zO;have hst:=Nk.start (m:=1) iY
   go_loopw [4] (fun i w2=>∃ q:Nat,q<=cm/\i = .int .i64 q/\Nk S 1 q wr (.slice bm am cm) w2)
    (fun i _=>cm - (RowKit.intOf i).toNat)
   case atStart=>exact ⟨0,zzb _,rfl,hst⟩
   case round=>
    obtain ⟨q,hq,rfl,hl⟩:=hrel;by_cases oC:q<cm
    ·obtain ⟨b,off,x,rfl,hs,hfz,q1,q2,hstep⟩:=hl.at (by decide) iY oC;obtain ⟨y,rfl⟩:=Ui q1
     go_wp2
     go_roundw
     case rel=>exact ⟨q+1,zO,by simp,hstep _ rfl (fun s' e=>by cases e)⟩
     case measure=>simp [RowKit.intOf];omega
    ·have ho2:=hl.ph;obtain ⟨d0,d1,d2,d3⟩:=cell (ho.trans ho2)
     go_wp2
     have h3:=(dM.trans ho).trans ho2;refine (yz (M:=M+(0+k+1)) zO (hc.ph (by decide) h3)).mono ?_;rintro ex w2 ⟨r,rfl,fR⟩;obtain ⟨f0,f1,f2,f3⟩:=cell ((ho.trans ho2).trans fR)
     go_wp2
     refine (acp (hd.ph (by decide) (h3.trans fR))).mono ?_;rintro ex w3 ⟨r2,rfl,qE⟩
     go_wp2
     go_end0
     exact ⟨_,rfl,((h3.trans fR).trans qE).mono zO⟩
theorem aDe:TK.sz 9=some 1:=zK
theorem akr:Tryz.f19.ntmps=86:=rfl
set_option maxHeartbeats 3200000 in
theorem Hc {S:Nat->Prop} {Nn Nd N M:Nat} {v:Value} {w:World} (oW : 4<=M) (hM:M+N * (1+Nd * (Nn+3))+(Nn+3)<9223372036854775807) (hS:∀ b,w.heap.size<=b->S b) (hv:mi S N w 5 (Ct S Nn Nd M) v) :
 Calls PP 19 #[v] w (fun e w'=>∃ r,e = .returned r/\gp S (N * (1+Nd * (Nn+3))) true w w'):=by
 obtain ⟨bn,an,cn,rfl,yU,yT,sL,yS⟩:=hv.form;unfold maxLen at sL
 go_enter Tryz.func19,akr
 go_wp2
 go_loopw [2] (fun i wr=>∃ k:Nat,k<=an/\i = .int .i64 k/\gp S (k * (1+Nd * (Nn+3))) true w wr)
  (fun i _=>an - (RowKit.intOf i).toNat)
 case atStart=>exact ⟨0,zzb _,rfl,(gp.refl _ _ _ _)⟩
 case round=>
  obtain ⟨k,hk,rfl,ho⟩:=hrel;by_cases fS:k<an
  ·have hn:=La oW ho hv;obtain ⟨b,off,cs,e,rfl,e1,e2,e3,e4,e5,e6,o,ty,cl,u,d,e7,e8,e9,eA,e11,nO⟩:=hn.at fS;simp only [show List.range 5=[0,1,2,3,4] from rfl,List.map_cons,List.map_nil,List.cons.injEq,and_true,Nat.add_zero] at e7;obtain ⟨g0,g1,g2,g3,g4⟩:=e7;have c0:wr.cell? ⟨b,off+k * 5,none⟩=some o:=by rw [<- g0];exact cell_of e2 zO
   have c4:wr.cell? ⟨b,off+k * 5+4,none⟩=some d:=by rw [<- g4];exact cell_of e2 zO
   go_wp2
   refine (yz (M:=M+k * (1+Nd * (Nn+3))) (by have:=zz4 (1+Nd * (Nn+3)) (show k<=N by omega);omega) e8).mono ?_;rintro ex w2 ⟨r,rfl,fR⟩;obtain ⟨bd,dn,dc,rfl,d1,d2,d3,d4⟩:=nO.form;unfold maxLen at d3;have hsz:w.heap.size<=w2.heap.size:=zzu ho.size fR.size;have f4:w2.cell? ⟨b,off+k * 5+4,none⟩=some (.slice bd dn dc):=fR.stay c4 rfl
   go_wp2
   go_loopw [3] (fun i wr2=>∃ q:Nat,q<=dn/\i = .int .i64 q/\gp S (q * (Nn+3)) false w2 wr2)
    (fun i _=>dn - (RowKit.intOf i).toNat)
   case atStart=>exact ⟨0,zzb _,rfl,(gp.refl _ _ _ _)⟩
   case round=>
    obtain ⟨q,hq,rfl,ho2⟩:=hrel;have f5:=ho2.stay f4 rfl;by_cases oC:q<dn
    ·have gR:=Hj zO (fR.trans ho2) nO;obtain ⟨b2,cD,jE,yK,rfl,p1,p2,p3,p4,p5,p6,p7⟩:=gR.at oC;obtain ⟨x0,x1,x2,x3,p8,p9⟩:=id p7;simp only [show List.range 4=[0,1,2,3] from rfl,List.map_cons,List.map_nil,List.cons.injEq,and_true,Nat.add_zero] at p8;obtain ⟨q0,q1,q2,q3⟩:=p8;have i0:wr.cell? ⟨b2,cD+q * 4,none⟩=some x0:=by rw [<- q0];exact cell_of p2 zO
     have i1:wr.cell? ⟨b2,cD+q * 4+1,none⟩=some x1:=by rw [<- q1];exact cell_of p2 zO
     have i2:wr.cell? ⟨b2,cD+q * 4+2,none⟩=some x2:=by rw [<- q2];exact cell_of p2 zO
     have i3:wr.cell? ⟨b2,cD+q * 4+3,none⟩=some x3:=by rw [<- q3];exact cell_of p2 zO
     have kD:k * (1+Nd * (Nn+3))+(1+Nd * (Nn+3))<=N * (1+Nd * (Nn+3)):=by rw [<- Nat.succ_mul];exact zz4 _ zO
     have kP:q * (Nn+3)+(Nn+3)<=Nd * (Nn+3):=by rw [<- Nat.succ_mul];exact zz4 _ zO
     go_wp2
     refine (aib (M:=M+k * (1+Nd * (Nn+3))+(1+q * (Nn+3))) zO zO (fun b hb=>hS b (by have:=ho2.size;omega)) ⟨x0,x1,x2,x3,rfl,p9⟩).mono ?_;rintro ex w3 ⟨r3,rfl,qD⟩
     go_wp2
     go_roundw
     case rel=>exact ⟨q+1,oC,by simp,by rw [Nat.succ_mul];exact ho2.trans qD⟩
     case measure=>simp [RowKit.intOf];omega
    ·go_wp2
     go_region
     go_wp2
     have kP:q=dn:=zO;subst kP;have h3:=fR.trans ho2
     go_loopw [5] (fun i uY=>∃ p:Nat,q<=p/\(p<=dc\/p=q)/\i = .int .i64 p/\gp S 0 true wr uY)
      (fun i _=>dc - (RowKit.intOf i).toNat)
     case atStart=>exact ⟨q,zza _,.inr rfl,rfl,gp.quiet _ _ _ (zza _) rfl rfl rfl (fun _ _=>rfl)⟩
     case round=>
      obtain ⟨p,fQ,lW,rfl,oF⟩:=hrel;by_cases wP:p<dc
      ·have oT:=Hj (xx:=true) zO (h3.any.trans oF) nO;obtain ⟨b2,cD,jE,yK,rfl,p1,p2,p3,p4,p5,p6⟩:=oT.room wP;have hfz:=Oc p2;have m0:=fun o=>qn p2 o (j:=cD+p * 4) zO
       have m1:=fun o=>qn p2 o (j:=cD+p * 4+1) zO
       have m2:=fun o=>qn p2 o (j:=cD+p * 4+2) zO
       have m3:=fun o=>qn p2 o (j:=cD+p * 4+3) zO
       go_wp2
       go_roundw
       case rel=>exact ⟨p+1,zO,.inl zO,by simp,oF.trans (gp.spare p2 p1 p3 (hS _ (by have:=oF.size;have:=ho2.size;omega)) zO aDe (by decide))⟩
       case measure=>simp [RowKit.intOf];omega
      ·have ht:=(ho.trans h3.any).trans oF;obtain ⟨b',bU,cs',e',he',y1,y2,y3,y4,y5,y6,o',ty',yQ,u',d',y7,y8,y9,zD,uU,zC⟩:=(La oW ht hv).at fS;cases he';simp only [show List.range 5=[0,1,2,3,4] from rfl,List.map_cons,List.map_nil,List.cons.injEq,and_true,Nat.add_zero] at y7;obtain ⟨z0,sP,z2,sO,z4⟩:=y7;have l1:wr.cell? ⟨b,off+k * 5+1,none⟩=some ty':=by rw [<- sP];exact cell_of y2 zO
       have l3:wr.cell? ⟨b,off+k * 5+3,none⟩=some u':=by rw [<- sO];exact cell_of y2 zO
       have z1:=H4 y2 (off+k * 5+1);have z3:=H4 y2 (off+k * 5+3);obtain ⟨i1,rfl⟩:=Ui y9;obtain ⟨i3,rfl⟩:=Ui uU
       go_wp2
       have hs3:=gp.set (v:=.int .u32 (bits BinOp.xor .u32 i3 77)) y2 y1 (j:=off+k * 5+3) (x:=.int .u32 i3) (by rw [<- sO,zze,zz3 zO];rfl) (by intro q;cases q) rfl (fun s q=>by cases q);have hs1:=gp.set (v:=.int .u16 (bits BinOp.xor .u16 i1 77)) hs3.2 y1 (j:=off+k * 5+1) (x:=.int .u16 i1) (by rw [zzz,if_neg zO,<- sP,zze,zz3 zO];rfl) (by intro q;cases q) rfl (fun s q=>by cases q);have lU:q * (Nn+3)<=Nd * (Nn+3):=zz4 _ d1
       go_roundw
       case rel=>exact ⟨k+1,fS,by simp,by rw [Nat.succ_mul];exact ((ht.trans (hs3.1.trans hs1.1).any)).mono zO⟩
       case measure=>simp [RowKit.intOf];omega
  ·go_wp2
   go_end0
   exact ⟨_,rfl,ho.mono (zz4 _ zO)⟩
end Go.Proofs.YtgencolcibpcaaaGreat
end
section
namespace Go.Proofs.YtgencolcibpcaaaGreat
open Go.Vm
def fg:List ByteArray->List ByteArray->Nat
 |a::r,b::q=>if fold a=fold b then fg r q+1 else 0
 |_,_=>0
theorem Sp (l:List ByteArray):fg l []=0:=by cases l<;>rfl
def common (a b:Name):Nat:=fg a.reverse b.reverse
theorem K5 {l:List ByteArray} {x:Nat} {c:ByteArray} (h:x<l.length) (hc:l[l.length - 1 - x]? = some c):l.reverse.drop x=c::l.reverse.drop (x+1):=by
 have h1:l.reverse[x]? = some c:=by rw [List.getElem?_reverse h];exact hc
 obtain ⟨h2,h3⟩:=zg.1 h1;rw [<- h3];exact zzs h2
theorem acu (a b:Name) (ha:∀ s ∈ a,s.size<=16777216) (hb:∀ s ∈ b,s.size<=16777216) (kC:a.length<17592186044416) (qR:b.length<17592186044416):wl PP [auo] 0 (Tryz.f106.body.getD .skip) (c8 PP Tryz.f106.results.toList (fun r st=>(r1 (ba .i64)).get true st.h r=some (common a b:Int))) (cg 0 [ak.val false a,ak.val false b]) (bh []):=by
 unfold Tryz.f106;simp only [bw];simp only [↓wR,zV,simprocAttr];refine cx (T:=[]) (ar.nil PP) mixed Tryz.func144 rfl zK zK zK zK ?_;unfold Tryz.f144;simp only [↓wR,zV,simprocAttr];refine ⟨[2,3,4,5,10],?_⟩;have hib:D4 PP 177=some (Tryz.f177.ntmps,Tryz.f177.body.getD .skip):=zK;simp only [↓wR,zV,simprocAttr,hib];refine ⟨zK,fun l=>?_⟩;unfold Tryz.f177;simp only [↓wR,zV,simprocAttr];refine If [0,1,3] (fun (x:Nat)=>[.sc (.func (.yield l) #[] #[]),.ptr 4 0,.sc (.int .i64 ((a.length:Int) - 1 - x))]) (fun x=>[some (.row [.vl false 1 (a.map (ah.val false))] 0 2 24),some (.row [.vl false 1 (b.map (ah.val false))] 0 2 24),some (.row [.sc (.int .i64 0)] 0 2 3),some (.row [.sc (.int .i64 x)] 0 2 3),some (.row [.vl false 1 (a.map (ah.val false))] 0 2 24)]) (fun x=>x<=a.length/\common a b=x+fg (a.reverse.drop x) (b.reverse.drop x)) (fun x=>a.length - x) 0 ⟨zzb _,by simp [common]⟩ ?_ ?_ ?_
 ·simp only [↓wR,zV,simprocAttr];simp;rw [wrap_i64 _ zO zO]
 ·simp only [↓wR,zV,simprocAttr]<;>rfl
 rintro x ⟨hx,hR⟩;simp only [↓wR,zV,simprocAttr];rw [xz];refine ⟨fun h=>?_,fun h=>?_⟩
 ·have hx':x<a.length:=by simp at h;omega
  obtain ⟨c,hc⟩:∃ c,a[a.length - 1 - x]? = some c:=⟨_,zh zO⟩;have e:((a.length:Int) - 1 - x).toNat=a.length - 1 - x:=zO;have e2:(0:Int)<=(a.length:Int) - 1 - x:=zO;simp only [↓wR,zV,simprocAttr,e,hc,e2];refine Bj [0,1,3,12,16] ?_;simp only [↓wR,zV,simprocAttr,B5,oi,hc];simp (disch:=omega) only [zW];rw [cq];refine ⟨fun h1=>?_,fun h1=>?_⟩
  ·have hb0:b.length<=x:=by simp at h1;omega
   have hb1:b.reverse.drop x=[]:=zzx (by simpa using hb0);rw [hb1,Sp] at hR;simp only [↓wR,zV,simprocAttr,h1];rw [hR,Nat.add_zero]
  ·have hb0:x<b.length:=by simp at h1;omega
   obtain ⟨d,hd⟩:∃ d,b[b.length - 1 - x]? = some d:=⟨_,zh zO⟩;have e4:((b.length:Int) - ((a.length:Int) - ((a.length:Int) - 1 - x))).toNat=b.length - 1 - x:=zO;have e5:(0:Int)<=(b.length:Int) - ((a.length:Int) - ((a.length:Int) - 1 - x)):=zO;simp only [↓wR,zV,simprocAttr,h1,hd,e4,e5,Bo,ha c (zm hc),hb d (zm hd)];rw [K5 hx' hc,K5 hb0 hd,fg] at hR;rw [cq];refine ⟨fun h2=>?_,fun h2=>?_⟩
   ·have h3:¬ fold c=fold d:=by simpa using h2
    rw [if_neg h3] at hR;simp only [↓wR,zV,simprocAttr,h2];rw [hR,Nat.add_zero]
   ·have h3:fold c=fold d:=by simpa using h2
    rw [if_pos h3] at hR;simp only [↓wR,zV,simprocAttr,h2];refine ⟨x+1,⟨zO,zO⟩,zO,?_,?_⟩
    ·simp only [List.cons.injEq,and_true,true_and,AV.sc.injEq,Value.int.injEq];simp (disch:=omega) only [zW];omega
    ·simp (disch:=omega) only [zW];rfl
 ·have h4:x=a.length:=by simp at h;omega
  have h5:a.reverse.drop x=[]:=zzx (by simp;omega);rw [h5,fg] at hR;simp only [↓wR,zV,simprocAttr,h];rw [hR,Nat.add_zero]
  all_goals simp
theorem aj3 (args:List AV):Ca PP 194 args (Cx.qa args):=
 Cx.Pv (fn:=(PP.funcs[194]?).getD default) zK zK zK zK zK args
noncomputable abbrev att:Nat × Bool × (List AV->M AV):=(194,true,Cx.qa)
theorem asn:ar PP [att]:=ar.cons aj3 (ar.nil PP)
noncomputable def v7 (a b:ByteArray):Int:=Lib.compareBytes a.data.toList b.data.toList
theorem Q3 (a b:ByteArray):wl PP [] 0 (Tryz.f151.body.getD .skip) (c8 PP Tryz.f151.results.toList (fun r st=>(r1 (ba .i64)).get true st.h r=some (v7 a b))) (cg 0 [ah.val false a,ah.val false b]) (bh []):=by unfold Tryz.f151;simp only [↓wR,zV,simprocAttr];refine cx (T:=[att]) asn mixed Tryz.func179 rfl zK zK zK zK ?_;unfold Tryz.f179;simp only [↓wR,zV,simprocAttr,v7]
noncomputable def Bm (x:ByteArray × ByteArray × Unit):Option AV:=some ((r1 (ba .i64)).E true (v7 x.1 x.2.1))
theorem Mx (x:ByteArray × ByteArray × Unit) (r:AV) (h:Bm x=some r):bf PP 151 ((aC ah (aC ah a0)).E x) r:=by cases h;exact aw (ar.nil PP) Tryz.func151 zK zK zK zL (r1 (ba .i64)) true (v7 x.1 x.2.1) (Q3 x.1 x.2.1)
noncomputable abbrev Yf:Nat × Bool × (List AV->M AV):=(151,true,ct (aC ah (aC ah a0)) Bm)
theorem Wx (a b:ByteArray) (ha:a.size<=16777216) (hb:b.size<=16777216):wl PP [Pr,Yf] 0 (Tryz.f109.body.getD .skip) (c8 PP Tryz.f109.results.toList (fun r st=>(r1 (ba .i64)).get true st.h r=some (v7 (fold a) (fold b)))) (cg 0 [ah.val false a,ah.val false b]) (bh []):=by unfold Tryz.f109;simp only [↓wR,zV,simprocAttr,uy,Bm,ha,hb]
noncomputable def vi (x:ByteArray × ByteArray × Unit):Option AV:=if x.1.size<=16777216/\x.2.1.size<=16777216 then some ((r1 (ba .i64)).E true (v7 (fold x.1) (fold x.2.1))) else none
theorem Q4 (x:ByteArray × ByteArray × Unit) (r:AV) (h:vi x=some r):bf PP 109 ((aC ah (aC ah a0)).E x) r:=by obtain ⟨hc,rfl⟩:=zI h;exact aw (ar.cons (aq C4) (ar.cons (aq Mx) (ar.nil PP))) Tryz.func109 zK zK zK zL (r1 (ba .i64)) true (v7 (fold x.1) (fold x.2.1)) (Wx x.1 x.2.1 hc.1 hc.2)
noncomputable abbrev ae1:Nat × Bool × (List AV->M AV):=(109,true,ct (aC ah (aC ah a0)) vi)
def ek (n:Name):List ByteArray:=n.map fold
def ay (n:Name):Prop:=bp n<=16777216
instance (n:Name):Decidable (ay n):=inferInstanceAs (Decidable (_<=_))
theorem afb {n:Name} {s:ByteArray} (h:s ∈ n):s.size<bp n:=by
 obtain ⟨a,b,rfl⟩:=List.append_of_mem h;have h1:=l5 a ([s]++b);have h2:=l5 [s] b;have h3:bp [s]=s.size+2:=by simp [bp];omega
 have h4:∀ l:Name,1<=bp l:=fun l=>by have:=(ja l 0).2;omega
 have:=h4 a;have:=h4 b;simp only [List.singleton_append] at h1 h2;omega
theorem ay.label {n:Name} (h:ay n):∀ s ∈ n,s.size<=16777216:=fun s hs=>by have:=afb hs;unfold ay at h;omega
theorem ay.len {n:Name} (h:ay n):n.length<17592186044416:=by have:=(ja n 0).2;unfold ay at h;omega
theorem Fj:∀ r q:List ByteArray,fg r q<=q.length
 | [],q=>by simp [fg]
 |a::r,[]=>by simp [fg]
 |a::r,b::q=>by
  have:=Fj r q;simp only [fg,List.length_cons]
  split<;>omega
theorem Bt:∀ r q:List ByteArray,fg r q<=r.length
 | [],q=>by simp [fg]
 |a::r,[]=>by simp [fg]
 |a::r,b::q=>by
  have:=Bt r q;simp only [fg,List.length_cons]
  split<;>omega
theorem Rp:∀ r q:List ByteArray,fg r q=q.length↔q.map fold <+: r.map fold
 | [],[]=>by simp [fg]
 |a::r,[]=>by simp [fg]
 | [],b::q=>by simp [fg]
 |a::r,b::q=>by
  have:=Rp r q;simp only [fg,List.length_cons,List.map_cons,List.cons_prefix_cons];by_cases h:fold a=fold b
  ·rw [if_pos h];constructor
   ·intro h1;exact ⟨h.symm,this.1 zO⟩
   ·intro h1;have:=this.2 h1.2;omega
  ·rw [if_neg h];constructor
   ·intro h1;omega
   ·intro h1;exact (h h1.1.symm).elim
theorem Cc (n top:Name):common n top=top.length↔ek top <:+ ek n:=by unfold common ek;rw [<- List.length_reverse,Rp,List.map_reverse,List.map_reverse,List.reverse_prefix]
theorem Dz (a b:Name):(a.length=b.length/\common a b=a.length)↔ek a=ek b:=by
 constructor
 ·rintro ⟨h1,h2⟩;rw [h1] at h2;have:=(Cc a b).1 h2;exact (this.eq_of_length (by simp [ek,h1])).symm
 ·intro h;have hl:a.length=b.length:=by have:=congrArg List.length h;simpa [ek] using this
  refine ⟨hl,?_⟩;rw [hl];exact (Cc a b).2 (by rw [h];exact List.suffix_refl _)
def dm (a b:Name):Bool:=decide (ek a=ek b)
def dp (n top:Name):Bool:=decide (ek top <:+ ek n)
noncomputable def qq (x:Name × Name × Unit):Option AV:=if ay x.1/\ay x.2.1 then some ((r1 (ba .i64)).E true ((common x.1 x.2.1:Int))) else none
theorem A1 (x:Name × Name × Unit) (r:AV) (h:qq x=some r):bf PP 106 ((aC ak (aC ak a0)).E x) r:=by obtain ⟨hc,rfl⟩:=zI h;exact aw (ar.cons (aq Zg) (ar.nil PP)) Tryz.func106 zK zK zK zL (r1 (ba .i64)) true ((common x.1 x.2.1:Int)) (acu x.1 x.2.1 hc.1.label hc.2.label hc.1.len hc.2.len)
noncomputable abbrev Lw:Nat × Bool × (List AV->M AV):=(106,true,ct (aC ak (aC ak a0)) qq)
theorem aef (n top:Name) (hn:ay n) (ht:ay top):wl PP [Lw] 0 (Tryz.f72.body.getD .skip) (c8 PP Tryz.f72.results.toList (fun r st=>(r1 bk).get true st.h r=some (dp n top))) (cg 0 [ak.val false n,ak.val false top]) (bh []):=by
 unfold Tryz.f72;simp only [bw];simp only [↓wR,zV,simprocAttr,qq,hn,ht]
 congr 1
 unfold dp;have:=Cc n top;rw [zyb];simp [<- this];omega
noncomputable def ot (x:Name × Name × Unit):Option AV:=if ay x.1/\ay x.2.1 then some ((r1 bk).E true (dp x.1 x.2.1)) else none
theorem qw (x:Name × Name × Unit) (r:AV) (h:ot x=some r):bf PP 72 ((aC ak (aC ak a0)).E x) r:=by obtain ⟨hc,rfl⟩:=zI h;exact aw (ar.cons (aq A1) (ar.nil PP)) Tryz.func72 zK zK zK zL (r1 bk) true (dp x.1 x.2.1) (aef x.1 x.2.1 hc.1 hc.2)
noncomputable abbrev Au:Nat × Bool × (List AV->M AV):=(72,true,ct (aC ak (aC ak a0)) ot)
theorem akd (n top:Name) (hn:ay n) (ht:ay top):wl PP [Lw] 0 (Tryz.f52.body.getD .skip) (c8 PP Tryz.f52.results.toList (fun r st=>(r1 bk).get true st.h r=some (dm n top))) (cg 0 [ak.val false n,ak.val false top]) (bh []):=by
 unfold Tryz.f52;simp only [bw];simp only [↓wR,zV,simprocAttr,qq,hn,ht];rw [cq];refine ⟨fun h=>?_,fun h=>?_⟩
 ·have hl:n.length=top.length:=by simp at h;omega
  simp only [↓wR,zV,simprocAttr,h,qq,hn,ht]
  congr 1
  unfold dm;have:=Dz n top;rw [zyb];simp [<- this,hl];omega
 ·have hl:¬ n.length=top.length:=by simp at h;omega
  simp only [↓wR,zV,simprocAttr,h];have:=Dz n top;simp [dm,<- this,hl]
noncomputable def jx (x:Name × Name × Unit):Option AV:=if ay x.1/\ay x.2.1 then some ((r1 bk).E true (dm x.1 x.2.1)) else none
theorem j3 (x:Name × Name × Unit) (r:AV) (h:jx x=some r):bf PP 52 ((aC ak (aC ak a0)).E x) r:=by obtain ⟨hc,rfl⟩:=zI h;exact aw (ar.cons (aq A1) (ar.nil PP)) Tryz.func52 zK zK zK zL (r1 bk) true (dm x.1 x.2.1) (akd x.1 x.2.1 hc.1 hc.2)
noncomputable abbrev ee:Nat × Bool × (List AV->M AV):=(52,true,ct (aC ak (aC ak a0)) jx)
noncomputable def adr (a b:Name) (k:Nat):Int:=
 match a[a.length - 1 - k]?,b[b.length - 1 - k]? with
 |some x,some y=>v7 (fold x) (fold y)
 |_,_=>0
noncomputable def tm (a b:Name):Int:=
 if common a b=a.length/\common a b=b.length then 0 else if common a b=a.length then -1 else if common a b=b.length then 1 else adr a b (common a b)
theorem X8 (a b:Name) (ha:ay a) (hb:ay b):wl PP [Lw,ae1] 0 (Tryz.f58.body.getD .skip) (c8 PP Tryz.f58.results.toList (fun r st=>(r1 (ba .i64)).get true st.h r=some (tm a b))) (cg 0 [ak.val false a,ak.val false b]) (bh []):=by
 unfold Tryz.f58;simp only [bw];simp only [↓wR,zV,simprocAttr,qq,ha,hb];have h1:=Bt a.reverse b.reverse;have h2:=Fj a.reverse b.reverse;rw [List.length_reverse] at h1 h2;change common a b<=a.length at h1;change common a b<=b.length at h2;obtain ⟨k,hk⟩:∃ k,common a b=k:=⟨_,rfl⟩;rw [hk] at h1 h2;unfold tm;rw [hk];rw [cq];refine ⟨fun h=>?_,fun h=>?_⟩
 ·simp only [↓wR,zV,simprocAttr,h];have hka:k=a.length:=by simp at h;omega
  rw [cq];refine ⟨fun h3=>?_,fun h3=>?_⟩
  ·have hkb:k=b.length:=by simp at h3;omega
   simp only [↓wR,zV,simprocAttr,h3];rw [if_pos ⟨hka,hkb⟩]
  ·have hkb:¬ k=b.length:=by simp at h3;omega
   simp only [↓wR,zV,simprocAttr,h3,h];rw [if_neg (fun e=>hkb e.2),if_pos hka]
 ·simp only [↓wR,zV,simprocAttr,h];have hka:¬ k=a.length:=by simp at h;omega
  rw [cq];refine ⟨fun h3=>?_,fun h3=>?_⟩
  ·have hkb:k=b.length:=by simp at h3;omega
   simp only [↓wR,zV,simprocAttr,h3];rw [if_neg (fun e=>hka e.1),if_neg hka,if_pos hkb]
  ·have hkb:¬ k=b.length:=by simp at h3;omega
   rw [if_neg (fun e=>hka e.1),if_neg hka,if_neg hkb];obtain ⟨x,hx⟩:∃ x,a[a.length - 1 - k]? = some x:=⟨_,zh zO⟩;obtain ⟨y,hy⟩:∃ y,b[b.length - 1 - k]? = some y:=⟨_,zh zO⟩;simp only [↓wR,zV,simprocAttr,h3];refine ⟨zK,.inl ?_⟩;have la:=ha.len;have lb:=hb.len;simp (disch:=omega) only [zW];have e1:(((a.length:Int) - 1) - k).toNat=a.length - 1 - k:=zO;have e2:(0:Int)<=((a.length:Int) - 1) - k:=zO;have e3:(((b.length:Int) - 1) - k).toNat=b.length - 1 - k:=zO;have e4:(0:Int)<=((b.length:Int) - 1) - k:=zO;simp only [↓wR,zV,simprocAttr,hx,e1,e2];simp (disch:=omega) only [zW];simp only [↓wR,zV,simprocAttr,hy,e3,e4,vi,ha.label x (zm hx),hb.label y (zm hy)];exact ⟨zK,by simp [adr,hx,hy]⟩
noncomputable def wy (x:Name × Name × Unit):Option AV:=if ay x.1/\ay x.2.1 then some ((r1 (ba .i64)).E true (tm x.1 x.2.1)) else none
theorem Th (x:Name × Name × Unit) (r:AV) (h:wy x=some r):bf PP 58 ((aC ak (aC ak a0)).E x) r:=by obtain ⟨hc,rfl⟩:=zI h;exact aw (ar.cons (aq A1) (ar.cons (aq Q4) (ar.nil PP))) Tryz.func58 zK zK zK zL (r1 (ba .i64)) true (tm x.1 x.2.1) (X8 x.1 x.2.1 hc.1 hc.2)
noncomputable abbrev ak3:Nat × Bool × (List AV->M AV):=(58,true,ct (aC ak (aC ak a0)) wy)
theorem ay.lt {n:Name} (h:ay n):n.length<16777216:=by have:=(ja n 0).2;unfold ay at h;omega
theorem ala (n:Name) (hn:ay n):wl PP [] 0 (Tryz.f73.body.getD .skip) (c8 PP Tryz.f73.results.toList (fun r st=>(r1 ak).get true st.h r=some n)) (cg 0 [ak.val false n]) (bh []):=by
 unfold Tryz.f73;simp only [bw];have aD:n.length * 16<=140737488355328:=by have:=hn.lt;omega
 simp only [↓wR,zV,simprocAttr,aD]
noncomputable def nv (x:Name × Unit):Option AV:=if ay x.1 then some ((r1 ak).E true (x.1)) else none
theorem pz (x:Name × Unit) (r:AV) (h:nv x=some r):bf PP 73 ((aC ak a0).E x) r:=by obtain ⟨hc,rfl⟩:=zI h;exact aw (ar.nil PP) Tryz.func73 zK zK zK zL (r1 ak) true (x.1) (ala x.1 hc)
noncomputable abbrev uq:Nat × Bool × (List AV->M AV):=(73,true,ct (aC ak a0) nv)
theorem ay1 {n:Name} {i:Nat} {c:ByteArray} (hc:n[i]? = some c):ek (n.drop i)=fold c::ek (n.drop (i+1)):=by rw [Dm hc];rfl
theorem akx (n:Name) (hn:ay n):wl PP [Pr] 0 (Tryz.f186.body.getD .skip) (c8 PP Tryz.f186.results.toList (fun r st=>(r1 ak).get true st.h r=some (ek n))) (cg 0 [ak.val false n]) (bh []):=by
 unfold Tryz.f186;simp only [bw];have bB:=hn.lt;simp only [↓wR,zV,simprocAttr];refine fm [6,7,8,3] (fun (x:List ByteArray)=>[.vl false 1 (n.map (ah.val false)),.sc (.int .i64 n.length),.sc (.int .i64 x.length),.sl 0 0 x.length 1]) (fun x=>[some (.row (x.map (ah.val false)) 0 0 9)]) (fun x=>x++ek (n.drop x.length)=ek n/\x.length<=n.length) (fun x=>n.length - x.length) [] ⟨rfl,zzb _⟩ (by simp only [↓wR,zV,simprocAttr];(refine jh.lax [] (by first|exact zB rfl|(simp [c9];omega)) ?_ ?_<;>repeat' first|exact en.nil|exact cp.nil|exact fc.same _|exact fc.nil _ _ _|exact fc.mq _ _|exact cp.refl _ _|apply en.cons|apply cp.ghost|apply cp.same|apply cp.row)) ?_;rintro x ⟨hR,hx⟩;simp only [↓wR,zV,simprocAttr];rw [cq];refine ⟨fun h=>?_,fun h=>?_⟩
 ·obtain ⟨c,hc,hd,hlt⟩:=du h;have aD:(x.length+1) * 16<=140737488355328:=zO;simp only [↓wR,zV,simprocAttr,hc,uy,hn.label c (zm hc),aD];refine ⟨x++[fold c],⟨?_,by simp;omega⟩,by simp;omega,zF,zF⟩;rw [<- hR,ay1 hc];simp
 ·rw [eg h] at hR;simp only [↓wR,zV,simprocAttr,h];simpa [ek] using hR
noncomputable def Ep (x:Name × Unit):Option AV:=if ay x.1 then some ((r1 ak).E true (ek x.1)) else none
theorem acv (x:Name × Unit) (r:AV) (h:Ep x=some r):bf PP 186 ((aC ak a0).E x) r:=by obtain ⟨hc,rfl⟩:=zI h;exact aw (ar.cons (aq C4) (ar.nil PP)) Tryz.func186 zK zK zK zL (r1 ak) true (ek x.1) (akx x.1 hc)
noncomputable abbrev ay6:Nat × Bool × (List AV->M AV):=(186,true,ct (aC ak a0) Ep)
theorem vp {n:Name} (h:dk n=0):bp n<=255:=by
 unfold dk at h
 split at h
 ·cases h
 ·split at h
  ·cases h
  ·omega
theorem ay.fit {n:Name} (h:ay n):bp n<17592186044416:=by unfold ay at h;omega
theorem ay.drop {n:Name} (h:ay n) (i:Nat):ay (n.drop i):=by unfold ay at *;have:=l5 (n.take i) (n.drop i);rw [zzm] at this;have h1:=(ja (n.take i) 0).2;omega
def oc:ByteArray:=⟨#[42]⟩
def ig (s:ByteArray):List UInt8:=UInt8.ofNat s.size::s.data.toList
def nameBytes (n:Name):List UInt8:=n.flatMap ig++[0]
def ku (n:Name):List UInt8:=if dk n≠0 then [] else nameBytes n
theorem Cy (s):(ig s).length=s.size+1:=by simp [ig]
theorem vg (n:Name):(n.flatMap ig).length+1=bp n:=by
 induction n with
 |nil=>rfl
 |cons a l ih=>
  have:=l5 [a] l;have h3:bp [a]=a.size+2:=by simp [bp];omega
  simp only [List.singleton_append] at this;simp only [List.flatMap_cons,za,Cy];omega
theorem agv (n:Name) (hn:ay n):wl PP [fk] 0 (Tryz.f199.body.getD .skip) (c8 PP Tryz.f199.results.toList (fun r st=>(r2 (br bq) (ba .i64)).get true st.h r=some (ku n,dk n))) (cg 0 [ak.val false n]) (bh []):=by
 unfold Tryz.f199;simp only [bw];have bB:=hn.lt;simp only [↓wR,zV,simprocAttr,qh,hn.fit];rw [cq];refine ⟨fun h=>?_,fun h=>?_⟩
 ·have he:dk n≠0:=by simpa using h
  have hb:ku n=[]:=if_pos he;simp only [↓wR,zV,simprocAttr,hb]
 have he:dk n=0:=by simpa using h
 have hb:ku n=nameBytes n:=if_neg zO;rw [hb,he];simp only [↓wR,zV,simprocAttr];refine fm [13,14,15,5] (fun (x:Nat × List UInt8)=>[.vl false 1 (n.map (ah.val false)),.sc (.int .i64 n.length),.sc (.int .i64 x.1),.sl 0 0 x.2.length 1]) (fun x=>[some (.row (x.2.map (bq.val false)) 0 0 5)]) (fun x=>x.2++(n.drop x.1).flatMap ig=n.flatMap ig/\x.1<=n.length) (fun x=>n.length - x.1) (0,[]) ⟨rfl,zzb _⟩ (by simp only [↓wR,zV,simprocAttr];(refine jh.lax [] (by first|exact zB rfl|(simp [c9];omega)) ?_ ?_<;>repeat' first|exact en.nil|exact cp.nil|exact fc.same _|exact fc.nil _ _ _|exact fc.mq _ _|exact cp.refl _ _|apply en.cons|apply cp.ghost|apply cp.same|apply cp.row)) ?_;rintro ⟨i,x⟩ ⟨hR,hx⟩;simp only at hR hx;have oI:=vg n;have hsm:=vp he;simp only [↓wR,zV,simprocAttr];rw [cq];refine ⟨fun h2=>?_,fun h2=>?_⟩
 ·obtain ⟨c,hc,hd,hlt⟩:=du h2;rw [hd,List.flatMap_cons] at hR;have hl:x.length+(ig c).length<=(n.flatMap ig).length:=by rw [<- hR];simp
  rw [Cy] at hl
  repeat (first|simp only [↓wR,zV,simprocAttr,hc]|simp (disch:=omega) only [zW])
  refine ⟨(i+1,x++ig c),⟨by rw [<- hR];simp,hlt⟩,by simp;omega,?_,by simp only [ig,zzw,List.map_cons,zzc,List.singleton_append,E5]⟩;simp only [List.cons.injEq,and_true,true_and,AV.sc.injEq,Value.int.injEq,AV.sl.injEq,ig,za,List.length_cons];refine ⟨by (try simp (disch:=omega) only [zW]);simp,by simp;omega⟩
 ·rw [eg h2] at hR;have hl:x.length<bp n:=by rw [<- oI,<- hR];simp
  repeat (first|simp only [↓wR,zV,simprocAttr,h2]|simp (disch:=omega) only [zW])
  simp only [nameBytes,<- hR];simp
noncomputable def vt (x:Name × Unit):Option AV:=if ay x.1 then some ((r2 (br bq) (ba .i64)).E true ((ku x.1,dk x.1))) else none
theorem Vz (x:Name × Unit) (r:AV) (h:vt x=some r):bf PP 199 ((aC ak a0).E x) r:=by obtain ⟨hc,rfl⟩:=zI h;exact aw (ar.cons (aq qy) (ar.nil PP)) Tryz.func199 zK zK zK zL (r2 (br bq) (ba .i64)) true ((ku x.1,dk x.1)) (agv x.1 hc)
noncomputable abbrev an8:Nat × Bool × (List AV->M AV):=(199,true,ct (aC ak a0) vt)
end Go.Proofs.YtgencolcibpcaaaGreat
end
section
namespace Go.Proofs.YtgencolcibpcaaaGreat
open Go.Vm
theorem Kj {α:Type} {f : α->AV} {xs:List α} (h:xs≠[]) (op l sz p q):Qs op (.vl l sz (xs.map f)) (.sc (.slice none p q))=qo op false:=by
 cases xs with
 |nil=>exact (h rfl).elim
 |cons x xs=>rfl
def Pb (v:Value):Prop:=v = .slice none 0 0\/∃ a c,v = .slice (some a) 0 c
theorem Ds {f:Nat} {r:AV} {sz:Nat} (h:∀ v,Pb v->bf PP f [.sc v] r):bf PP f [.vl false sz []] r:=by
 intro K w vs hK hrel;obtain ⟨v,rfl,hv⟩:=Ue hrel;have hE:Pb v:=by
  cases hv with
  |vl=>exact .inr ⟨_,_,rfl⟩
  |jy=>exact .inl rfl
  |tv=>exact .inr ⟨_,_,rfl⟩
 exact h v hE K w [v] hK (bt.cons (.sc v) (bt.nil _ _))
theorem alh (l:List UInt32) (hne:l≠[]) (hl:l.length<=16777216):wl PP [] 0 (Tryz.f146.body.getD .skip) (c8 PP Tryz.f146.results.toList (fun r st=>(r1 (br cw)).get true st.h r=some l)) (cg 0 [(br cw).val false l]) (bh []):=by unfold Tryz.f146;rw [j5];have hb:l.length * 4<=140737488355328:=zO;simp only [↓wR,zV,simprocAttr,Kj hne,hb]
theorem afg (v:Value) (hv:Pb v):wl PP [] 0 (Tryz.f146.body.getD .skip) (c8 PP Tryz.f146.results.toList (fun r st=>(r1 (br cw)).get true st.h r=some [])) (cg 0 [.sc v]) (bh []):=by
 unfold Tryz.f146;rcases hv with rfl|⟨a,c,rfl⟩
 ·simp only [↓wR,zV,simprocAttr]
 ·simp only [↓wR,zV,simprocAttr]
noncomputable def Av (x:List UInt32 × Unit):Option AV:=if x.1.length<=16777216 then some ((r1 (br cw)).E true x.1) else none
theorem Mq (x:List UInt32 × Unit) (r:AV) (h:Av x=some r):bf PP 146 ((aC (br cw) a0).E x) r:=by
 by_cases hc:x.1.length<=16777216
 case neg=>simp only [Av,if_neg hc] at h;cases h
 simp only [Av,if_pos hc] at h;cases h;obtain ⟨l,⟨⟩⟩:=x;by_cases hn:l=[]
 ·subst hn;exact Ds (sz:=1) fun v hv=>aw (ar.nil PP) Tryz.func146 zK zK zK zL (r1 (br cw)) true [] (afg v hv)
 ·exact aw (ar.nil PP) Tryz.func146 zK zK zK zL (r1 (br cw)) true l (alh l hn hc)
noncomputable abbrev agl:Nat × Bool × (List AV->M AV):=(146,true,ct (aC (br cw) a0) Av)
theorem aj8 (l:List ByteArray) (hne:l≠[]) (hl:l.length<=16777216):wl PP [] 0 (Tryz.f147.body.getD .skip) (c8 PP Tryz.f147.results.toList (fun r st=>(r1 (br ah)).get true st.h r=some l)) (cg 0 [(br ah).val false l]) (bh []):=by unfold Tryz.f147;rw [j5];have hb:l.length * 16<=140737488355328:=zO;simp only [↓wR,zV,simprocAttr,Kj hne,hb]
theorem afh (v:Value) (hv:Pb v):wl PP [] 0 (Tryz.f147.body.getD .skip) (c8 PP Tryz.f147.results.toList (fun r st=>(r1 (br ah)).get true st.h r=some [])) (cg 0 [.sc v]) (bh []):=by
 unfold Tryz.f147;rcases hv with rfl|⟨a,c,rfl⟩
 ·simp only [↓wR,zV,simprocAttr]
 ·simp only [↓wR,zV,simprocAttr]
noncomputable def Ak (x:List ByteArray × Unit):Option AV:=if x.1.length<=16777216 then some ((r1 (br ah)).E true x.1) else none
theorem Mw (x:List ByteArray × Unit) (r:AV) (h:Ak x=some r):bf PP 147 ((aC (br ah) a0).E x) r:=by
 by_cases hc:x.1.length<=16777216
 case neg=>simp only [Ak,if_neg hc] at h;cases h
 simp only [Ak,if_pos hc] at h;cases h;obtain ⟨l,⟨⟩⟩:=x;by_cases hn:l=[]
 ·subst hn;exact Ds (sz:=1) fun v hv=>aw (ar.nil PP) Tryz.func147 zK zK zK zL (r1 (br ah)) true [] (afh v hv)
 ·exact aw (ar.nil PP) Tryz.func147 zK zK zK zL (r1 (br ah)) true l (aj8 l hn hc)
noncomputable abbrev aiy:Nat × Bool × (List AV->M AV):=(147,true,ct (aC (br ah) a0) Ak)
theorem ap0 (l:List UInt8) (hne:l≠[]) (hl:l.length<=16777216):wl PP [] 0 (Tryz.f148.body.getD .skip) (c8 PP Tryz.f148.results.toList (fun r st=>(r1 (br bq)).get true st.h r=some l)) (cg 0 [(br bq).val false l]) (bh []):=by unfold Tryz.f148;rw [j5];have hb:l.length<=140737488355328:=zO;simp only [↓wR,zV,simprocAttr,Kj hne,hb]
theorem akj (v:Value) (hv:Pb v):wl PP [] 0 (Tryz.f148.body.getD .skip) (c8 PP Tryz.f148.results.toList (fun r st=>(r1 (br bq)).get true st.h r=some [])) (cg 0 [.sc v]) (bh []):=by
 unfold Tryz.f148;rcases hv with rfl|⟨a,c,rfl⟩
 ·simp only [↓wR,zV,simprocAttr]
 ·simp only [↓wR,zV,simprocAttr]
noncomputable def Df (x:List UInt8 × Unit):Option AV:=if x.1.length<=16777216 then some ((r1 (br bq)).E true x.1) else none
theorem Nr (x:List UInt8 × Unit) (r:AV) (h:Df x=some r):bf PP 148 ((aC (br bq) a0).E x) r:=by
 by_cases hc:x.1.length<=16777216
 case neg=>simp only [Df,if_neg hc] at h;cases h
 simp only [Df,if_pos hc] at h;cases h;obtain ⟨l,⟨⟩⟩:=x;by_cases hn:l=[]
 ·subst hn;exact Ds (sz:=1) fun v hv=>aw (ar.nil PP) Tryz.func148 zK zK zK zL (r1 (br bq)) true [] (akj v hv)
 ·exact aw (ar.nil PP) Tryz.func148 zK zK zK zL (r1 (br bq)) true l (ap0 l hn hc)
noncomputable abbrev ano:Nat × Bool × (List AV->M AV):=(148,true,ct (aC (br bq) a0) Df)
structure Shape where
 names:Int
 nums:Int
 size:Int
 texts:Int
 raw:Int
noncomputable def ve:di Shape:=yj (kn (ba .i64) (kn (ba .i64) (kn (ba .i64) (kn (ba .i64) (ba .i64))))) (fun s=>(s.names,s.nums,s.size,s.texts,s.raw)) (fun p=>⟨p.1,p.2.1,p.2.2.1,p.2.2.2.1,p.2.2.2.2⟩) (fun _=>rfl) (fun _=>rfl)
theorem G2 (l:Bool) (s:Shape):ve.val l s = .agg [.sc (.int .i64 s.names),.sc (.int .i64 s.nums),.sc (.int .i64 s.size),.sc (.int .i64 s.texts),.sc (.int .i64 s.raw)]:=id rfl
theorem k7 (fr h) (a b c d e:Int):ve.fq fr h (.agg [.sc (.int .i64 a),.sc (.int .i64 b),.sc (.int .i64 c),.sc (.int .i64 d),.sc (.int .i64 e)])=some ⟨a,b,c,d,e⟩:=aC1 ve fr h ⟨a,b,c,d,e⟩
def cz (t:UInt16):Shape:=
 if (t.toNat:Int)=1 then ⟨0,0,0,0,4⟩ else if (t.toNat:Int)=28 then ⟨0,0,0,0,16⟩ else if (t.toNat:Int)=2 then ⟨1,0,0,0,0⟩ else if (t.toNat:Int)=5 then ⟨1,0,0,0,0⟩ else if (t.toNat:Int)=12 then ⟨1,0,0,0,0⟩
 else if (t.toNat:Int)=6 then ⟨2,5,4,0,0⟩ else if (t.toNat:Int)=15 then ⟨1,1,2,0,0⟩ else if (t.toNat:Int)=33 then ⟨1,3,2,0,0⟩ else if (t.toNat:Int)=16 then ⟨0,0,0,-1,0⟩ else if (t.toNat:Int)=257 then ⟨0,1,1,2,0⟩ else ⟨0,0,0,0,-1⟩
theorem aru (t:UInt16):wl PP [] 0 (Tryz.f183.body.getD .skip) (c8 PP Tryz.f183.results.toList (fun r st=>(r1 ve).get true st.h r=some (cz t))) (cg 0 [cf.val false t]) (bh []):=by
 unfold Tryz.f183;unfold cz;simp only [↓wR,zV,simprocAttr];rw [bz];refine ⟨fun ⟨h0,e0⟩=>?_,fun ⟨h0,e0⟩=>?_⟩
 ·simp only [↓wR,zV,simprocAttr,h0];rw [if_pos e0];exact k7 ..
 rw [if_neg e0];simp only [↓wR,zV,simprocAttr,h0];rw [bz];refine ⟨fun ⟨h1,e1⟩=>?_,fun ⟨h1,e1⟩=>?_⟩
 ·simp only [↓wR,zV,simprocAttr,h1];rw [if_pos e1];exact k7 ..
 rw [if_neg e1];simp only [↓wR,zV,simprocAttr,h1];rw [bz];refine ⟨fun ⟨h2,e2⟩=>?_,fun ⟨h2,e2⟩=>?_⟩
 ·simp only [↓wR,zV,simprocAttr,h2];rw [if_pos e2];exact k7 ..
 rw [if_neg e2];simp only [↓wR,zV,simprocAttr,h2];rw [bz];refine ⟨fun ⟨h3,e3⟩=>?_,fun ⟨h3,e3⟩=>?_⟩
 ·simp only [↓wR,zV,simprocAttr,h3];rw [if_pos e3];exact k7 ..
 rw [if_neg e3];simp only [↓wR,zV,simprocAttr,h3];rw [bz];refine ⟨fun ⟨h4,e4⟩=>?_,fun ⟨h4,e4⟩=>?_⟩
 ·simp only [↓wR,zV,simprocAttr,h4];rw [if_pos e4];exact k7 ..
 rw [if_neg e4];simp only [↓wR,zV,simprocAttr,h4];rw [bz];refine ⟨fun ⟨h5,e5⟩=>?_,fun ⟨h5,e5⟩=>?_⟩
 ·simp only [↓wR,zV,simprocAttr,h5];rw [if_pos e5];exact k7 ..
 rw [if_neg e5];simp only [↓wR,zV,simprocAttr,h5];rw [bz];refine ⟨fun ⟨h6,e6⟩=>?_,fun ⟨h6,e6⟩=>?_⟩
 ·simp only [↓wR,zV,simprocAttr,h6];rw [if_pos e6];exact k7 ..
 rw [if_neg e6];simp only [↓wR,zV,simprocAttr,h6];rw [bz];refine ⟨fun ⟨h7,e7⟩=>?_,fun ⟨h7,e7⟩=>?_⟩
 ·simp only [↓wR,zV,simprocAttr,h7];rw [if_pos e7];exact k7 ..
 rw [if_neg e7];simp only [↓wR,zV,simprocAttr,h7];rw [bz];refine ⟨fun ⟨h8,e8⟩=>?_,fun ⟨h8,e8⟩=>?_⟩
 ·simp only [↓wR,zV,simprocAttr,h8];rw [if_pos e8];exact k7 ..
 rw [if_neg e8];simp only [↓wR,zV,simprocAttr,h8];rw [bz];refine ⟨fun ⟨h9,e9⟩=>?_,fun ⟨h9,e9⟩=>?_⟩
 ·simp only [↓wR,zV,simprocAttr,h9];rw [if_pos e9];exact k7 ..
 rw [if_neg e9];simp only [↓wR,zV,simprocAttr,h9];exact k7 ..
noncomputable def Gi (x:UInt16 × Unit):Option AV:=some ((r1 ve).E true (cz x.1))
theorem F9 (x:UInt16 × Unit) (r:AV) (h:Gi x=some r):bf PP 183 ((aC cf a0).E x) r:=by cases h;exact aw (ar.nil PP) Tryz.func183 zK zK zK zL (r1 ve) true (cz x.1) (aru x.1)
noncomputable abbrev X9:Nat × Bool × (List AV->M AV):=(183,true,ct (aC cf a0) Gi)
def my (t:UInt16):Bool:=(t.toNat:Int) == 0 || (decide ((128:Int)<=(t.toNat:Int)) && decide ((t.toNat:Int)<=255))
theorem ar0 (t:UInt16):wl PP [] 0 (Tryz.f182.body.getD .skip) (c8 PP Tryz.f182.results.toList (fun r st=>(r1 bk).get true st.h r=some (my t))) (cg 0 [cf.val false t]) (bh []):=by
 unfold Tryz.f182;unfold my;simp only [↓wR,zV,simprocAttr];rw [bz];refine ⟨fun ⟨h,e⟩=>?_,fun ⟨h,e⟩=>?_⟩
 ·simp only [↓wR,zV,simprocAttr,h]
 ·simp only [↓wR,zV,simprocAttr,h];rw [bg];refine ⟨fun h2=>?_,fun h2=>?_⟩
  ·simp only [↓wR,zV,simprocAttr,h2]
  ·simp only [↓wR,zV,simprocAttr,h2];rfl
noncomputable def Yk (x:UInt16 × Unit):Option AV:=some ((r1 bk).E true (my x.1))
theorem ak5 (x:UInt16 × Unit) (r:AV) (h:Yk x=some r):bf PP 182 ((aC cf a0).E x) r:=by cases h;exact aw (ar.nil PP) Tryz.func182 zK zK zK zL (r1 bk) true (my x.1) (ar0 x.1)
noncomputable abbrev aEl:Nat × Bool × (List AV->M AV):=(182,true,ct (aC cf a0) Yk)
noncomputable def Bx (n:UInt32):List UInt8:=[UInt8.ofNat (n.toNat / 16777216),UInt8.ofNat (n.toNat / 65536),UInt8.ofNat (n.toNat / 256),UInt8.ofNat n.toNat]
theorem ax7 (n:UInt32):wl PP [] 0 (Tryz.f198.body.getD .skip) (c8 PP Tryz.f198.results.toList (fun r st=>(r1 (br bq)).get true st.h r=some (Bx n))) (cg 0 [cw.val false n]) (bh []):=by unfold Tryz.f198;simp only [↓wR,zV,simprocAttr];rfl
noncomputable def Qm (x:UInt32 × Unit):Option AV:=some ((r1 (br bq)).E true (Bx x.1))
theorem akz (x:UInt32 × Unit) (r:AV) (h:Qm x=some r):bf PP 198 ((aC cw a0).E x) r:=by cases h;exact aw (ar.nil PP) Tryz.func198 zK zK zK zL (r1 (br bq)) true (Bx x.1) (ax7 x.1)
noncomputable abbrev aDi:Nat × Bool × (List AV->M AV):=(198,true,ct (aC cw a0) Qm)
def Cs (c:UInt8):Bool:=decide (97<=c.toNat/\c.toNat<=122\/65<=c.toNat/\c.toNat<=90\/48<=c.toNat/\c.toNat<=57)
def tz (s:ByteArray):Bool:=s.data.toList.all Cs && decide (1<=s.size/\s.size<=15)
theorem aEh (s:ByteArray) (hs:s.size<=16777216):wl PP [] 0 (Tryz.f195.body.getD .skip) (c8 PP Tryz.f195.results.toList (fun r st=>(r1 bk).get true st.h r=some (tz s))) (cg 0 [ah.val false s]) (bh []):=by
 unfold Tryz.f195;simp only [↓wR,zV,simprocAttr];refine dq [0,6,7] (fun (i:Nat)=>[.sc (.string s),.sc (.int .i64 s.size),.sc (.int .i64 i)]) (fun _=>[]) (fun i=>i<=s.size/\s.data.toList.all Cs=(s.data.toList.drop i).all Cs) (fun i=>s.size - i) 0 ⟨zzb _,rfl⟩ ?_ ?_ ?_
 ·simp only [↓wR,zV,simprocAttr]<;>rfl
 ·simp only [↓wR,zV,simprocAttr]
 rintro i ⟨hi,hR⟩;simp only [↓wR,zV,simprocAttr];rw [bg];refine ⟨fun h=>?_,fun h=>?_⟩
 ·obtain ⟨c,hc⟩:∃ c,s.data.toList[i]? = some c:=⟨_,zh (by simp;omega)⟩;have hd:=Dm hc;rw [hd,List.all_cons] at hR
  repeat (first|simp only [↓wR,zV,simprocAttr,h,hc]|simp (disch:=omega) only [zW])
  repeat' (rw [bg];refine ⟨fun h=>?_,fun h=>?_⟩<;>simp only [↓wR,zV,simprocAttr,h,hc])
  all_goals first
   |(
    have ht:Cs c=false:=by (unfold Cs;rw [decide_eq_false_iff_not];omega)
    rw [tz,hR,ht];rfl)
   |(
    have ht:Cs c=true:=by (unfold Cs;rw [decide_eq_true_eq];omega)
    refine ⟨i+1,⟨zO,by rw [hR,ht];simp⟩,zO,zF⟩)
 ·have fM:s.data.toList.drop i=[]:=zzx (by simp;omega);rw [fM,List.all_nil] at hR;simp only [↓wR,zV,simprocAttr,h];unfold tz;rw [hR];rw [bg];refine ⟨fun h1=>?_,fun h1=>?_⟩
  ·simp only [↓wR,zV,simprocAttr,h1]
   congr 1
   rw [zyb];simp;omega
  ·simp only [↓wR,zV,simprocAttr,h1]
   congr 1
   rw [zyb];simp;omega
noncomputable def V3 (x:ByteArray × Unit):Option AV:=if x.1.size<=16777216 then some ((r1 bk).E true (tz x.1)) else none
theorem asv (x:ByteArray × Unit) (r:AV) (h:V3 x=some r):bf PP 195 ((aC ah a0).E x) r:=by obtain ⟨hc,rfl⟩:=zI h;exact aw (ar.nil PP) Tryz.func195 zK zK zK zL (r1 bk) true (tz x.1) (aEh x.1 hc)
noncomputable abbrev aGo:Nat × Bool × (List AV->M AV):=(195,true,ct (aC ah a0) V3)
def gh {α:Type} (f : α->Nat) (l:List α):Nat:=l.foldr (fun x k=>f x+k+1) 0
def An (d:cj):Nat:=gh bp d.names+d.nums.length+gh ByteArray.size d.texts+d.raw.length
theorem Co {α:Type} {f : α->Nat} {l:List α} {x : α} (h:x ∈ l):f x<gh f l:=by
 induction l with
 |nil=>cases h
 |cons a l ih=>
  simp only [gh,List.foldr_cons] at ih ⊢;rcases zya.1 h with rfl|h
  ·omega
  ·have:=ih h;omega
theorem Dq {α:Type} (f : α->Nat) (l:List α):l.length<=gh f l:=by
 induction l with
 |nil=>exact zza _
 |cons a l ih=>simp only [gh,List.foldr_cons,List.length_cons] at ih ⊢;omega
def c7 (d:cj):Prop:=An d<=16777216
instance (d:cj):Decidable (c7 d):=inferInstanceAs (Decidable (_<=_))
theorem c7.name {d:cj} (h:c7 d):∀ n ∈ d.names,ay n:=fun n hn=>by have h1:bp n<gh bp d.names:=Co hn;unfold c7 An at h;unfold ay;omega
theorem c7.text {d:cj} (h:c7 d):∀ s ∈ d.texts,s.size<=16777216:=fun s hs=>by have h1:ByteArray.size s<gh ByteArray.size d.texts:=Co hs;unfold c7 An at h;omega
theorem c7.lens {d:cj} (h:c7 d):d.names.length<=16777216/\d.nums.length<=16777216/\d.texts.length<=16777216/\d.raw.length<=16777216:=by have h1:=Dq bp d.names;have h2:=Dq ByteArray.size d.texts;unfold c7 An at h;omega
noncomputable def Ci (s:Shape):Int:=IntKind.u32.wrap (1 * 2 ^ (if (8 * s.size).toNat<=32 then (8 * s.size).toNat else 32))
noncomputable def ry (s:Shape) (t:UInt16) (d:cj):Bool:=
 if (d.names.length:Int)≠s.names\/(d.nums.length:Int)≠s.nums\/(0<=s.raw/\(d.raw.length:Int)≠s.raw) then false
 else if s.size<4/\(d.nums.any fun n=>decide (Ci s<=(n.toNat:Int)))=true then false
 else if (t.toNat:Int)=257 then decide (d.texts.length=2) && tz (d.texts.headD ⟨#[]⟩)
 else if s.texts=0 then decide (d.texts.length=0)
 else decide (0<d.texts.length) && !(d.texts.any fun x=>decide (255<x.size))
noncomputable def Un (s:Shape) (t:UInt16) (d:cj):Bool:=
 if s.size<4/\(d.nums.any fun n=>decide (Ci s<=(n.toNat:Int)))=true then false
 else if (t.toNat:Int)=257 then decide (d.texts.length=2) && tz (d.texts.headD ⟨#[]⟩)
 else if s.texts=0 then decide (d.texts.length=0)
 else decide (0<d.texts.length) && !(d.texts.any fun x=>decide (255<x.size))
theorem aCr (s:Shape) (t:UInt16) (d:cj) (hs : 0<=s.size/\s.size<=4) (hd:c7 d):wl PP [aGo] 0 (Tryz.f184.body.getD .skip) (c8 PP Tryz.f184.results.toList (fun r st=>(r1 bk).get true st.h r=some (ry s t d))) (cg 0 [ve.val false s,cf.val false t,bc.val false d]) (bh []):=by
 unfold Tryz.f184;obtain ⟨l1,l2,l3,l4⟩:=hd.lens;simp only [G2,gq,bw];simp only [↓wR,zV,simprocAttr];rw [dg];refine ⟨fun ⟨h,e⟩=>?_,fun ⟨h,e⟩=>?_⟩
 ·have hv:ry s t d=false:=if_pos (.inl e);simp only [↓wR,zV,simprocAttr,h,hv]
 simp only [↓wR,zV,simprocAttr,h];rw [dg];refine ⟨fun ⟨h2,e2⟩=>?_,fun ⟨h2,e2⟩=>?_⟩
 ·have hv:ry s t d=false:=if_pos (.inr (.inl e2));simp only [↓wR,zV,simprocAttr,h2,hv]
 simp only [↓wR,zV,simprocAttr,h2];have jW:¬ (0<=s.raw/\(d.raw.length:Int)≠s.raw)->ry s t d=Un s t d:=fun hr=>if_neg (fun h=>by
  rcases h with h|h|h
  ·exact h e
  ·exact h e2
  ·exact hr h)
 rw [bg];refine ⟨fun h3=>?_,fun h3=>?_⟩;simp only [↓wR,zV,simprocAttr,h3];rw [dg];refine ⟨fun ⟨h4,e4⟩=>?_,fun ⟨h4,e4⟩=>?_⟩;have hv:ry s t d=false:=if_pos (.inr (.inr ⟨h3,e4⟩));simp only [↓wR,zV,simprocAttr,h4,hv];rw [jW (fun q=>q.2 e4)];simp only [↓wR,zV,simprocAttr,h4];rotate_left;rw [jW (fun q=>h3 q.1)];simp only [↓wR,zV,simprocAttr,h3]
 all_goals
  clear jW;refine dq [1,3,5,37,38,39] (fun (i:Nat)=>[.sc (.int .u16 t.toNat),.ptr 0 0,.ptr 1 0,.vl false 1 (d.nums.map (cw.val false)),.sc (.int .i64 d.nums.length),.sc (.int .i64 i)]) (fun _=>[some (.row [.sc (.int .i64 s.names),.sc (.int .i64 s.nums),.sc (.int .i64 s.size),.sc (.int .i64 s.texts),.sc (.int .i64 s.raw)] 0 2 198),some (.row [.vl false 1 (d.names.map (ak.val false)),.vl false 1 (d.nums.map (cw.val false)),.vl false 1 (d.texts.map (ah.val false)),.vl false 1 (d.raw.map (bq.val false))] 0 2 101)]) (fun i=>i<=d.nums.length/\(s.size<4->(d.nums.any fun n=>decide (Ci s<=(n.toNat:Int)))=((d.nums.drop i).any fun n=>decide (Ci s<=(n.toNat:Int))))) (fun i=>d.nums.length - i) 0 ⟨zzb _,fun _=>rfl⟩ (by simp only [↓wR,zV,simprocAttr]<;>rfl) (by simp only [↓wR,zV,simprocAttr]<;>rfl) ?_;clear h h2 e e2;rintro i ⟨hi,hR⟩;simp only [↓wR,zV,simprocAttr];rw [bg];refine ⟨fun h=>?_,fun h=>?_⟩
  ·obtain ⟨c,hc,aF,hlt⟩:=du (zp h);rw [aF,List.any_cons] at hR;simp only [↓wR,zV,simprocAttr,h,hc];rw [bg];refine ⟨fun h5=>?_,fun h5=>?_⟩
   ·have hR:=hR h5;have yE:(0:Int)<=8 * s.size:=zO
    repeat (first|simp only [↓wR,zV,simprocAttr,h5,yE]|simp (disch:=omega) only [zW])
    rw [bg];refine ⟨fun h6=>?_,fun h6=>?_⟩
    ·have hv:Un s t d=false:=by
      rw [Un,if_pos ⟨h5,by rw [hR,zp (show Ci s<=(c.toNat:Int) from h6)];rfl⟩]
     simp only [↓wR,zV,simprocAttr,h6,hv]
    ·repeat (first|simp only [↓wR,zV,simprocAttr,h6]|simp (disch:=omega) only [zW])
     refine ⟨i+1,⟨hlt,fun _=>?_⟩,zO,zF⟩;rw [hR,zq (show ¬ Ci s<=(c.toNat:Int) from h6),Bool.false_or]
   ·repeat (first|simp only [↓wR,zV,simprocAttr,h5]|simp (disch:=omega) only [zW])
    exact ⟨i+1,⟨hlt,fun h=>h.elim⟩,zO,zF⟩
  ·rw [eg (zq h),List.any_nil] at hR;have hr:Un s t d=if (t.toNat:Int)=257 then decide (d.texts.length=2) && tz (d.texts.headD ⟨#[]⟩) else if s.texts=0 then decide (d.texts.length=0) else decide (0<d.texts.length) && !(d.texts.any fun x=>decide (255<x.size)):=by
    rw [Un,if_neg];rintro ⟨q1,q2⟩;rw [hR q1] at q2;cases q2
   simp only [↓wR,zV,simprocAttr,h];rw [bz];refine ⟨fun ⟨h6,e6⟩=>?_,fun ⟨h6,e6⟩=>?_⟩
   ·rw [if_pos e6] at hr;simp only [↓wR,zV,simprocAttr,h6];rw [bz];refine ⟨fun ⟨h7,e7⟩=>?_,fun ⟨h7,e7⟩=>?_⟩
    ·obtain ⟨c,hc⟩:∃ c,d.texts[0]? = some c:=⟨_,zh zO⟩;have hh:d.texts.headD ⟨#[]⟩=c:=by
      cases ht:d.texts with
      |nil=>rw [ht] at hc;cases hc
      |cons a l=>rw [ht] at hc;simpa using hc
     rw [hh,zp (show d.texts.length=2 by omega)] at hr;simp only [↓wR,zV,simprocAttr,h7,hc,V3,hd.text c (zm hc)];rw [hr];rfl
    ·simp only [↓wR,zV,simprocAttr,h7];rw [hr,zq (show ¬ d.texts.length=2 by omega)];rfl
   ·rw [if_neg e6] at hr;simp only [↓wR,zV,simprocAttr,h6];rw [bz];refine ⟨fun ⟨h7,e7⟩=>?_,fun ⟨h7,e7⟩=>?_⟩
    ·rw [if_pos e7] at hr;simp only [↓wR,zV,simprocAttr,h7];rw [hr];congr 1;rw [zyb];simp
    ·rw [if_neg e7] at hr;simp only [↓wR,zV,simprocAttr,h7];rw [bg];refine ⟨fun h8=>?_,fun h8=>?_⟩
     ·simp only [↓wR,zV,simprocAttr,h8];refine cx (T:=[]) (ar.nil PP) mixed Tryz.func196 rfl zK zK zK zK ?_;unfold Tryz.f196;simp only [↓wR,zV,simprocAttr];refine cx (T:=[]) (ar.nil PP) mixed Tryz.func203 rfl zK zK zK zK ?_;unfold Tryz.f203;simp only [↓wR,zV,simprocAttr];refine dq [0,1,7,8] (fun (i:Nat)=>[.vl false 1 (d.texts.map (ah.val false)),.sc (.func (.func 197) #[] #[]),.sc (.int .i64 d.texts.length),.sc (.int .i64 i)]) (fun _=>[some (.row [.sc (.int .i64 s.names),.sc (.int .i64 s.nums),.sc (.int .i64 s.size),.sc (.int .i64 s.texts),.sc (.int .i64 s.raw)] 0 2 198),some (.row [.vl false 1 (d.names.map (ak.val false)),.vl false 1 (d.nums.map (cw.val false)),.vl false 1 (d.texts.map (ah.val false)),.vl false 1 (d.raw.map (bq.val false))] 0 2 101)]) (fun i=>i<=d.texts.length/\(d.texts.any fun x=>decide (255<x.size))=((d.texts.drop i).any fun x=>decide (255<x.size))) (fun i=>d.texts.length - i) 0 ⟨zzb _,rfl⟩ (by simp only [↓wR,zV,simprocAttr]<;>rfl) (by simp only [↓wR,zV,simprocAttr]<;>rfl) ?_;rintro k ⟨hk,hK⟩;simp only [↓wR,zV,simprocAttr];rw [bg];refine ⟨fun h9=>?_,fun h9=>?_⟩
      ·obtain ⟨c,hc,aF,hlt⟩:=du (zp h9);rw [aF,List.any_cons] at hK
       repeat (first|simp only [↓wR,zV,simprocAttr,h9,hc]|simp (disch:=omega) only [zW])
       refine cx (T:=[]) (ar.nil PP) mixed Tryz.func197 rfl zK zK zK zK ?_;unfold Tryz.f197;simp only [↓wR,zV,simprocAttr];rw [bg];refine ⟨fun h10=>?_,fun h10=>?_⟩
       ·simp only [↓wR,zV,simprocAttr,h10];rw [hr,hK,zp (show 0<d.texts.length by omega),zp (show 255<c.size by omega)];rfl
       ·repeat (first|simp only [↓wR,zV,simprocAttr,h10]|simp (disch:=omega) only [zW])
        refine ⟨k+1,⟨hlt,?_⟩,zO,zF⟩;rw [hK,zq (show ¬ 255<c.size by omega),Bool.false_or]
      ·rw [eg (zq h9),List.any_nil] at hK;simp only [↓wR,zV,simprocAttr,h9];rw [hr,hK,zp (show 0<d.texts.length by omega)];rfl
     ·simp only [↓wR,zV,simprocAttr,h8];rw [hr,zq (show ¬ 0<d.texts.length by omega)];rfl
theorem Bg (t:UInt16) : 0<=(cz t).size/\(cz t).size<=4:=by
 unfold cz
 repeat' split
 all_goals simp
noncomputable def Ot (x:Shape × UInt16 × cj × Unit):Option AV:=if (0<=x.1.size/\x.1.size<=4)/\c7 x.2.2.1 then some ((r1 bk).E true (ry x.1 x.2.1 x.2.2.1)) else none
theorem aq8 (x:Shape × UInt16 × cj × Unit) (r:AV) (h:Ot x=some r):bf PP 184 ((aC ve (aC cf (aC bc a0))).E x) r:=by obtain ⟨hc,rfl⟩:=zI h;exact aw (ar.cons (aq asv) (ar.nil PP)) Tryz.func184 zK zK zK zL (r1 bk) true (ry x.1 x.2.1 x.2.2.1) (aCr x.1 x.2.1 x.2.2.1 hc.1 hc.2)
noncomputable abbrev aE4:Nat × Bool × (List AV->M AV):=(184,true,ct (aC ve (aC cf (aC bc a0))) Ot)
theorem amw {α:Type} {l:List (List α)} {i:Nat} {c:List α} (h:l[i]? = some c):(l.drop i).flatten=c++(l.drop (i+1)).flatten:=by rw [Dm h];rfl
theorem aCi {α:Type} {l:List (List α)} {c:List α} (h:c ∈ l):c.length<=l.flatten.length:=by
 induction l with
 |nil=>cases h
 |cons a l ih=>
  simp only [List.flatten_cons,za];rcases zya.1 h with rfl|h
  ·omega
  ·have:=ih h;omega
theorem av1 (l:List (List UInt8)) (hl:l.length<=16777216) (hf:l.flatten.length<=134217728):wl PP [] 0 (Tryz.f200.body.getD .skip) (c8 PP Tryz.f200.results.toList (fun r st=>(r1 (br bq)).get false st.h r=some l.flatten)) (cg 0 [(br (br bq)).val false l]) (bh []):=by
 unfold Tryz.f200;rw [j5];simp only [↓wR,zV,simprocAttr];refine dq [0,3,9,10,11] (fun (x:Nat × Nat)=>[.vl false 1 (l.map ((br bq).val false)),.sc (.int .i64 x.2),.vl false 1 (l.map ((br bq).val false)),.sc (.int .i64 l.length),.sc (.int .i64 x.1)]) (fun _=>[]) (fun x=>x.1<=l.length/\x.2+(l.drop x.1).flatten.length=l.flatten.length) (fun x=>l.length - x.1) (0,0) ⟨zzb _,by simp⟩ (by simp only [↓wR,zV,simprocAttr]<;>rfl) (by simp only [↓wR,zV,simprocAttr]<;>rfl) ?_;rintro ⟨i,k⟩ ⟨hi,hk⟩;simp only at hi hk;simp only [↓wR,zV,simprocAttr];rw [bg];refine ⟨fun h=>?_,fun h=>?_⟩
 ·obtain ⟨c,hc,aF,hlt⟩:=du (zp h);rw [amw hc,za] at hk
  repeat (first|simp only [↓wR,zV,simprocAttr,h,hc]|simp (disch:=omega) only [zW])
  rw [bg];refine ⟨fun h1=>?_,fun h1=>?_⟩
  ·exfalso;omega
  ·repeat (first|simp only [↓wR,zV,simprocAttr,h1]|simp (disch:=omega) only [zW])
   exact ⟨(i+1,k+c.length),⟨hlt,by show k+c.length+(l.drop (i+1)).flatten.length=_;omega⟩,by simp;omega,by simp⟩
 ·rw [eg (zq h)] at hk;have hk:k=l.flatten.length:=by simpa using hk
  subst hk;simp only [↓wR,zV,simprocAttr,h];refine cx (T:=[]) (ar.nil PP) mixed Tryz.func204 rfl zK zK zK zK ?_;unfold Tryz.f204;simp only [↓wR,zV,simprocAttr];rw [bg];refine ⟨fun h1=>?_,fun h1=>?_⟩
  ·exfalso;omega
  repeat (first|simp only [↓wR,zV,simprocAttr,h1]|simp (disch:=omega) only [zW])
  rw [bg];refine ⟨fun h2=>?_,fun h2=>?_⟩
  ·have bZ : 0<l.flatten.length:=zO
   repeat (first|simp only [↓wR,zV,simprocAttr,h2,bZ]|simp (disch:=omega) only [zW])
   refine dq [25,26,27,6] (fun (x:Nat × Nat × Nat × List UInt8)=>[.vl false 1 (l.map ((br bq).val false)),.sc (.int .i64 l.length),.sc (.int .i64 x.1),.sl 0 0 x.2.1 1]) (fun x=>[some (.row (x.2.2.2.map (bq.val false)) 0 x.2.2.1 5)]) (fun x=>x.1<=l.length/\(x.2.1=x.2.2.2.length\/x.2.1=0)/\x.2.2.2.take x.2.1++(l.drop x.1).flatten=l.flatten) (fun x=>l.length - x.1) (0,0,0,List.replicate l.flatten.length 0) ⟨zzb _,.inr rfl,rfl⟩ (by simp only [↓wR,zV,simprocAttr]<;>rfl) (by simp only [↓wR,zV,simprocAttr]<;>rfl) ?_;rintro ⟨k,m,s,r⟩ ⟨kD,hk0,hk3⟩;simp only at kD hk0 hk3;have hk2:m<=r.length:=zO;simp only [↓wR,zV,simprocAttr];rw [bg];refine ⟨fun h3=>?_,fun h3=>?_⟩
   ·obtain ⟨c,hc,aF,hlt⟩:=du (zp h3);rw [amw hc] at hk3;have hm:m+c.length<=134217728:=by
     have:=congrArg List.length hk3;simp only [za,zzl] at this;omega
    repeat (first|simp only [↓wR,zV,simprocAttr,h3,hc,hk2]|simp (disch:=omega) only [zW])
    have eE:(r.take m++c).length=m+c.length:=by simp [Nat.min_eq_left hk2]
    refine ⟨(k+1,m+c.length,n9 (decide (m=r.length)) s,r.take m++c),⟨hlt,.inl eE.symm,?_⟩,by simp;omega,by simp,by simp⟩;show (r.take m++c).take (m+c.length)++_=_;rw [zzp (Nat.le_of_eq eE),zzc];exact hk3
   ·rw [eg (zq h3)] at hk3;have wU:m=r.length:=by
     have:=congrArg List.length hk3;simp only [za,zzl,List.flatten_nil,List.length_nil] at this;omega
    subst wU;have hr:r=l.flatten:=by simpa using hk3
    subst hr
    repeat (first|simp only [↓wR,zV,simprocAttr,h3,hk2]|simp (disch:=omega) only [zW])
  ·have hnil:l.flatten=[]:=zzf zO
   repeat (first|simp only [↓wR,zV,simprocAttr,h2]|simp (disch:=omega) only [zW])
   refine dq [25,26,27,6] (fun (x:Nat)=>[.vl false 1 (l.map ((br bq).val false)),.sc (.int .i64 l.length),.sc (.int .i64 x),.sc (.slice none 0 0)]) (fun _=>[]) (fun x=>x<=l.length) (fun x=>l.length - x) 0 (zzb _) (by simp only [↓wR,zV,simprocAttr]<;>rfl) (by simp only [↓wR,zV,simprocAttr]<;>rfl) ?_;intro k kD;simp only [↓wR,zV,simprocAttr];rw [bg];refine ⟨fun h3=>?_,fun h3=>?_⟩
   ·obtain ⟨c,hc,aF,hlt⟩:=du (zp h3);have hc0:c=[]:=zzf (by have:=aCi (zm hc);rw [hnil] at this;simpa using this);subst hc0
    repeat (first|simp only [↓wR,zV,simprocAttr,h3,hc]|simp (disch:=omega) only [zW])
    refine ⟨k+1,hlt,?_⟩
    first|(refine ⟨by simp;omega,?_⟩;simp)|(simp;omega)
   ·repeat (first|simp only [↓wR,zV,simprocAttr,h3]|simp (disch:=omega) only [zW])
    rw [hnil]
noncomputable def Cq (x:List (List UInt8) × Unit):Option AV:=if x.1.length<=16777216/\x.1.flatten.length<=134217728 then some ((r1 (br bq)).E false (x.1.flatten)) else none
theorem agd (x:List (List UInt8) × Unit) (r:AV) (h:Cq x=some r):bf PP 200 ((aC (br (br bq)) a0).E x) r:=by obtain ⟨hc,rfl⟩:=zI h;exact aw (ar.nil PP) Tryz.func200 zK zK zK zL (r1 (br bq)) false (x.1.flatten) (av1 x.1 hc.1 hc.2)
noncomputable abbrev aCn:Nat × Bool × (List AV->M AV):=(200,true,ct (aC (br (br bq)) a0) Cq)
theorem asd (n:Name):(ku n).length<=bp n:=by
 unfold ku nameBytes
 split
 ·exact zzb _
 ·have:=vg n;rw [za];simp only [List.length_cons,List.length_nil];omega
noncomputable def Bq (t:UInt16) (n:UInt32):List UInt8:=(Bx n).drop (4 - (cz t).size).toNat
def ox (t:UInt16):Nat->List ByteArray->List UInt8
 |_,[]=>[]
 |i,x::r=>(if (t.toNat:Int)=16\/i=0 then [UInt8.ofNat x.size] else [])++x.data.toList++ox t (i+1) r
noncomputable def wk (t:UInt16) (d:cj):List UInt8:=d.nums.flatMap (Bq t)
def te (d:cj):List UInt8:=d.names.flatMap ku
def rq (t:UInt16) (d:cj):List UInt8:=ox t 0 d.texts
noncomputable def mw (t:UInt16) (d:cj):List UInt8:=if (t.toNat:Int)=6 then te d++wk t d else wk t d++(te d++(rq t d++d.raw))
theorem Hw (n):(Bx n).length=4:=rfl
theorem ajn {α:Type} (f : α->List UInt8) (μ : α->Nat) (h:∀ x,(f x).length <= μ x) (l:List α):(l.flatMap f).length<=gh μ l:=by
 induction l with
 |nil=>simp
 |cons a l ih=>have:=h a;simp only [List.flatMap_cons,za,gh,List.foldr_cons] at ih ⊢;omega
theorem aqb (t:UInt16) (l:List ByteArray):∀ i,(ox t i l).length<=gh ByteArray.size l:=by
 induction l with
 |nil=>intro i;simp [ox]
 |cons a l ih=>
  intro i;have:=ih (i+1);have ha:a.data.size=a.size:=rfl;simp only [ox,za,gh,List.foldr_cons,zz9] at this ⊢
  split<;>simp<;>omega
theorem auq (t d):(wk t d).length<=4 * d.nums.length:=by
 unfold wk
 induction d.nums with
 |nil=>simp
 |cons a l ih=>
  have:(Bq t a).length<=4:=by unfold Bq;rw [zzt,Hw];omega
  simp only [List.flatMap_cons,za,List.length_cons];omega
theorem c7.written {d:cj} (h:c7 d) (t):(wk t d).length<=67108864/\(te d).length<=16777216/\(rq t d).length<=16777216:=by have h1:=auq t d;have h2:(te d).length<=gh bp d.names:=ajn ku bp asd d.names;have h3:(rq t d).length<=gh ByteArray.size d.texts:=aqb t d.texts 0;unfold c7 An at h;omega
theorem A7 {α:Type} {l:List α} {i:Nat} {c : α} (f : α->List UInt8) (h:l.drop i=c::l.drop (i+1)):(l.drop i).flatMap f=f c++(l.drop (i+1)).flatMap f:=by rw [h];rfl
theorem Xh (c):(Bx c).take 4=Bx c:=rfl
theorem Qy (t) (c):(Bx c).drop (4 - (cz t).size).toNat=Bq t c:=rfl
theorem aai (t:UInt16) {l:List ByteArray} {i:Nat} {c:ByteArray} (h:l.drop i=c::l.drop (i+1)):ox t i (l.drop i)=(if (t.toNat:Int)=16\/i=0 then [UInt8.ofNat c.size] else [])++c.data.toList++ox t (i+1) (l.drop (i+1)):=by rw [h];rfl
theorem ayd (t:UInt16) (d:cj) (hd:c7 d):wl PP [X9,aDi,an8,aCn] 0 (Tryz.f185.body.getD .skip) (c8 PP Tryz.f185.results.toList (fun r st=>(r1 (br bq)).get false st.h r=some (mw t d))) (cg 0 [cf.val false t,bc.val false d]) (bh []):=by
 have hl:=hd.lens;have hk:=hd.written t;have hs:=Bg t;unfold Tryz.f185;simp only [gq,bw];simp only [↓wR,zV,simprocAttr,Gi,G2];refine fm [0,3,6,7,8,21,22,23,5] (fun (x:Nat × List UInt8)=>[.sc (.int .u16 t.toNat),.ptr 0 0,.sc (.slice none 0 0),.sc (.slice none 0 0),.ptr 1 0,.vl false 1 (d.nums.map (cw.val false)),.sc (.int .i64 (d.nums.length)),.sc (.int .i64 (x.1)),.sl 2 0 x.2.length 1]) (fun x=>[some (.row [.vl false 1 (d.names.map (ak.val false)),.vl false 1 (d.nums.map (cw.val false)),.vl false 1 (d.texts.map (ah.val false)),.vl false 1 (d.raw.map (bq.val false))] 0 2 101),some (.row [.sc (.int .i64 (cz t).names),.sc (.int .i64 (cz t).nums),.sc (.int .i64 (cz t).size),.sc (.int .i64 (cz t).texts),.sc (.int .i64 (cz t).raw)] 0 2 198),some (.row (x.2.map (bq.val false)) 0 0 5)]) (fun x=>x.1<=d.nums.length/\x.2++(d.nums.drop x.1).flatMap (Bq t)=wk t d) (fun x=>d.nums.length - x.1) (0,[]) ⟨zzb _,rfl⟩ (by simp only [↓wR,zV,simprocAttr];(refine jh.lax [] (by first|exact zB rfl|(simp [c9];omega)) ?_ ?_<;>repeat' first|exact en.nil|exact cp.nil|exact fc.same _|exact fc.nil _ _ _|exact fc.mq _ _|exact cp.refl _ _|apply en.cons|apply cp.ghost|apply cp.same|apply cp.row)) ?_;rintro ⟨i,x⟩ ⟨hi,hx⟩;simp only at hi hx;simp only [↓wR,zV,simprocAttr];rw [bg];refine ⟨fun h=>?_,fun h=>?_⟩
 ·obtain ⟨c,hc,aF,hlt⟩:=du (zp h);rw [A7 _ aF] at hx;have bP:x.length+(Bq t c).length<=(wk t d).length:=by rw [<- hx];simp
  repeat (first|simp only [↓wR,zV,simprocAttr,h,hc,Qm,Hw,Xh,Qy]|simp (disch:=omega) only [zW])
  exact ⟨(i+1,x++Bq t c),⟨hlt,by rw [zzc];exact hx⟩,by simp;omega,zF,zF⟩
 rw [eg (zq h)] at hx;obtain rfl:x=wk t d:=by simpa using hx
 clear hx;simp only [↓wR,zV,simprocAttr,h];obtain ⟨nu,tL⟩:∃ nu,wk t d=nu:=⟨_,rfl⟩;rw [tL] at hk ⊢;refine fm [0,3,7,38,39,40,5,6] (fun (x:Nat × List UInt8)=>[.sc (.int .u16 t.toNat),.ptr 0 0,.sc (.slice none 0 0),.vl false 1 (d.names.map (ak.val false)),.sc (.int .i64 (d.names.length)),.sc (.int .i64 (x.1)),.sl 1 0 nu.length 1,.sl 2 0 x.2.length 1]) (fun x=>[some (.row [.vl false 1 (d.names.map (ak.val false)),.vl false 1 (d.nums.map (cw.val false)),.vl false 1 (d.texts.map (ah.val false)),.vl false 1 (d.raw.map (bq.val false))] 0 2 101),some (.row (nu.map (bq.val false)) 0 0 5),some (.row (x.2.map (bq.val false)) 0 0 5)]) (fun x=>x.1<=d.names.length/\x.2++(d.names.drop x.1).flatMap ku=te d) (fun x=>d.names.length - x.1) (0,[]) ⟨zzb _,rfl⟩ (by simp only [↓wR,zV,simprocAttr];(refine jh.lax [] (by first|exact zB rfl|(simp [c9];omega)) ?_ ?_<;>repeat' first|exact en.nil|exact cp.nil|exact fc.same _|exact fc.nil _ _ _|exact fc.mq _ _|exact cp.refl _ _|apply en.cons|apply cp.ghost|apply cp.same|apply cp.row)) ?_;clear h;rintro ⟨i,x⟩ ⟨hi,hx⟩;simp only at hi hx;simp only [↓wR,zV,simprocAttr];rw [bg];refine ⟨fun h=>?_,fun h=>?_⟩
 ·obtain ⟨c,hc,aF,hlt⟩:=du (zp h);rw [A7 _ aF] at hx;have bP:x.length+(ku c).length<=(te d).length:=by rw [<- hx];simp
  repeat (first|simp only [↓wR,zV,simprocAttr,h,hc,vt,hd.name c (zm hc)]|simp (disch:=omega) only [zW])
  exact ⟨(i+1,x++ku c),⟨hlt,by rw [zzc];exact hx⟩,by simp;omega,zF,zF⟩
 rw [eg (zq h)] at hx;obtain rfl:x=te d:=by simpa using hx
 clear hx;simp only [↓wR,zV,simprocAttr,h];obtain ⟨na,oJ⟩:∃ na,te d=na:=⟨_,rfl⟩;rw [oJ] at hk ⊢;refine fm [0,3,54,55,56,5,6,7] (fun (x:Nat × List UInt8)=>[.sc (.int .u16 t.toNat),.ptr 0 0,.vl false 1 (d.texts.map (ah.val false)),.sc (.int .i64 (d.texts.length)),.sc (.int .i64 (x.1)),.sl 1 0 nu.length 1,.sl 2 0 na.length 1,.sl 3 0 x.2.length 1]) (fun x=>[some (.row [.vl false 1 (d.names.map (ak.val false)),.vl false 1 (d.nums.map (cw.val false)),.vl false 1 (d.texts.map (ah.val false)),.vl false 1 (d.raw.map (bq.val false))] 0 2 101),some (.row (nu.map (bq.val false)) 0 0 5),some (.row (na.map (bq.val false)) 0 0 5),some (.row (x.2.map (bq.val false)) 0 0 5)]) (fun x=>x.1<=d.texts.length/\x.2++ox t x.1 (d.texts.drop x.1)=rq t d) (fun x=>d.texts.length - x.1) (0,[]) ⟨zzb _,rfl⟩ (by simp only [↓wR,zV,simprocAttr];(refine jh.lax [] (by first|exact zB rfl|(simp [c9];omega)) ?_ ?_<;>repeat' first|exact en.nil|exact cp.nil|exact fc.same _|exact fc.nil _ _ _|exact fc.mq _ _|exact cp.refl _ _|apply en.cons|apply cp.ghost|apply cp.same|apply cp.row)) ?_;clear h;rintro ⟨i,x⟩ ⟨hi,hx⟩;simp only at hi hx;simp only [↓wR,zV,simprocAttr];rw [bg];refine ⟨fun h=>?_,fun h=>?_⟩
 ·obtain ⟨c,hc,aF,hlt⟩:=du (zp h);rw [aai _ aF] at hx;have bP:x.length+((if (t.toNat:Int)=16\/i=0 then [UInt8.ofNat c.size] else []).length+c.size)<=(rq t d).length:=by rw [<- hx];simp
  have hcs:c.data.toList.length=c.size:=by simp
  repeat (first|simp only [↓wR,zV,simprocAttr,h,hc]|simp (disch:=omega) only [zW])
  have fin:∀ b:List UInt8,x++(b++c.data.toList++ox t (i+1) (d.texts.drop (i+1)))=rq t d->x++b++c.data.toList++ox t (i+1) (d.texts.drop (i+1))=rq t d:=fun b hb=>by rw [<- hb];simp
  rw [bz];refine ⟨fun ⟨kL,nN⟩=>?_,fun ⟨kL,nN⟩=>?_⟩
  ·rw [if_pos (.inl nN)] at hx bP;simp only [List.length_cons,List.length_nil] at bP
   repeat (first|simp only [↓wR,zV,simprocAttr,kL]|simp (disch:=omega) only [zW])
   exact ⟨(i+1,x++[UInt8.ofNat c.size]++c.data.toList),⟨hlt,fin _ hx⟩,by simp;omega,zF,zF⟩
  ·repeat (first|simp only [↓wR,zV,simprocAttr,kL]|simp (disch:=omega) only [zW])
   rw [bz];refine ⟨fun ⟨h0,e0⟩=>?_,fun ⟨h0,e0⟩=>?_⟩
   ·rw [if_pos (.inr zO)] at hx bP;simp only [List.length_cons,List.length_nil] at bP
    repeat (first|simp only [↓wR,zV,simprocAttr,h0]|simp (disch:=omega) only [zW])
    exact ⟨(i+1,x++[UInt8.ofNat c.size]++c.data.toList),⟨hlt,fin _ hx⟩,by simp;omega,zF,zF⟩
   ·rw [if_neg zO] at hx bP;simp only [List.length_nil] at bP
    repeat (first|simp only [↓wR,zV,simprocAttr,h0]|simp (disch:=omega) only [zW])
    exact ⟨(i+1,x++c.data.toList),⟨hlt,by have:=fin _ hx;simpa using this⟩,by simp;omega,zF,zF⟩
 rw [eg (zq h)] at hx;obtain rfl:x=rq t d:=by simpa [ox] using hx
 clear hx
 repeat (first|simp only [↓wR,zV,simprocAttr,h]|simp (disch:=omega) only [zW])
 unfold mw;rw [tL,oJ];rw [bz];refine ⟨fun ⟨h6,e6⟩=>?_,fun ⟨h6,e6⟩=>?_⟩
 ·rw [if_pos e6]
  repeat (first|simp only [↓wR,zV,simprocAttr,h6]|simp (disch:=omega) only [zW])
 ·rw [if_neg e6];have rN:nu.length+(na.length+((rq t d).length+d.raw.length))<=134217728:=zO
  repeat (first|simp only [↓wR,zV,simprocAttr,h6,Cq,rN]|simp (disch:=omega) only [zW])
  rw [<- zzw,<- zzw,<- zzw];exact vw bq false _ false _ _ rfl rfl
noncomputable def vx (x:UInt16 × cj × Unit):Option AV:=if c7 x.2.1 then some ((r1 (br bq)).E false (mw x.1 x.2.1)) else none
theorem H5 (x:UInt16 × cj × Unit) (r:AV) (h:vx x=some r):bf PP 185 ((aC cf (aC bc a0)).E x) r:=by obtain ⟨hc,rfl⟩:=zI h;exact aw (ar.cons (aq F9) (ar.cons (aq akz) (ar.cons (aq Vz) (ar.cons (aq agd) (ar.nil PP))))) Tryz.func185 zK zK zK zL (r1 (br bq)) false (mw x.1 x.2.1) (ayd x.1 x.2.1 hc)
noncomputable abbrev W7:Nat × Bool × (List AV->M AV):=(185,true,ct (aC cf (aC bc a0)) vx)
theorem aj9 (d:cj) (hd:c7 d):wl PP [agl,aiy,ano,uq] 0 (Tryz.f107.body.getD .skip) (c8 PP Tryz.f107.results.toList (fun r st=>(r1 bc).get true st.h r=some d)) (cg 0 [bc.val false d]) (bh []):=by
 have hl:=hd.lens;have l2:=hl.2.1;have l3:=hl.2.2.1;have l4:=hl.2.2.2;unfold Tryz.f107;simp only [gq,bw];simp only [↓wR,zV,simprocAttr];refine ⟨zK,.inl ?_⟩;simp only [↓wR,zV,simprocAttr,Av,Ak,Df,l2,l3,l4];refine ⟨zK,?_⟩;refine fm [2,17,18,19,3] (fun (x:List Name)=>[.ptr 0 0,.vl false 1 (d.names.map (ak.val false)),.sc (.int .i64 (d.names.length)),.sc (.int .i64 (x.length)),.ptr 1 0]) (fun x=>[some (.row [.sc (.slice none 0 0),.sc (.slice none 0 0),.sc (.slice none 0 0),.sc (.slice none 0 0)] 0 2 101),some (.row [.sl 2 0 x.length 1,.vl true 1 (d.nums.map (cw.val false)),.vl true 1 (d.texts.map (ah.val false)),.vl true 1 (d.raw.map (bq.val false))] 0 2 101),some (.row (x.map (ak.val true)) 0 0 24)]) (fun x=>x.length<=d.names.length/\x++d.names.drop x.length=d.names) (fun x=>d.names.length - x.length) [] ⟨zzb _,rfl⟩ (by simp only [↓wR,zV,simprocAttr];(refine jh.lax [] (by first|exact zB rfl|(simp [c9];omega)) ?_ ?_<;>repeat' first|exact en.nil|exact cp.nil|exact fc.same _|exact fc.nil _ _ _|exact fc.mq _ _|exact cp.refl _ _|apply en.cons|apply cp.ghost|apply cp.same|apply cp.row)) ?_;rintro x ⟨hi,hx⟩;simp only [↓wR,zV,simprocAttr];rw [bg];refine ⟨fun h=>?_,fun h=>?_⟩
 ·obtain ⟨c,hc,aF,hlt⟩:=du (zp h);rw [aF] at hx;have aD:(x.length+1) * 24<=140737488355328:=zO;simp only [↓wR,zV,simprocAttr,h,hc];refine ⟨zK,.inl ?_⟩;simp only [↓wR,zV,simprocAttr,nv,hd.name c (zm hc),aD];refine ⟨zK,?_⟩;exact ⟨x++[c],⟨by simp;omega,by simpa using hx⟩,by simp;omega,zF,zF⟩
 ·rw [eg (zq h)] at hx;rw [zzn] at hx;subst hx;simp only [↓wR,zV,simprocAttr,h]
noncomputable def Eb (x:cj × Unit):Option AV:=if c7 x.1 then some ((r1 bc).E true (x.1)) else none
theorem ac5 (x:cj × Unit) (r:AV) (h:Eb x=some r):bf PP 107 ((aC bc a0).E x) r:=by obtain ⟨hc,rfl⟩:=zI h;exact aw (ar.cons (aq Mq) (ar.cons (aq Mw) (ar.cons (aq Nr) (ar.cons (aq pz) (ar.nil PP))))) Tryz.func107 zK zK zK zL (r1 bc) true (x.1) (aj9 x.1 hc)
noncomputable abbrev aw3:Nat × Bool × (List AV->M AV):=(107,true,ct (aC bc a0) Eb)
def rm {α:Type} (f : α -> α) (l:List α) (i:Nat):List α:=(l.take i).map f++l.drop i
theorem apt {α:Type} (f : α -> α) (l:List α) (i:Nat):(rm f l i).length=l.length:=by simp [rm];omega
theorem ap7 {α:Type} (f : α -> α) {l:List α} {i:Nat} {c : α} (h:l[i]? = some c):(rm f l i)[i]? = some c:=by
 obtain ⟨hi,rfl⟩:=zg.1 h;have hl:((l.take i).map f).length=i:=by simp;omega
 rw [rm,zzd zO,hl,Nat.sub_self,zz6];simp [h]
theorem ap4 {α:Type} (f : α -> α) {l:List α} {i:Nat} {c : α} (h:l[i]? = some c):(rm f l i).take i++[f c]++(rm f l i).drop (i+1)=rm f l (i+1):=by
 obtain ⟨hi,rfl⟩:=zg.1 h;have h1:((l.take i).map f).length=i:=by simp;omega
 have h2:(rm f l i).take i=(l.take i).map f:=by rw [rm,List.take_append_of_le_length zO,zzp zO]
 have h3:(rm f l i).drop (i+1)=l.drop (i+1):=by rw [rm,List.drop_append,zzx zO,h1];simp
 rw [h2,h3,rm,zz5 hi,zzw];rfl
theorem an6 {α:Type} (f : α -> α) (l:List α):rm f l l.length=l.map f:=by simp [rm]
noncomputable def l7 (t:UInt16) (d:cj):cj:=if 0<(cz t).names then { d with names:=d.names.map ek } else d
theorem ajq (t:UInt16) (d:cj) (hd:c7 d):wl PP [X9,ay6] 0 (Tryz.f162.body.getD .skip) (c8 PP Tryz.f162.results.toList (fun r st=>(r1 bc).get true st.h r=some (l7 t d))) (cg 0 [cf.val false t,bc.val false d]) (bh []):=by
 have hl:=hd.lens;have l2:=hl.2.1;have l3:=hl.2.2.1;have l4:=hl.2.2.2;unfold Tryz.f162;simp only [gq,bw];simp only [↓wR,zV,simprocAttr];refine cx (T:=[agl,aiy,ano,uq]) (ar.cons (aq Mq) (ar.cons (aq Mw) (ar.cons (aq Nr) (ar.cons (aq pz) (ar.nil PP))))) mixed Tryz.func107 rfl zK zK zK zK ?_;unfold Tryz.f107;simp only [↓wR,zV,simprocAttr];refine ⟨zK,.inl ?_⟩;simp only [↓wR,zV,simprocAttr,Av,Ak,Df,l2,l3,l4];refine ⟨zK,?_⟩;refine fm [2,17,18,19,3] (fun (x:List Name)=>[.ptr 2 0,.vl false 1 (d.names.map (ak.val false)),.sc (.int .i64 (d.names.length)),.sc (.int .i64 (x.length)),.ptr 3 0]) (fun x=>[some (.row [.vl false 1 (d.names.map (ak.val false)),.vl false 1 (d.nums.map (cw.val false)),.vl false 1 (d.texts.map (ah.val false)),.vl false 1 (d.raw.map (bq.val false))] 0 2 101),some (.row [.sc (.slice none 0 0),.sc (.slice none 0 0),.sc (.slice none 0 0),.sc (.slice none 0 0)] 0 2 101),some (.row [.sc (.slice none 0 0),.sc (.slice none 0 0),.sc (.slice none 0 0),.sc (.slice none 0 0)] 0 2 101),some (.row [.sl 4 0 x.length 1,.vl true 1 (d.nums.map (cw.val false)),.vl true 1 (d.texts.map (ah.val false)),.vl true 1 (d.raw.map (bq.val false))] 0 2 101),some (.row (x.map (ak.val true)) 0 0 24)]) (fun x=>x.length<=d.names.length/\x++d.names.drop x.length=d.names) (fun x=>d.names.length - x.length) [] ⟨zzb _,rfl⟩ (by simp only [↓wR,zV,simprocAttr];(refine jh.lax [] (by first|exact zB rfl|(simp [c9];omega)) ?_ ?_<;>repeat' first|exact en.nil|exact cp.nil|exact fc.same _|exact fc.nil _ _ _|exact fc.mq _ _|exact cp.refl _ _|apply en.cons|apply cp.ghost|apply cp.same|apply cp.row)) ?_;rintro x ⟨hi,hx⟩;simp only [↓wR,zV,simprocAttr];rw [bg];refine ⟨fun h=>?_,fun h=>?_⟩
 ·obtain ⟨c,hc,aF,hlt⟩:=du (zp h);rw [aF] at hx;have aD:(x.length+1) * 24<=140737488355328:=zO;simp only [↓wR,zV,simprocAttr,h,hc];refine ⟨zK,.inl ?_⟩;simp only [↓wR,zV,simprocAttr,nv,hd.name c (zm hc),aD];refine ⟨zK,?_⟩;exact ⟨x++[c],⟨by simp;omega,by simpa using hx⟩,by simp;omega,zF,zF⟩
 rw [eg (zq h)] at hx;rw [zzn] at hx;subst hx;simp only [↓wR,zV,simprocAttr,h,Gi,G2];unfold l7;clear hi h;rw [bg];refine ⟨fun h0=>?_,fun h0=>?_⟩
 ·rw [if_pos h0];simp only [↓wR,zV,simprocAttr,h0];refine dq [4,5,15,16,17] (fun (i:Nat)=>[.ptr 0 0,.ptr 1 0,.sl 2 0 d.names.length 1,.sc (.int .i64 (d.names.length)),.sc (.int .i64 (i))]) (fun i=>[some (.row [.sc (.slice none 0 0),.sc (.slice none 0 0),.sc (.slice none 0 0),.sc (.slice none 0 0)] 0 2 101),some (.row [.sl 2 0 d.names.length 1,.vl true 1 (d.nums.map (cw.val false)),.vl true 1 (d.texts.map (ah.val false)),.vl true 1 (d.raw.map (bq.val false))] 0 2 101),some (.row ((rm ek d.names i).map (ak.val true)) 0 0 24)]) (fun i=>i<=d.names.length) (fun i=>d.names.length - i) 0 (zzb _) (by simp only [↓wR,zV,simprocAttr]<;>rfl) (by simp only [↓wR,zV,simprocAttr]<;>rfl) ?_;intro i hi;simp only [↓wR,zV,simprocAttr];rw [bg];refine ⟨fun h=>?_,fun h=>?_⟩
  ·obtain ⟨c,hc,aF,hlt⟩:=du (zp h);have hs:=ap7 ek hc;have hlen:=apt ek d.names i;have eD:i+1<=d.names.length:=hlt;simp only [↓wR,zV,simprocAttr,h,hs,hlt];refine ⟨zK,.inl ?_⟩;simp only [↓wR,zV,simprocAttr,h,hlt,eD,hlen,Ep,hd.name c (zm hc)];refine ⟨zK,i+1,hlt,zO,zF,?_⟩;rw [<- ap4 ek hc];simp only [zzw,List.map_cons,List.map_nil]
  ·have hin:i=d.names.length:=zO;subst hin;rw [an6];have bS:(d.names.map ek).length=d.names.length:=zzo _;generalize d.names.map ek=m at bS ⊢;simp only [↓wR,zV,simprocAttr,h,bS];rfl
 ·rw [if_neg h0];simp only [↓wR,zV,simprocAttr,h0]
noncomputable def Ef (x:UInt16 × cj × Unit):Option AV:=if c7 x.2.1 then some ((r1 bc).E true (l7 x.1 x.2.1)) else none
theorem adh (x:UInt16 × cj × Unit) (r:AV) (h:Ef x=some r):bf PP 162 ((aC cf (aC bc a0)).E x) r:=by obtain ⟨hc,rfl⟩:=zI h;exact aw (ar.cons (aq F9) (ar.cons (aq acv) (ar.nil PP))) Tryz.func162 zK zK zK zL (r1 bc) true (l7 x.1 x.2.1) (ajq x.1 x.2.1 hc)
noncomputable abbrev ayu:Nat × Bool × (List AV->M AV):=(162,true,ct (aC cf (aC bc a0)) Ef)
def j6:List Name->Int
 | []=>0
 |n::r=>if dk n≠0 then dk n else j6 r
noncomputable def dx (t:UInt16) (d:cj):Int:=
 if my t=true then 6 else if ry (cz t) t d=false then 7 else if j6 d.names≠0 then j6 d.names else if 65535<(mw t d).length then 3 else 0
theorem Rc {l:List Name} {i:Nat} {c:Name} (h:l.drop i=c::l.drop (i+1)):j6 (l.drop i)=if dk c≠0 then dk c else j6 (l.drop (i+1)):=by rw [h];rfl
theorem adu (t:UInt16) (d:cj) (hd:c7 d):wl PP [aEl,X9,aE4,fk,W7] 0 (Tryz.f158.body.getD .skip) (c8 PP Tryz.f158.results.toList (fun r st=>(r1 (ba .i64)).get true st.h r=some (dx t d))) (cg 0 [cf.val false t,bc.val false d]) (bh []):=by
 have hs:=Bg t;have hl:=hd.lens;unfold Tryz.f158;simp only [gq,bw];simp only [↓wR,zV,simprocAttr,Yk];unfold dx;rw [cq];refine ⟨fun hb=>?_,fun hb=>?_⟩
 ·rw [if_pos hb];simp only [↓wR,zV,simprocAttr,hb]
 rw [if_neg (by rw [hb];decide)];simp only [↓wR,zV,simprocAttr,hb];refine ⟨zK,.inl ?_⟩;simp only [↓wR,zV,simprocAttr,Gi,Ot,hs,hd];refine ⟨zK,?_⟩;rw [cq];refine ⟨fun hf=>?_,fun hf=>?_⟩
 ·rw [if_pos (by simpa using hf)];simp only [↓wR,zV,simprocAttr,hf]
 have hf':ry (cz t) t d=true:=by simpa using hf
 rw [if_neg (by rw [hf'];decide)];simp only [↓wR,zV,simprocAttr,hf];refine dq [0,3,17,18,19] (fun (i:Nat)=>[.sc (.int .u16 t.toNat),.ptr 0 0,.vl false 1 (d.names.map (ak.val false)),.sc (.int .i64 (d.names.length)),.sc (.int .i64 (i))]) (fun _=>[some (.row [.vl false 1 (d.names.map (ak.val false)),.vl false 1 (d.nums.map (cw.val false)),.vl false 1 (d.texts.map (ah.val false)),.vl false 1 (d.raw.map (bq.val false))] 0 2 101)]) (fun i=>i<=d.names.length/\j6 d.names=j6 (d.names.drop i)) (fun i=>d.names.length - i) 0 ⟨zzb _,rfl⟩ (by simp only [↓wR,zV,simprocAttr]<;>rfl) (by simp only [↓wR,zV,simprocAttr]<;>rfl) ?_;rintro i ⟨hi,hx⟩;simp only [↓wR,zV,simprocAttr];rw [bg];refine ⟨fun h=>?_,fun h=>?_⟩
 ·obtain ⟨c,hc,aF,hlt⟩:=du (zp h);rw [Rc aF] at hx;simp only [↓wR,zV,simprocAttr,h,hc,qh,(hd.name c (zm hc)).fit];rw [cq];refine ⟨fun h1=>?_,fun h1=>?_⟩
  ·have he:dk c≠0:=by simpa using h1
   rw [if_pos he] at hx;rw [if_pos (by rw [hx];exact he),hx];simp only [↓wR,zV,simprocAttr,h1]
  ·have he:dk c=0:=by simpa using h1
   rw [if_neg zO] at hx
   repeat (first|simp only [↓wR,zV,simprocAttr,h1]|simp (disch:=omega) only [zW])
   exact ⟨i+1,⟨hlt,hx⟩,zO,zF⟩
 rw [eg (zq h)] at hx;rw [if_neg (by rw [hx];decide)];simp only [↓wR,zV,simprocAttr,h,vx,hd];rw [bg];refine ⟨fun h2=>?_,fun h2=>?_⟩
 ·rw [if_pos zO];simp only [↓wR,zV,simprocAttr,h2]
 ·rw [if_neg zO];simp only [↓wR,zV,simprocAttr,h2]
noncomputable def so (x:UInt16 × cj × Unit):Option AV:=if c7 x.2.1 then some ((r1 (ba .i64)).E true (dx x.1 x.2.1)) else none
theorem Dg (x:UInt16 × cj × Unit) (r:AV) (h:so x=some r):bf PP 158 ((aC cf (aC bc a0)).E x) r:=by obtain ⟨hc,rfl⟩:=zI h;exact aw (ar.cons (aq ak5) (ar.cons (aq F9) (ar.cons (aq aq8) (ar.cons (aq qy) (ar.cons (aq H5) (ar.nil PP)))))) Tryz.func158 zK zK zK zL (r1 (ba .i64)) true (dx x.1 x.2.1) (adu x.1 x.2.1 hc)
noncomputable abbrev Nz:Nat × Bool × (List AV->M AV):=(158,true,ct (aC cf (aC bc a0)) so)
noncomputable def Gn (t:UInt16) (d:cj):List UInt8:=if dx t d≠0 then [] else mw t d
theorem ai6 (t:UInt16) (d:cj) (hd:c7 d):wl PP [Nz,W7] 0 (Tryz.f161.body.getD .skip) (c8 PP Tryz.f161.results.toList (fun r st=>(r2 (br bq) (ba .i64)).get false st.h r=some (Gn t d,dx t d))) (cg 0 [cf.val false t,bc.val false d]) (bh []):=by
 unfold Tryz.f161;simp only [gq,bw];simp only [↓wR,zV,simprocAttr,so,hd];unfold Gn;rw [cq];refine ⟨fun h=>?_,fun h=>?_⟩
 ·have he:dx t d≠0:=by simpa using h
  rw [if_pos he];simp only [↓wR,zV,simprocAttr,h]
 ·have he:dx t d=0:=by simpa using h
  rw [if_neg zO];simp only [↓wR,zV,simprocAttr,h,vx,hd,he]
noncomputable def Ch (x:UInt16 × cj × Unit):Option AV:=if c7 x.2.1 then some ((r2 (br bq) (ba .i64)).E false ((Gn x.1 x.2.1,dx x.1 x.2.1))) else none
theorem Yu (x:UInt16 × cj × Unit) (r:AV) (h:Ch x=some r):bf PP 161 ((aC cf (aC bc a0)).E x) r:=by obtain ⟨hc,rfl⟩:=zI h;exact aw (ar.cons (aq Dg) (ar.cons (aq H5) (ar.nil PP))) Tryz.func161 zK zK zK zL (r2 (br bq) (ba .i64)) false ((Gn x.1 x.2.1,dx x.1 x.2.1)) (ai6 x.1 x.2.1 hc)
noncomputable abbrev au3:Nat × Bool × (List AV->M AV):=(161,true,ct (aC cf (aC bc a0)) Ch)
theorem art (args:List AV):Ca PP 187 args (Cx.qa args):=
 Cx.Pv (fn:=(PP.funcs[187]?).getD default) zK zK zK zK zK args
noncomputable abbrev aDx:Nat × Bool × (List AV->M AV):=(187,true,Cx.qa)
theorem aA0:ar PP [aDx]:=ar.cons art (ar.nil PP)
noncomputable def Zc (a b:List UInt8):Int:=Lib.compareBytes a b
theorem Uf (a b:List UInt8):wl PP [aDx] 0 (Tryz.f163.body.getD .skip) (c8 PP Tryz.f163.results.toList (fun r st=>(r1 (ba .i64)).get true st.h r=some (Zc a b))) (cg 0 [(br bq).val false a,(br bq).val false b]) (bh []):=by unfold Tryz.f163;simp only [j5];simp only [↓wR,zV,simprocAttr,Zc]
noncomputable def yw (x:List UInt8 × List UInt8 × Unit):Option AV:=some ((r1 (ba .i64)).E true (Zc x.1 x.2.1))
theorem Q9 (x:List UInt8 × List UInt8 × Unit) (r:AV) (h:yw x=some r):bf PP 163 ((aC (br bq) (aC (br bq) a0)).E x) r:=by cases h;exact aw aA0 Tryz.func163 zK zK zK zL (r1 (ba .i64)) true (Zc x.1 x.2.1) (Uf x.1 x.2.1)
noncomputable abbrev aew:Nat × Bool × (List AV->M AV):=(163,true,ct (aC (br bq) (aC (br bq) a0)) yw)
theorem H8 (s:ByteArray):(fold s).size=s.size:=by show (s.data.toList.map low).toArray.size=s.data.size;simp
theorem Cv (n:Name):bp (ek n)=bp n:=by unfold bp ek;rw [List.foldl_map];simp only [H8]
theorem as3 (l:List Name):gh bp (l.map ek)=gh bp l:=by
 induction l with
 |nil=>rfl
 |cons a l ih=>simp only [gh,List.map_cons,List.foldr_cons,Cv] at ih ⊢;rw [ih]
theorem c7.fold {d:cj} (h:c7 d) (t:UInt16):c7 (l7 t d):=by
 unfold l7
 split
 ·unfold c7 An at *;simp only [as3];exact h
 ·exact h
noncomputable def Cl (t:UInt16) (a b:cj):Int:=if dx t (l7 t a)≠0\/dx t (l7 t b)≠0 then 0 else Zc (Gn t (l7 t a)) (Gn t (l7 t b))
noncomputable def yy (t:UInt16) (a b:cj):Bool:=decide (dx t a=0) && decide (dx t b=0) && decide (Cl t a b=0)
theorem Ye (t:UInt16) (a b:cj) (ha:c7 a) (hb:c7 b):wl PP [ayu,au3,aew] 0 (Tryz.f123.body.getD .skip) (c8 PP Tryz.f123.results.toList (fun r st=>(r1 (ba .i64)).get true st.h r=some (Cl t a b))) (cg 0 [cf.val false t,bc.val false a,bc.val false b]) (bh []):=by
 have fa:=ha.fold t;have fb:=hb.fold t;unfold Tryz.f123;simp only [gq,bw];simp only [↓wR,zV,simprocAttr,Ef,Ch,yw,ha,hb,fa,fb];unfold Cl;rw [cq];refine ⟨fun h=>?_,fun h=>?_⟩
 ·have he:dx t (l7 t a)≠0:=by simpa using h
  rw [if_pos (.inl he)];simp only [↓wR,zV,simprocAttr,h]
 have he:dx t (l7 t a)=0:=by simpa using h
 simp only [↓wR,zV,simprocAttr,h];rw [cq];refine ⟨fun h2=>?_,fun h2=>?_⟩
 ·have rG:dx t (l7 t b)≠0:=by simpa using h2
  rw [if_pos (.inr rG)];simp only [↓wR,zV,simprocAttr,h2]
 ·have rG:dx t (l7 t b)=0:=by simpa using h2
  rw [if_neg zO];simp only [↓wR,zV,simprocAttr,h2,yw]
noncomputable def nn (x:UInt16 × cj × cj × Unit):Option AV:=if c7 x.2.1/\c7 x.2.2.1 then some ((r1 (ba .i64)).E true (Cl x.1 x.2.1 x.2.2.1)) else none
theorem Gd (x:UInt16 × cj × cj × Unit) (r:AV) (h:nn x=some r):bf PP 123 ((aC cf (aC bc (aC bc a0))).E x) r:=by obtain ⟨hc,rfl⟩:=zI h;exact aw (ar.cons (aq adh) (ar.cons (aq Yu) (ar.cons (aq Q9) (ar.nil PP)))) Tryz.func123 zK zK zK zL (r1 (ba .i64)) true (Cl x.1 x.2.1 x.2.2.1) (Ye x.1 x.2.1 x.2.2.1 hc.1 hc.2)
noncomputable abbrev Iy:Nat × Bool × (List AV->M AV):=(123,true,ct (aC cf (aC bc (aC bc a0))) nn)
theorem aku (t:UInt16) (a b:cj) (ha:c7 a) (hb:c7 b):wl PP [Nz,Iy] 0 (Tryz.f155.body.getD .skip) (c8 PP Tryz.f155.results.toList (fun r st=>(r1 bk).get true st.h r=some (yy t a b))) (cg 0 [cf.val false t,bc.val false a,bc.val false b]) (bh []):=by
 unfold Tryz.f155;simp only [gq,bw];simp only [↓wR,zV,simprocAttr,so,ha,hb];unfold yy;rw [bz];refine ⟨fun ⟨h,e⟩=>?_,fun ⟨h,e⟩=>?_⟩
 ·rw [zp e];simp only [↓wR,zV,simprocAttr,h,so,ha,hb];rw [bz];refine ⟨fun ⟨h2,e2⟩=>?_,fun ⟨h2,e2⟩=>?_⟩
  ·rw [zp e2];simp only [↓wR,zV,simprocAttr,h2,nn,ha,hb];rfl
  ·rw [zq e2];simp only [↓wR,zV,simprocAttr,h2];rfl
 ·rw [zq e];simp only [↓wR,zV,simprocAttr,h];rfl
noncomputable def Eu (x:UInt16 × cj × cj × Unit):Option AV:=if c7 x.2.1/\c7 x.2.2.1 then some ((r1 bk).E true (yy x.1 x.2.1 x.2.2.1)) else none
theorem acw (x:UInt16 × cj × cj × Unit) (r:AV) (h:Eu x=some r):bf PP 155 ((aC cf (aC bc (aC bc a0))).E x) r:=by obtain ⟨hc,rfl⟩:=zI h;exact aw (ar.cons (aq Dg) (ar.cons (aq Gd) (ar.nil PP))) Tryz.func155 zK zK zK zL (r1 bk) true (yy x.1 x.2.1 x.2.2.1) (aku x.1 x.2.1 x.2.2.1 hc.1 hc.2)
noncomputable abbrev axc:Nat × Bool × (List AV->M AV):=(155,true,ct (aC cf (aC bc (aC bc a0))) Eu)
end Go.Proofs.YtgencolcibpcaaaGreat
end
section
namespace Go.Vm
variable [TK]
noncomputable section
theorem Yy {α:Type} (C:di α) (fr:Bool) (h:Tr bo) (l:List AV) (ha:C.agg=true):C.dec fr h l=C.fq fr h (.agg l):=by rw [xa _ _ _ _ rfl (by rw [ha];rfl)];rfl
theorem adx {α β:Type} (A:di α) (B:di β) (fr:Bool) (h:Tr bo) (l:List AV):(kn A B).dec fr h l=match A.dec fr h (l.take A.sz),B.dec fr h (l.drop A.sz) with|some x,some y=>some (x,y)|_,_=>none:=rfl
theorem Vd {α:Type} (C:di α) (fr h) (x:AV):(br C).dec fr h [x]=gy C fr h x:=rfl
theorem Wr (fr h) (x:AV):ak.dec fr h [x]=gy ah fr h x:=rfl
theorem aqc {P:Program} {T:eh} {l:Nat} {bb:Nat} {L:SL} {st:St} {Q:QI} {ps:List Tmp} {ra rb:Code} {L0:SL} {α:Type} {b:Code} (keep:List Nat) (V : α->List AV) (O : α->List (Option bo)) (I : α->Prop) (μ : α->Nat) (x : α) (hx:I x)
 (hv:jh bb (ij bb keep L st) (fl bb keep L st) (V x) (O x))
 (step:∀ x,I x->qd P T l (oi ps (fun p=>wl P T p ra) (fun p=>wl P T p rb) L0) bb b (Cg (xl bb keep (fun vs os=>∃ y,I y /\ μ y < μ x/\vs=V y/\os=O y) (fun _ _ _=>False)) Q) none (iz keep (V x)) (bh (O x))):qd P T l (oi ps (fun p=>wl P T p ra) (fun p=>wl P T p rb) L0) bb (.loop b) Q none L st:=by
 have mono:∀ (Q1 Q2:QL),(∀ e L st,Q1 e L st->Q2 e L st)->∀ L st,qd P T l (oi ps (fun p=>wl P T p ra) (fun p=>wl P T p rb) L0) bb b (Cg Q1 Q) none L st->qd P T l (oi ps (fun p=>wl P T p ra) (fun p=>wl P T p rb) L0) bb b (Cg Q2 Q) none L st:=fun Q1 Q2 h L st hh=>T5 (Ra P T) b _ _ (fun e pe L st q=>by
  cases e with
  |normal=>exact ⟨q.1,h _ _ _ q.2⟩
  |ret=>exact q
  |exit i=>exact q) none L st hh
 refine ⟨rfl,tx.ays (B:=fun Q' L st=>qd P T l _ bb b (Cg Q' Q) none L st) keep V O I μ x hx hv mono (fun x hi=>mono _ _ (fun e L' aA hq=>?_) _ _ (step x hi))⟩;cases e with
 |normal=>
  obtain ⟨y,h1,h2,h3,h4⟩:=hq;refine ⟨y,h1,h2,?_⟩;rw [h3,h4];exact .refl _ _ _
 |exit i=>exact hq.elim
 |ret=>exact hq.elim
theorem Mr (k fr h n cells kk st et) (hn:n=cells.length) (hro:Af fr st 1 (.int k) et=true):kf (ba k) fr h 0 n (.row cells kk st et)=rk (ba k) fr h cells:=ya (ba k) rfl fr h n cells kk st et hn hro
def iy (n:Nat) (r:AV) (st:St):List Nat:=reach st.h fj (r.names++oo st.h (dz 0 n)) (dz 0 n)
def jl (n:Nat) (r:AV) (st:St):AV:=r.da (fun o=>idx (iy n r st) o 0)
def jd (n:Nat) (r:AV) (st:St):St:=bh (jc st.h (fun o=>idx (iy n r st) o 0) (iy n r st))
theorem am8 {g g':Gh} {st aA:St} {w w':World} {r:AV} {v:Value} (hn:st.nx<=1000) (hfr:∀ o,st.nx<=o->g.inj o=none) (hs:Step g st.h w st.nx aA.nx g' aA.h w') (aB:Ok g' aA.h w') (hr:Rel g' w' r v) :
 ∃ g'',st.nx<=(jd st.nx r aA).nx/\Step g st.h w st.nx (jd st.nx r aA).nx g'' (jd st.nx r aA).h w'/\Ok g'' (jd st.nx r aA).h w'/\Rel g'' w' (jl st.nx r aA) v:=by
 have hN:=Ac aA.h fj (r.names++oo aA.h (dz 0 st.nx)) (dz 0 st.nx) (ri _ _);change (iy st.nx r aA).Nodup/\(∃ q,iy st.nx r aA=dz 0 st.nx++q)/\(iy st.nx r aA).length<=_ at hN;have hτ:∀ o p,(fun o=>idx (iy st.nx r aA) o 0) o=some p->(iy st.nx r aA)[p]? = some o:=fun o p h=>F0 _ o p h
 unfold jd jl;generalize iy st.nx r aA=N at hN hτ;obtain ⟨bR,⟨rest,hpre⟩,hlen⟩:=hN;rw [js] at hlen;have aD:N.length<=c9:=by simp only [fj,c9] at *;omega
 have ef:∀ i x,(bh (jc aA.h (fun o=>idx N o 0) N)).h.get i=some x->∃ o y,N[i]? = some o/\aA.h.get o=some y/\y.da (fun o=>idx N o 0)=some x:=by
  intro i x hx;simp only [bh] at hx;rw [uk _ _ _ (by rw [iq];omega),if_pos (zzb _),Nat.sub_zero,uz] at hx;cases hi:N[i]? with
  |none=>rw [hi] at hx;cases hx
  |some o=>
   rw [hi] at hx;simp only [Option.map_some,Option.join_some] at hx;cases hy:aA.h.get o with
   |none=>rw [hy] at hx;cases hx
   |some y=>rw [hy] at hx;exact ⟨o,y,rfl,hy,hx⟩
 have aN:∀ i o,N[i]? = some o->(g'.da N).inj i=g'.inj o:=fun i o h=>by simp [Gh.da,h]
 have bG:∀ o,o<st.nx->N[o]? = some o:=fun o ho=>by rw [hpre,zzi (by rw [js];exact ho),Fs _ _ _ ho,Nat.zero_add]
 have bM:(bh (jc aA.h (fun o=>idx N o 0) N)).nx=N.length:=by simp only [bh,iq]
 have hle:st.nx<=N.length:=by rw [hpre,za,js];omega
 rw [bM];refine ⟨g'.da N,hle,⟨⟨hs.ext.b0,fun o p ho=>?_,hs.ext.K,hs.ext.cell,hs.ext.sv,hs.ext.lp,hs.ext.whole⟩,hs.size,hs.os,hs.tape,hs.output,hs.frame,fun o ho hr=>?_,fun i b base hi hj=>?_,hs.n8⟩,⟨aB.size,fun i x hx=>?_,fun i j x y b base base' dI hx hy hb hb'=>?_,aB.K⟩,hr.da hτ⟩
 ·have hlt:o<st.nx:=by
   rcases zyf o st.nx with h|h
   ·exact h
   ·rw [hfr o h] at ho;cases ho
  rw [aN o o (bG o hlt)];exact hs.ext.inj o p ho
 ·rcases zyf o st.nx with h|h
  ·rw [aN o o (bG o h)];exact hs.fresh o ho zO
  ·simp [Gh.da,zzy (show N.length<=o by omega)]
 ·obtain ⟨x,hx⟩:=zzv.1 hi;obtain ⟨o,y,h1,h2,_⟩:=ef i x hx;rw [aN i o h1] at hj;exact hs.own o b base (by rw [h2];rfl) hj
 ·obtain ⟨o,y,h1,h2,h3⟩:=ef i x hx;refine (aB.mn o y h2).imp (fun q=>⟨by rw [aN i o h1];exact q.1,by obtain ⟨s0,e0,rfl⟩:=q.2;simp only [bo.da,AV.da.go,Option.some.injEq] at h3;exact ⟨s0,e0,h3.symm⟩⟩) ?_;rintro ⟨b,base,q1,q2,q3⟩;exact ⟨b,base,by rw [aN i o h1];exact q1,q2,q3.da hτ h3⟩
 ·obtain ⟨o,y1,h1,h2,_⟩:=ef i x hx;obtain ⟨o',y2,h1',h2',_⟩:=ef j y hy;rw [aN i o h1] at hb;rw [aN j o' h1'] at hb';have hne:o≠o':=by
   intro e;subst e;obtain ⟨hi,ei⟩:=zg.1 h1;obtain ⟨hj,ej⟩:=zg.1 h1';exact dI ((List.getElem_inj bR).1 (ei.trans ej.symm))
  exact aB.sep o o' _ _ b base base' hne h2 h2' hb hb'
theorem ed {P:Program} {f:Nat} {args:List AV} {st:St} {R:AV->St->Prop} (R0:AV->St->Prop) (hn:Nat.ble st.nx 1000=true) (h1:k8 P f args st (fun r aA=>R0 (jl st.nx r aA) (jd st.nx r aA))) (h2:∀ r aA,R0 r aA->R r aA):k8 P f args st R:=by
 intro g w vs aB hfr hrel;rcases h1 g w vs aB hfr hrel with ⟨v,w',g',r,aA,q1,q2,q3,q4,q5,q6⟩|⟨q1,q2⟩
 ·obtain ⟨g'',p1,p2,p3,p4⟩:=am8 (zB hn) hfr q4 q5 q6;exact .inl ⟨v,w',g'',_,_,q1,h2 _ _ q2,p1,p2,p3,p4⟩
 ·refine .inr ⟨q1,q2.mono ?_⟩;rintro e w' ⟨v,g',r,aA,rfl,q2,q3,q4,q5,q6⟩;obtain ⟨g'',p1,p2,p3,p4⟩:=am8 (zB hn) hfr q4 q5 q6;exact ⟨v,g'',_,_,rfl,h2 _ _ q2,p1,p2,p3,p4⟩
theorem L7 (l) (n:Name):kl (ak.val l n)=some n.length:=by rw [bw];show some (List.map (ah.val l) n).length=_;rw [zzo]
theorem amg (a b:Operand):(#[a]++(none:Option Operand).toArray++(some b).toArray++(none:Option Operand).toArray).toList=[a,b]:=id rfl
theorem al0 (a b:Operand):(#[a]++(some b).toArray++(none:Option Operand).toArray++(none:Option Operand).toArray).toList=[a,b]:=id rfl
theorem md5 (a:Nat):a * 5 / 5=a:=zO
theorem dv4 : 4 / 4=1:=rfl
theorem dv5 : 5 / 5=1:=rfl
theorem ad8 (fr h):cf.dec fr h [.sc (.int .u16 0)]=some 0:=rfl
theorem aev (fr h):cw.dec fr h [.sc (.int .u32 0)]=some 0:=rfl
theorem anh (k fr h n):(ba k).dec fr h [.sc (.int k n)]=some n:=(ba k).rt fr h true n (fun _=>rfl)
theorem Mv (l:Bool) (d:cj):(bc.val l d).cells=[.vl l 1 (d.names.map (ak.val l)),.vl l 1 (d.nums.map (cw.val l)),.vl l 1 (d.texts.map (ah.val l)),.vl l 1 (d.raw.map (bq.val l))]:=id rfl
theorem Pc (fr h l) (n:Name) (hl:(l || !fr)=true):gy ah fr h (ak.val l n)=some n:=vw ah fr h l n 1 rfl hl
def ahu {α:Type} (C:di α) (h:Tr bo) (off:Nat) (x:bo):Option α:=
 match x with
 |.row cells _ _ _=>bif Nat.ble (off+C.sz) cells.length then C.dec false h ((cells.drop off).take C.sz) else none
 |_=>none
def Yi {α:Type} (C:di α) (h:Tr bo) (a:AV):Option α:=
 match a with
 |.fe l=>bif Nat.ble C.sz l.length then C.dec false h (l.take C.sz) else none
 |.ptr o off=>(h.get o).bind (ahu C h off)
 |_=>none
theorem T9 {α:Type} (C:di α) (h o off):Yi C h (.ptr o off)=(h.get o).bind (ahu C h off):=id rfl
theorem Hl {α:Type} (C:di α) (h l):Yi C h (.fe l)=bif Nat.ble C.sz l.length then C.dec false h (l.take C.sz) else none:=id rfl
theorem T3 {α:Type} (C:di α) (h off cells k s e):ahu C h off (.row cells k s e)=bif Nat.ble (off+C.sz) cells.length then C.dec false h ((cells.drop off).take C.sz) else none:=id rfl
theorem aB4 {α:Type} (C:di α) {g h w K b0 a v x} (aB:Ok g h w) (hl:u9 g h K) (hr:Rel g w a v) (hd:Yi C h a=some x):Rel (gK b0 K) w (.fe (C.cells false x)) v:=by
 have fin:∀ (b off:Nat) (vs:List Value),bt g w ((C.cells false x).map fun _=>AV.bad) vs->bt (gK b0 K) w (C.cells false x) vs->(∀ j u,vs[j]? = some u->K b (off+j)/\w.cell? ⟨b,off+j,none⟩=some u)->Rel (gK b0 K) w (.fe (C.cells false x)) (.pointer (some ⟨b,off,none⟩)):=by
  intro b off vs _ hrl hc;refine .fe _ b off (fun j=>vs.getD j undef) (fun j a hj=>?_) (fun j a hj=>?_)
  ·obtain ⟨u,hu,_⟩:=hrl.get hj;have:=hc j u hu;exact ⟨this.1,by rw [this.2,List.getD_eq_getElem?_getD,hu];rfl⟩
  ·obtain ⟨u,hu,hrel⟩:=hrl.get hj;show Rel _ _ a (vs.getD j undef);rw [List.getD_eq_getElem?_getD,hu];exact hrel
 have nQ:∀ vs:List Value,bt (gK b0 K) w (C.cells false x) vs->bt g w ((C.cells false x).map fun _=>AV.bad) vs:=fun vs h=>⟨by simpa using h.1,fun i a v ha _=>by rw [zzj,zzk] at ha;obtain ⟨_,_,rfl⟩:=ha;exact .bad _⟩
 cases hr with
 |fe l b off c h1 h2=>
  rw [Hl] at hd;cases hb:Nat.ble C.sz l.length with
  |false=>rw [hb] at hd;cases hd
  |true=>
   rw [hb,cond_true] at hd;have hle:=zB hb;have fF:bt g w (l.take C.sz) (kg 0 C.sz c):=by
    refine ⟨by simp [kg];omega,fun i a v ha hv=>?_⟩;rw [zye] at ha;by_cases hi:i<C.sz
    ·rw [if_pos hi] at ha;simp only [kg,zzj,zyi hi,Option.map_some,Option.some.injEq,Nat.zero_add] at hv;subst hv;exact h2 i a ha
    ·rw [if_neg hi] at ha;cases ha
   have q:=C.ok (b0:=b0) aB hl (fun e=>by cases e) fF hd;refine fin b off _ (nQ _ q) q (fun j u hu=>?_);have hj:j<C.sz:=by have:=(zg.1 hu).1;simpa [kg] using this
   simp only [kg,zzj,zyi hj,Option.map_some,Option.some.injEq,Nat.zero_add] at hu;subst hu;have:=h1 j _ (zh zO);exact ⟨hl.K _ _ this.1,this.2⟩
 |ptr o off b base hi=>
  rw [T9,Option.bind_eq_some_iff] at hd;obtain ⟨y,hy,hd⟩:=hd;obtain ⟨b',base',hi',iY,hrow⟩:=aB.obj o y hy;rw [hi] at hi';cases hi';cases y with
  |map es=>cases hd
  |loop=>cases hd
  |row cells k st et=>
   rw [T3] at hd;cases hle:Nat.ble (off+C.sz) cells.length with
   |false=>rw [hle] at hd;cases hd
   |true=>
    rw [hle,cond_true] at hd;have qQ:=zB hle;obtain ⟨cs,fz,r1,r2,r3,_⟩:=hrow;have hpart:bt g w ((cells.drop off).take C.sz) (kg (base+off) C.sz (fun j=>cs.getD j undef)):=by
     refine ⟨by simp [kg];omega,fun i a v ha hv=>?_⟩;rw [zye,zz6] at ha;by_cases bO:i<C.sz
     ·rw [if_pos bO] at ha;obtain ⟨u,hu,hrel⟩:=r3 _ a ha;simp only [kg,zzj,zyi bO,Option.map_some,Option.some.injEq] at hv;subst hv;rw [zze,zyk,hu];exact hrel
     ·rw [if_neg bO] at ha;cases ha
    have q:=C.ok (b0:=b0) aB hl (fun e=>by cases e) hpart hd;refine fin b (base+off) _ (nQ _ q) q (fun j u hv=>?_);have hj:j<C.sz:=by have:=(zg.1 hv).1;simpa [kg] using this
    simp only [kg,zzj,zyi hj,Option.map_some,Option.some.injEq] at hv;obtain ⟨u,hu,_⟩:=r3 (off+j) (cells[off+j]'zO) (by simp);have cO:=hl.rows o cells k st et hy b base hi (off+j) (.inr zO);rw [<- zyk] at cO hu;refine ⟨cO,?_⟩;rw [jr r1,hu,<- hv,zze,hu];rfl
 |_=>cases hd
def aP {α β:Type} (C:di α) (R:AC β):AC (α × β) where
 E p:=.fe (C.cells false p.1)::R.E p.2
 D h l:=match l with
  | []=>none
  |a::r=>match Yi C h a,R.D h r with
   |some x,some y=>some (x,y)
   |_,_=>none
 rt h p:=by
  have:Yi C h (.fe (C.cells false p.1))=some p.1:=by rw [Hl,C.len,Nat.ble_self_eq_true,cond_true,zzp (by rw [C.len];exact zza _)];exact C.rt false h false p.1 (fun e=>by cases e)
  simp only [this,R.rt]
 ok:=by
  intro g h w K b0 l vs x aB hl hr hd
  match l,hd with
  |a::r,hd=>
   simp only at hd
   split at hd
   ·rename_i x1 y1 hx hy;simp at hd;subst hd
    match vs,hr with
    | [],hr=>have:=hr.1;simp at this
    |v::vs,hr=>exact bt.cons (aB4 C aB hl hr.head hx) (R.ok aB hl hr.tail hy)
   ·cases hd
theorem aDs {α β:Type} (C:di α) (R:AC β) (h:Tr bo) (a:AV) (r:List AV):(aP C R).get h (a::r)=match Yi C h a,R.get h r with|some x,some y=>some (x,y)|_,_=>none:=id rfl
theorem Ml (f) (l:List cj) (d:cj):cellsOf bc f (l++[d])=cellsOf bc f l++[.vl f 1 (d.names.map (ak.val f)),.vl f 1 (d.nums.map (cw.val false)),.vl f 1 (d.texts.map (ah.val false)),.vl f 1 (d.raw.map (bq.val false))]:=by rw [Iz,Tb];rfl
structure az where
 owner:Name
 type:UInt16
 cls:UInt16
 jb:UInt32
 data:List cj
def mkS (owner:Name) (type:UInt16) (cls:UInt16) (jb:UInt32) (data:List cj):az:=⟨owner,type,cls,jb,data⟩
theorem amo (x:az):mkS x.owner x.type x.cls x.jb x.data=x:=id rfl
def ai:di az:=yj (kn ak (kn cf (kn cf (kn cw (br bc))))) (fun x=>(x.owner,x.type,x.cls,x.jb,x.data)) (fun p=>⟨p.1,p.2.1,p.2.2.1,p.2.2.2.1,p.2.2.2.2⟩) (fun _=>rfl) (fun _=>rfl)
theorem jj (l:Bool) (x:az):ai.val l x = .agg [.vl l 1 (x.owner.map (ah.val l)),.sc (.int .u16 x.type.toNat),.sc (.int .u16 x.cls.toNat),.sc (.int .u32 x.jb.toNat),.vl l 4 (x.data.map (bc.val l))]:=id rfl
theorem adj (l:Bool) (x:az):ai.cells l x=[.vl l 1 (x.owner.map (ah.val l)),.sc (.int .u16 x.type.toNat),.sc (.int .u16 x.cls.toNat),.sc (.int .u32 x.jb.toNat),.vl l 4 (x.data.map (bc.val l))]:=id rfl
theorem aa7:ai.sz=5:=id rfl
theorem Wh (fr:Bool) (h:Tr bo) (y0 y1 y2 y3 y4:AV):ai.fq fr h (.agg [y0,y1,y2,y3,y4])=match gy ah fr h y0,cf.dec fr h [y1],cf.dec fr h [y2],cw.dec fr h [y3],gy bc fr h y4 with
 |some v0,some v1,some v2,some v3,some v4=>some (mkS v0 v1 v2 v3 v4)
 |_,_,_,_,_=>none:=by
 rw [xa _ _ _ _ rfl rfl];have h1:ai.dec fr h (AV.agg [y0,y1,y2,y3,y4]).cells=Option.map (fun p=>(⟨p.1,p.2.1,p.2.2.1,p.2.2.2.1,p.2.2.2.2⟩:az)) ((kn ak (kn cf (kn cf (kn cw (br bc))))).dec fr h [y0,y1,y2,y3,y4]):=rfl;rw [h1];simp only [adx,Aj,sy,E1,xg,B9,xj,List.take_succ_cons,List.take_zero,List.drop_succ_cons,List.drop_zero,Vd,Wr];cases (gy ah fr h y0)<;>cases (cf.dec fr h [y1])<;>cases (cf.dec fr h [y2])<;>cases (cw.dec fr h [y3])<;>cases (gy bc fr h y4)<;>rfl
theorem ov (l) (xs:List az) (x:az):cellsOf ai l (xs++[x])=cellsOf ai l xs++[.vl l 1 (x.owner.map (ah.val false)),.sc (.int .u16 x.type.toNat),.sc (.int .u16 x.cls.toNat),.sc (.int .u32 x.jb.toNat),.vl l 4 (x.data.map (bc.val l))]:=by rw [Iz,Tb];rfl
structure au where
 origin:Name
 aj:List az
def mkZ (origin:Name) (aj:List az):au:=⟨origin,aj⟩
theorem alx (x:au):mkZ x.origin x.aj=x:=id rfl
def be:di au:=yj (kn ak (br ai)) (fun x=>(x.origin,x.aj)) (fun p=>⟨p.1,p.2⟩) (fun _=>rfl) (fun _=>rfl)
theorem dr (l:Bool) (x:au):be.val l x = .agg [.vl l 1 (x.origin.map (ah.val l)),.vl l 5 (x.aj.map (ai.val l))]:=id rfl
theorem C8 (l:Bool) (x:au):be.cells l x=[.vl l 1 (x.origin.map (ah.val l)),.vl l 5 (x.aj.map (ai.val l))]:=id rfl
theorem Lh:be.sz=2:=id rfl
theorem Is (fr:Bool) (h:Tr bo) (y0 y1:AV):be.fq fr h (.agg [y0,y1])=match gy ah fr h y0,gy ai fr h y1 with
 |some v0,some v1=>some (mkZ v0 v1)
 |_,_=>none:=by
 rw [xa _ _ _ _ rfl rfl];have h1:be.dec fr h (AV.agg [y0,y1]).cells=Option.map (fun p=>(⟨p.1,p.2⟩:au)) ((kn ak (br ai)).dec fr h [y0,y1]):=rfl;rw [h1];simp only [adx,Aj,sy,E1,xg,B9,xj,List.take_succ_cons,List.take_zero,List.drop_succ_cons,List.drop_zero,Vd,Wr];cases (gy ah fr h y0)<;>cases (gy ai fr h y1)<;>rfl
theorem N1 (fr:Bool) (h:Tr bo) (y0 y1:AV):be.dec fr h [y0,y1]=match gy ah fr h y0,gy ai fr h y1 with
 |some v0,some v1=>some (mkZ v0 v1)
 |_,_=>none:=(Yy be fr h _ rfl).trans (Is fr h y0 y1)
structure azu where
 addr:UInt32
 aol:List Int
structure ahb where
 aol:List au
 aE6:List azu
 hints:List UInt32
structure D5 where
 kind:Int
 node:Name
 Ai:Name
def Bu (kind:Int) (node:Name) (Ai:Name):D5:=⟨kind,node,Ai⟩
def m8:di D5:=yj (kn (ba .u8) (kn ak ak)) (fun x=>(x.kind,x.node,x.Ai)) (fun p=>⟨p.1,p.2.1,p.2.2⟩) (fun _=>rfl) (fun _=>rfl)
theorem Dy (l:Bool) (x:D5):m8.val l x = .agg [.sc (.int .u8 x.kind),.vl l 1 (x.node.map (ah.val l)),.vl l 1 (x.Ai.map (ah.val l))]:=id rfl
theorem Rg (fr:Bool) (h:Tr bo) (y0 y1 y2:AV):m8.fq fr h (.agg [y0,y1,y2])=match (ba .u8).dec fr h [y0],gy ah fr h y1,gy ah fr h y2 with
 |some v0,some v1,some v2=>some (Bu v0 v1 v2)
 |_,_,_=>none:=by
 rw [xa _ _ _ _ rfl rfl];have h1:m8.dec fr h (AV.agg [y0,y1,y2]).cells=Option.map (fun p=>(⟨p.1,p.2.1,p.2.2⟩:D5)) ((kn (ba .u8) (kn ak ak)).dec fr h [y0,y1,y2]):=rfl;rw [h1];simp only [adx,Aj,sy,E1,xg,B9,xj,List.take_succ_cons,List.take_zero,List.drop_succ_cons,List.drop_zero,Vd,Wr];cases ((ba .u8).dec fr h [y0])<;>cases (gy ah fr h y1)<;>cases (gy ah fr h y2)<;>rfl
structure th where
 turn:Int
 aj:List az
 to:Name
def sd (turn:Int) (aj:List az) (to:Name):th:=⟨turn,aj,to⟩
theorem amc (x:th):sd x.turn x.aj x.to=x:=id rfl
theorem ael (turn aj to):(sd turn aj to).aj=aj:=id rfl
theorem at6 (turn aj to):(sd turn aj to).to=to:=id rfl
def pr:di th:=yj (kn (ba .u8) (kn (br ai) ak)) (fun x=>(x.turn,x.aj,x.to)) (fun p=>⟨p.1,p.2.1,p.2.2⟩) (fun _=>rfl) (fun _=>rfl)
theorem Ss (l:Bool) (x:th):pr.val l x = .agg [.sc (.int .u8 x.turn),.vl l 5 (x.aj.map (ai.val l)),.vl l 1 (x.to.map (ah.val l))]:=id rfl
theorem Rs (fr:Bool) (h:Tr bo) (y0 y1 y2:AV):pr.fq fr h (.agg [y0,y1,y2])=match (ba .u8).dec fr h [y0],gy ai fr h y1,gy ah fr h y2 with
 |some v0,some v1,some v2=>some (sd v0 v1 v2)
 |_,_,_=>none:=by
 rw [xa _ _ _ _ rfl rfl];have h1:pr.dec fr h (AV.agg [y0,y1,y2]).cells=Option.map (fun p=>(⟨p.1,p.2.1,p.2.2⟩:th)) ((kn (ba .u8) (kn (br ai) ak)).dec fr h [y0,y1,y2]):=rfl;rw [h1];simp only [adx,Aj,sy,E1,xg,B9,xj,List.take_succ_cons,List.take_zero,List.drop_succ_cons,List.drop_zero,Vd,Wr];cases ((ba .u8).dec fr h [y0])<;>cases (gy ai fr h y1)<;>cases (gy ah fr h y2)<;>rfl
structure uw where
 z:au
 e:Int
def mkL (z:au) (e:Int):uw:=⟨z,e⟩
theorem az7 (z e):(mkL z e).z=z:=id rfl
def m6:di uw:=yj (kn be (ba .i64)) (fun x=>(x.z,x.e)) (fun p=>⟨p.1,p.2⟩) (fun _=>rfl) (fun _=>rfl)
theorem Cw (l:Bool) (x:uw):m6.cells l x=[.vl l 1 (x.z.origin.map (ah.val l)),.vl l 5 (x.z.aj.map (ai.val l)),.sc (.int .i64 x.e)]:=id rfl
theorem Xl:m6.sz=3:=id rfl
theorem ajw (fr:Bool) (h:Tr bo) (fZ fY y1:AV):m6.fq fr h (.agg [fZ,fY,y1])=match be.fq fr h (.agg [fZ,fY]),(ba .i64).dec fr h [y1] with
 |some v0,some v1=>some (mkL v0 v1)
 |_,_=>none:=by
 rw [xa _ _ _ _ rfl rfl];have h1:m6.dec fr h (AV.agg [fZ,fY,y1]).cells=Option.map (fun p=>(⟨p.1,p.2⟩:uw)) ((kn be (ba .i64)).dec fr h [fZ,fY,y1]):=rfl;rw [h1];simp only [adx,Aj,sy,E1,xg,B9,xj,List.take_succ_cons,List.take_zero,List.drop_succ_cons,List.drop_zero,Vd,Wr,Lh,Yy be fr h _ rfl];cases (be.fq fr h (.agg [fZ,fY]))<;>cases ((ba .i64).dec fr h [y1])<;>rfl
theorem Pj (fr:Bool) (h:Tr bo) (fZ fY y1:AV):m6.dec fr h [fZ,fY,y1]=match be.fq fr h (.agg [fZ,fY]),(ba .i64).dec fr h [y1] with
 |some v0,some v1=>some (mkL v0 v1)
 |_,_=>none:=(Yy m6 fr h _ rfl).trans (ajw fr h fZ fY y1)
structure Og where
 uM:Int
 aa:Bool
 answer:List az
 authority:List az
 K7:List az
def mkY (uM:Int) (aa:Bool) (answer:List az) (authority:List az) (K7:List az):Og:=⟨uM,aa,answer,authority,K7⟩
theorem ae:type_of% @L7/\type_of% @Mr/\type_of% @amg/\type_of% @al0/\type_of% @md5/\type_of% @dv4/\type_of% @dv5/\type_of% @ad8/\type_of% @aev/\type_of% @anh/\type_of% @T9/\type_of% @Hl/\type_of% @T3/\type_of% @aDs/\type_of% @Pc/\type_of% @Mv/\type_of% @Sl/\type_of% @yi/\type_of% @oz/\type_of% @amo/\type_of% @jj/\type_of% @aa7/\type_of% @Wh/\type_of% @alx/\type_of% @N1/\type_of% @dr/\type_of% @Lh/\type_of% @Is/\type_of% @Dy/\type_of% @Rg/\type_of% @amc/\type_of% @ael/\type_of% @at6/\type_of% @Ss/\type_of% @Rs/\type_of% @az7/\type_of% @Pj/\type_of% @Xl:=
 ⟨@L7,@Mr,@amg,@al0,@md5,@dv4,@dv5,@ad8,@aev,@anh,@T9,@Hl,@T3,@aDs,@Pc,@Mv,@Sl,@yi,@oz,@amo,@jj,@aa7,@Wh,@alx,@N1,@dr,@Lh,@Is,@Dy,@Rg,@amc,@ael,@at6,@Ss,@Rs,@az7,@Pj,@Xl⟩
abbrev zn (x:Name):AV:=.vl false 1 (x.map (ah.val false))
theorem zne (x:Name):zn x=.vl false 1 (x.map (ah.val false)):=rfl
abbrev zs (x:List az):AV:=.vl false 5 (x.map (ai.val false))
theorem zse (x:List az):zs x=.vl false 5 (x.map (ai.val false)):=rfl
abbrev zd (x:List cj):AV:=.vl false 4 (x.map (bc.val false))
theorem zde (x:List cj):zd x=.vl false 4 (x.map (bc.val false)):=rfl
abbrev zu (x:List UInt32):AV:=.vl false 1 (x.map (cw.val false))
theorem zue (x:List UInt32):zu x=.vl false 1 (x.map (cw.val false)):=rfl
abbrev zv (x:List Name):AV:=.vl false 1 (x.map (ak.val false))
theorem zve (x:List Name):zv x=.vl false 1 (x.map (ak.val false)):=rfl
abbrev zw (x:List UInt8):AV:=.vl false 1 (x.map (bq.val false))
theorem zwe (x:List UInt8):zw x=.vl false 1 (x.map (bq.val false)):=rfl
abbrev zi (x:Int):AV:=.sc (.int .i64 x)
theorem zie (x:Int):zi x=.sc (.int .i64 x):=rfl
theorem zT:type_of% RA/\type_of% TF/\type_of% ae/\type_of% @zne/\type_of% @zse/\type_of% @zde/\type_of% @zue/\type_of% @zve/\type_of% @zwe/\type_of% @zie:=⟨RA,TF,ae,@zne,@zse,@zde,@zue,@zve,@zwe,@zie⟩
theorem zS {p:Prop} (h:p:=by simp only [↓wR,zV,simprocAttr,ae]<;>rfl):p:=h
theorem zX {p:Prop} (h:p:=by simp only [↓wR,zV,simprocAttr,ae];(refine jh.lax [] (by first|exact zB rfl|(simp [c9];omega)) ?_ ?_<;>repeat' first|exact en.nil|exact cp.nil|exact fc.same _|exact fc.nil _ _ _|exact fc.mq _ _|exact cp.refl _ _|apply en.cons|apply cp.ghost|apply cp.same|apply cp.row)):p:=h
abbrev zE:Type:=Nat × Bool × (List AV->M AV)
abbrev zY (s:az):=some (bo.row [zn s.owner,.sc (.int .u16 s.type.toNat),.sc (.int .u16 s.cls.toNat),.sc (.int .u32 s.jb.toNat),zd s.data] 0 2 31)
abbrev zZ (z:au):=some (bo.row [zn z.origin,zs z.aj] 0 2 41)
end
end Go.Vm
end
section
namespace Go.Proofs.YtgencolcibpcaaaGreat
open Go.Vm
noncomputable def Dl (t:UInt16) (l:List cj) (d:cj):Bool:=l.any fun x=>yy t x d
theorem aEo (t:UInt16) (l:List cj) (d:cj) (hl:∀ x ∈ l,c7 x) (hn:l.length<=16777216) (hd:c7 d):wl PP [] 0 (Tryz.f112.body.getD .skip) (c8 PP Tryz.f112.results.toList (fun r st=>(r1 bk).get true st.h r=some (Dl t l d))) (cg 0 [cf.val false t,(br bc).val false l,bc.val false d]) (bh []):=by
 unfold Tryz.f112;simp only [j5,gq];simp only [↓wR,zT,simprocAttr];refine cx (T:=[]) (ar.nil PP) mixed Tryz.func153 rfl zK zK zK zK ?_;unfold Tryz.f153;simp only [↓wR,zT,simprocAttr];refine cx (T:=[]) (ar.nil PP) mixed Tryz.func180 rfl zK zK zK zK ?_;unfold Tryz.f180;simp only [↓wR,zT,simprocAttr];refine dq [0,1,7,8] (fun (i:Nat)=>[zd l,.fn (.func 154) [] [.ptr 0 0,.ptr 1 0],zi l.length,zi i]) (fun _=>[some (.row [.sc (.int .u16 t.toNat)] 0 2 26),some (.row [zv d.names,zu d.nums,.vl false 1 (d.texts.map (ah.val false)),zw d.raw] 0 2 101)]) (fun i=>i<=l.length/\Dl t l d=Dl t (l.drop i) d) (fun i=>l.length - i) 0 ⟨zzb _,rfl⟩ zS zS ?_;rintro i ⟨hi,hx⟩;simp only [↓wR,zT,simprocAttr];rw [bg];refine ⟨fun h=>?_,fun h=>?_⟩
 ·obtain ⟨c,hc,aF,hlt⟩:=du (zp h);have hx':Dl t l d=(yy t c d || Dl t (l.drop (i+1)) d):=by rw [hx,aF];rfl
  repeat (first|simp only [↓wR,zT,simprocAttr,h,hc]|simp (disch:=omega) only [zW])
  refine cx (T:=[axc]) (ar.cons (aq acw) (ar.nil PP)) mixed Tryz.func154 rfl zK zK zK zK ?_;unfold Tryz.f154;simp only [↓wR,zT,simprocAttr,Eu,hl c (zm hc),hd];rw [cq];refine ⟨fun h1=>?_,fun h1=>?_⟩
  ·rw [h1,Bool.true_or] at hx';simp only [↓wR,zT,simprocAttr,h1];rw [hx']
   done
  ·rw [h1,Bool.false_or] at hx'
   repeat (first|simp only [↓wR,zT,simprocAttr,h1]|simp (disch:=omega) only [zW])
   exact ⟨i+1,⟨hlt,hx'⟩,zO,zF⟩
 ·rw [eg (zq h)] at hx;simp only [↓wR,zT,simprocAttr,h];rw [hx];rfl
def np (l:List cj):Prop:=gh An l<=16777216
instance (l:List cj):Decidable (np l):=inferInstanceAs (Decidable (_<=_))
theorem np.mem {l:List cj} (h:np l):∀ x ∈ l,c7 x:=fun x hx=>by have h1:An x<gh An l:=Co hx;unfold np at h;unfold c7;omega
theorem np.len {l:List cj} (h:np l):l.length<=16777216:=zzu (Dq An l) h
theorem T8 {α:Type} (f : α->Nat) (l:List α) (i:Nat):gh f (l.take i)<=gh f l:=by
 induction l generalizing i with
 |nil=>simp
 |cons a l ih=>
  cases i with
  |zero=>exact zzb _
  |succ i=>have:=ih i;simp only [gh,List.take_succ_cons,List.foldr_cons] at this ⊢;omega
theorem np.take {l:List cj} (h:np l) (i:Nat):np (l.take i):=zzu (T8 An l i) h
noncomputable def Vt (x:UInt16 × List cj × cj × Unit):Option AV:=if np x.2.1/\c7 x.2.2.1 then some ((r1 bk).E true (Dl x.1 x.2.1 x.2.2.1)) else none
theorem avh (x:UInt16 × List cj × cj × Unit) (r:AV) (h:Vt x=some r):bf PP 112 ((aC cf (aC (br bc) (aC bc a0))).E x) r:=by obtain ⟨hc,rfl⟩:=zI h;exact aw (ar.nil PP) Tryz.func112 zK zK zK zL (r1 bk) true (Dl x.1 x.2.1 x.2.2.1) (aEo x.1 x.2.1 x.2.2.1 hc.1.mem hc.1.len hc.2)
noncomputable abbrev aGs:zE:=(112,true,ct (aC cf (aC (br bc) (aC bc a0))) Vt)
def nl (s:az):Nat:=bp s.owner+gh An s.data
def dh (s:az):Prop:=nl s<=16777216
instance (s:az):Decidable (dh s):=inferInstanceAs (Decidable (_<=_))
theorem dh.owner {s:az} (h:dh s):ay s.owner:=by unfold dh nl at h;unfold ay;omega
theorem dh.data {s:az} (h:dh s):np s.data:=by unfold dh nl at h;unfold np;omega
noncomputable def py (t:UInt16):List cj->List cj->Int
 |_,[]=>0
 |pre,d::r=>if dx t d≠0 then dx t d else if Dl t pre d=true then 10 else py t (pre++[d]) r
noncomputable def k6 (s:az):Int:=
 if dk s.owner≠0 then dk s.owner else if s.data.length=0 then 9 else if 512<s.data.length then 3 else py s.type [] s.data
theorem Rf (t:UInt16) {l:List cj} {i:Nat} {c:cj} (hc:l[i]? = some c):py t (l.take i) (l.drop i)=if dx t c≠0 then dx t c else if Dl t (l.take i) c=true then 10 else py t (l.take (i+1)) (l.drop (i+1)):=by obtain ⟨hi,rfl⟩:=zg.1 hc;rw [zzs hi,py,zz5 hi]
theorem aj4 (s:az) (hs:dh s):wl PP [fk,Nz,aGs] 0 (Tryz.f119.body.getD .skip) (c8 PP Tryz.f119.results.toList (fun r st=>(r1 (ba .i64)).get true st.h r=some (k6 s))) (cg 0 [ai.val false s]) (bh []):=by
 have ho:=hs.owner;have hd:=hs.data;have hn:=hd.len;unfold Tryz.f119;simp only [jj];simp only [↓wR,zT,simprocAttr,qh,ho.fit];unfold k6;rw [cq];refine ⟨fun h=>?_,fun h=>?_⟩
 ·have he:dk s.owner≠0:=by simpa using h
  rw [if_pos he];simp only [↓wR,zT,simprocAttr,h]
 have he:dk s.owner=0:=by simpa using h
 rw [if_neg zO];simp only [↓wR,zT,simprocAttr,h];rw [bz];refine ⟨fun ⟨h1,e1⟩=>?_,fun ⟨h1,e1⟩=>?_⟩
 ·rw [if_pos zO];simp only [↓wR,zT,simprocAttr,h1]
 rw [if_neg zO];simp only [↓wR,zT,simprocAttr,h1];rw [bg];refine ⟨fun h2=>?_,fun h2=>?_⟩
 ·rw [if_pos zO];simp only [↓wR,zT,simprocAttr,h2]
 rw [if_neg zO];simp only [↓wR,zT,simprocAttr,h2];refine dq [1,24,25,26] (fun (i:Nat)=>[.ptr 0 0,zd s.data,zi s.data.length,zi i]) (fun _=>[some (.row [.vl false 1 (s.owner.map (ah.val false)),.sc (.int .u16 s.type.toNat),.sc (.int .u16 s.cls.toNat),.sc (.int .u32 s.jb.toNat),zd s.data] 0 2 31)]) (fun i=>i<=s.data.length/\py s.type [] s.data=py s.type (s.data.take i) (s.data.drop i)) (fun i=>s.data.length - i) 0 ⟨zzb _,rfl⟩ zS zS ?_;rintro i ⟨hi,hx⟩;simp only [↓wR,zT,simprocAttr];rw [bg];refine ⟨fun h3=>?_,fun h3=>?_⟩
 ·obtain ⟨c,hc,aF,hlt⟩:=du (zp h3);rw [Rf _ hc] at hx;have hcs:=hd.mem c (zm hc);simp only [↓wR,zT,simprocAttr,h3,hc,so,hcs];rw [cq];refine ⟨fun h4=>?_,fun h4=>?_⟩
  ·have mY:dx s.type c≠0:=by simpa using h4
   rw [if_pos mY] at hx;simp only [↓wR,zT,simprocAttr,h4];rw [hx]
  ·have mY:dx s.type c=0:=by simpa using h4
   rw [if_neg zO] at hx;simp only [↓wR,zT,simprocAttr,h4];refine ⟨zK,.inl ?_⟩;simp only [↓wR,zT,simprocAttr,hi,Vt,hd.take i,hcs];refine ⟨zK,?_⟩;rw [cq];refine ⟨fun h5=>?_,fun h5=>?_⟩
   ·rw [if_pos h5] at hx;simp only [↓wR,zT,simprocAttr,h5];rw [hx]
   ·rw [if_neg (by rw [h5];decide)] at hx
    repeat (first|simp only [↓wR,zT,simprocAttr,h5]|simp (disch:=omega) only [zW])
    exact ⟨i+1,⟨hlt,hx⟩,zO,zF⟩
 ·rw [eg (zq h3)] at hx;simp only [↓wR,zT,simprocAttr,h3];rw [hx];rfl
noncomputable def A0 (x:az × Unit):Option AV:=if dh x.1 then some ((r1 (ba .i64)).E true (k6 x.1)) else none
theorem Ms (x:az × Unit) (r:AV) (h:A0 x=some r):bf PP 119 ((aC ai a0).E x) r:=by obtain ⟨hc,rfl⟩:=zI h;exact aw (ar.cons (aq qy) (ar.cons (aq Dg) (ar.cons (aq avh) (ar.nil PP)))) Tryz.func119 zK zK zK zL (r1 (ba .i64)) true (k6 x.1) (aj4 x.1 hc)
noncomputable abbrev gx:zE:=(119,true,ct (aC ai a0) A0)
theorem ahg {S:Nat->Prop} {M b0:Nat} {K:Nat->Nat->Prop} {w:World} {l:List ByteArray} {v:Value} (hS:∀ b,b0<=b->(∀ j,K b j)->S b) (hM:∀ s ∈ l,s.size<=M) (hr:Rel (gK b0 K) w (.vl true 1 (l.map (ah.val true))) v):mo S M w .str v:=by
 refine Zf (l:=true) ah rfl rfl rfl (by decide) (fun x hx c hc s e=>?_) (fun x hx c hc=>?_) hS hr
 ·have hc':c ∈ [AV.sc (.string x)]:=hc;rw [zz0] at hc';rw [hc'] at e;cases e;exact hM _ hx
 ·have hc':c ∈ [AV.sc (.string x)]:=hc;rw [zz0] at hc';exact ⟨_,hc'⟩
theorem axi {S:Nat->Prop} {M b0:Nat} {K:Nat->Nat->Prop} {w:World} {l:List UInt32} {v:Value} (hS:∀ b,b0<=b->(∀ j,K b j)->S b) (hr:Rel (gK b0 K) w (.vl true 1 (l.map (cw.val true))) v):mo S M w (.int .u32) v:=by
 refine Zf (l:=true) cw rfl rfl rfl (by decide) (fun x hx c hc s e=>?_) (fun x hx c hc=>?_) hS hr
 ·have hc':c ∈ [AV.sc (.int .u32 x.toNat)]:=hc;rw [zz0] at hc';rw [hc'] at e;cases e
 ·have hc':c ∈ [AV.sc (.int .u32 x.toNat)]:=hc;rw [zz0] at hc';exact ⟨_,hc'⟩
theorem aA5 {S:Nat->Prop} {M b0:Nat} {K:Nat->Nat->Prop} {w:World} {l:List UInt8} {v:Value} (hS:∀ b,b0<=b->(∀ j,K b j)->S b) (hr:Rel (gK b0 K) w (.vl true 1 (l.map (bq.val true))) v):mo S M w (.int .u8) v:=by
 refine Zf (l:=true) bq rfl rfl rfl (by decide) (fun x hx c hc s e=>?_) (fun x hx c hc=>?_) hS hr
 ·have hc':c ∈ [AV.sc (.int .u8 x.toNat)]:=hc;rw [zz0] at hc';rw [hc'] at e;cases e
 ·have hc':c ∈ [AV.sc (.int .u8 x.toNat)]:=hc;rw [zz0] at hc';exact ⟨_,hc'⟩
theorem size_le (n:Name):∀ s ∈ n,s.size<=bp n:=by intro s hs;obtain ⟨i,hi,rfl⟩:=List.getElem_of_mem hs;have h1:=Fc n i _ (zh hi);have h2:=(ja n (i+1)).1;omega
theorem Pm {S:Nat->Prop} {b0:Nat} {K:Nat->Nat->Prop} {w:World} {n:Name} {v:Value} (hS:∀ b,b0<=b->(∀ j,K b j)->S b) (hn:ay n) (hr:Rel (gK b0 K) w (.vl true 1 (n.map (ah.val true))) v):mo S 16777216 w .str v:=
 ahg hS (fun s hs=>by have:=size_le n s hs;unfold ay at hn;omega) hr
theorem aAx {S:Nat->Prop} {b0:Nat} {K:Nat->Nat->Prop} {w:World} {d:cj} {vs:List Value} (hS:∀ b,b0<=b->(∀ j,K b j)->S b) (hd:c7 d) (hr:bt (gK b0 K) w (bc.cells true d) vs):Qn S 16777216 16777216 w vs:=by
 have h4:vs.length=4:=hr.1
 match vs,h4,hr with
 | [a,b,c,e],_,hr=>
  have ha:Rel (gK b0 K) w (.vl true 1 (d.names.map (ak.val true))) a:=hr.2 0 _ _ rfl rfl;have hb:Rel (gK b0 K) w (.vl true 1 (d.nums.map (cw.val true))) b:=hr.2 1 _ _ rfl rfl;have hc:Rel (gK b0 K) w (.vl true 1 (d.texts.map (ah.val true))) c:=hr.2 2 _ _ rfl rfl;have he:Rel (gK b0 K) w (.vl true 1 (d.raw.map (bq.val true))) e:=hr.2 3 _ _ rfl rfl;refine ⟨a,b,c,e,rfl,X4 (l:=true) ak rfl hd.lens.1 (fun n hn us iH=>?_) hS ha,axi hS hb,ahg hS (fun s hs=>hd.text s hs) hc,aA5 hS he⟩;have h1:us.length=1:=iH.1
  match us,h1,iH with
  | [u],_,iH=>exact ⟨u,rfl,Pm hS (hd.name n hn) iH.head⟩
theorem ar9 {S:Nat->Prop} {b0:Nat} {K:Nat->Nat->Prop} {w:World} {s:az} {vs:List Value} (hS:∀ b,b0<=b->(∀ j,K b j)->S b) (hs:dh s) (hr:bt (gK b0 K) w (ai.cells true s) vs):Ct S 16777216 16777216 16777216 w vs:=by
 have h5:vs.length=5:=hr.1
 match vs,h5,hr with
 | [o,t,c,u,d],_,hr=>
  have ho:Rel (gK b0 K) w (.vl true 1 (s.owner.map (ah.val true))) o:=hr.2 0 _ _ rfl rfl;have ht:Rel (gK b0 K) w (.sc (.int .u16 s.type.toNat)) t:=hr.2 1 _ _ rfl rfl;have hc:Rel (gK b0 K) w (.sc (.int .u16 s.cls.toNat)) c:=hr.2 2 _ _ rfl rfl;have hu:Rel (gK b0 K) w (.sc (.int .u32 s.jb.toNat)) u:=hr.2 3 _ _ rfl rfl;have hd:Rel (gK b0 K) w (.vl true 4 (s.data.map (bc.val true))) d:=hr.2 4 _ _ rfl rfl;refine ⟨o,t,c,u,d,rfl,Pm hS hs.owner ho,by rw [ht.exact rfl];rfl,by rw [hc.exact rfl];rfl,by rw [hu.exact rfl];rfl,X4 (l:=true) bc rfl (hs.data.len) (fun x hx us iH=>aAx hS (hs.data.mem x hx) iH) hS hd⟩
theorem al1 {S:Nat->Prop} {N b0:Nat} {K:Nat->Nat->Prop} {w:World} {l:List az} {v:Value} (hS:∀ b,b0<=b->(∀ j,K b j)->S b) (hl:∀ s ∈ l,dh s) (hN:l.length<=N) (hr:Rel (gK b0 K) w (.vl true 5 (l.map (ai.val true))) v):mi S N w 5 (Ct S 16777216 16777216 16777216) v:=
 X4 (l:=true) ai rfl hN (fun s hs us iH=>ar9 hS (hl s hs) iH) hS hr
theorem awh:TK.sz 31=some 5:=zK
theorem apb (s:az) (hs:dh s):wl PP [uq,aw3] 0 (Tryz.f53.body.getD .skip) (c8 PP Tryz.f53.results.toList (fun r st=>(r1 ai).get true st.h r=some s)) (cg 0 [ai.val false s]) (bh []):=by
 have ho:=hs.owner;have hd:=hs.data;have hn:=hd.len;unfold Tryz.f53;simp only [jj];simp only [↓wR,zT,simprocAttr,nv,ho];refine fm [2,13,14,15,3] (fun (x:List cj)=>[.ptr 0 0,zd s.data,zi s.data.length,zi x.length,.ptr 1 0]) (fun x=>[some (.row [.sc (.slice none 0 0),.sc (.int .u16 0),.sc (.int .u16 0),.sc (.int .u32 0),.sc (.slice none 0 0)] 0 2 31),some (.row [ak.val true s.owner,.sc (.int .u16 s.type.toNat),.sc (.int .u16 s.cls.toNat),.sc (.int .u32 s.jb.toNat),.sl 2 0 x.length 4] 0 2 31),some (.row (cellsOf bc true x) 0 0 101)]) (fun x=>x.length<=s.data.length/\x++s.data.drop x.length=s.data) (fun x=>s.data.length - x.length) [] ⟨zzb _,rfl⟩ zX ?_;rintro x ⟨hi,hx⟩;simp only [↓wR,zT,simprocAttr];rw [bg];refine ⟨fun h=>?_,fun h=>?_⟩
 ·obtain ⟨c,hc,aF,hlt⟩:=du (zp h);rw [aF] at hx;have hcs:=hd.mem c (zm hc);simp only [↓wR,zT,simprocAttr,h,hc];refine ⟨zK,.inl ?_⟩;have aD:(x.length * 4+4) * 96<=140737488355328:=zO;simp only [↓wR,zT,simprocAttr,Eb,hcs,aD];refine ⟨zK,x++[c],⟨by simp;omega,by simpa using hx⟩,by simp;omega,zF,?_⟩;rw [Ml,za];rfl
 ·rw [eg (zq h)] at hx;rw [zzn] at hx;subst hx;simp only [↓wR,zT,simprocAttr,h]
noncomputable def qb (x:az × Unit):Option AV:=if dh x.1 then some ((r1 ai).E true (x.1)) else none
theorem ug (x:az × Unit) (r:AV) (h:qb x=some r):bf PP 53 ((aC ai a0).E x) r:=by obtain ⟨hc,rfl⟩:=zI h;exact aw (ar.cons (aq pz) (ar.cons (aq ac5) (ar.nil PP))) Tryz.func53 zK zK zK zL (r1 ai) true (x.1) (apb x.1 hc)
noncomputable abbrev vr:zE:=(53,true,ct (aC ai a0) qb)
def O6 (z:au):Nat:=bp z.origin+gh nl z.aj
def bj (z:au):Prop:=O6 z<=16777216
instance (z:au):Decidable (bj z):=inferInstanceAs (Decidable (_<=_))
theorem bj.origin {z:au} (h:bj z):ay z.origin:=by unfold bj O6 at h;unfold ay;omega
theorem bj.set {z:au} (h:bj z):∀ s ∈ z.aj,dh s:=fun s hs=>by have h1:nl s<gh nl z.aj:=Co hs;unfold bj O6 at h;unfold dh;omega
theorem bj.len {z:au} (h:bj z):z.aj.length<=16777216:=by have:=Dq nl z.aj;unfold bj O6 at h;omega
def Cz (n top:Name):Bool:=decide (top.length<n.length) && dp n top
theorem ayl (n top:Name) (hn:ay n) (ht:ay top):wl PP [Au] 0 (Tryz.f71.body.getD .skip) (c8 PP Tryz.f71.results.toList (fun r st=>(r1 bk).get true st.h r=some (Cz n top))) (cg 0 [ak.val false n,ak.val false top]) (bh []):=by
 unfold Tryz.f71;simp only [bw];simp only [↓wR,zT,simprocAttr];unfold Cz;rw [bg];refine ⟨fun h=>?_,fun h=>?_⟩
 ·rw [zp (show top.length<n.length by omega)];simp only [↓wR,zT,simprocAttr,h,ot,hn,ht]
 ·rw [zq (show ¬ top.length<n.length by omega)];simp only [↓wR,zT,simprocAttr,h];rfl
noncomputable def I7 (x:Name × Name × Unit):Option AV:=if ay x.1/\ay x.2.1 then some ((r1 bk).E true (Cz x.1 x.2.1)) else none
theorem ald (x:Name × Name × Unit) (r:AV) (h:I7 x=some r):bf PP 71 ((aC ak (aC ak a0)).E x) r:=by obtain ⟨hc,rfl⟩:=zI h;exact aw (ar.cons (aq qw) (ar.nil PP)) Tryz.func71 zK zK zK zL (r1 bk) true (Cz x.1 x.2.1) (ayl x.1 x.2.1 hc.1 hc.2)
noncomputable abbrev aDy:zE:=(71,true,ct (aC ak (aC ak a0)) I7)
def ew (z:au) (n:Name):List az:=z.aj.filter fun s=>dm s.owner n
theorem N9 {l:List az} {p:az->Bool} {i:Nat} {c:az} (h:l.drop i=c::l.drop (i+1)):(l.drop i).filter p=(if p c=true then [c] else [])++(l.drop (i+1)).filter p:=by rw [h,List.filter_cons];split<;>rfl
theorem mj {l:List az} (p:az->Bool):(l.filter p).length<=l.length:=List.length_filter_le _ _
theorem aFn (z:au) (n:Name) (hz:bj z) (hn:ay n):wl PP [ee,vr] 0 (Tryz.f24.body.getD .skip) (c8 PP Tryz.f24.results.toList (fun r st=>(r1 (br ai)).get true st.h r=some (ew z n))) (cg 0 [be.val false z,ak.val false n]) (bh []):=by
 have hl:=hz.len;unfold Tryz.f24;simp only [dr,bw];simp only [↓wR,zT,simprocAttr];refine fm [1,9,10,11,5] (fun (x:Nat × List az)=>[zn n,zs z.aj,zi z.aj.length,zi x.1,.sl 0 0 x.2.length 5]) (fun x=>[some (.row (cellsOf ai true x.2) 0 0 31)]) (fun x=>x.1<=z.aj.length/\x.2++(z.aj.drop x.1).filter (fun s=>dm s.owner n)=ew z n) (fun x=>z.aj.length - x.1) (0,[]) ⟨zzb _,rfl⟩ zX ?_;rintro ⟨i,x⟩ ⟨hi,hx⟩;simp only at hi hx;have bP:x.length<=z.aj.length:=by have h1:=mj (l:=z.aj) (fun s=>dm s.owner n);have h2:=congrArg List.length hx;simp only [za,ew] at h2;omega
 simp only [↓wR,zT,simprocAttr];rw [bg];refine ⟨fun h=>?_,fun h=>?_⟩
 ·obtain ⟨c,hc,aF,hlt⟩:=du (zp h);rw [N9 aF] at hx;have hcs:=hz.set c (zm hc);simp only [↓wR,zT,simprocAttr,h,hc,jx,hcs.owner,hn];rw [cq];refine ⟨fun h1=>?_,fun h1=>?_⟩
  ·rw [if_pos h1] at hx;have aD:(x.length * 5+5) * 64<=140737488355328:=zO
   repeat (first|simp only [↓wR,zT,simprocAttr,h1,qb,hcs,aD]|simp (disch:=omega) only [zW])
   refine ⟨(i+1,x++[c]),⟨hlt,by rw [<- hx];simp⟩,by simp;omega,zF,?_⟩;rw [ov]
  ·rw [if_neg (by rw [h1];decide)] at hx
   repeat (first|simp only [↓wR,zT,simprocAttr,h1]|simp (disch:=omega) only [zW])
   exact ⟨(i+1,x),⟨hlt,hx⟩,by simp;omega,zF,zF⟩
 ·rw [eg (zq h)] at hx;rw [List.filter_nil,zzn] at hx;subst hx;simp only [↓wR,zT,simprocAttr,h]
noncomputable def ad7 (x:au × Name × Unit):Option AV:=if bj x.1/\ay x.2.1 then some ((r1 (br ai)).E true (ew x.1 x.2.1)) else none
theorem ay2 (x:au × Name × Unit) (r:AV) (h:ad7 x=some r):bf PP 24 ((aC be (aC ak a0)).E x) r:=by obtain ⟨hc,rfl⟩:=zI h;exact aw (ar.cons (aq j3) (ar.cons (aq ug) (ar.nil PP))) Tryz.func24 zK zK zK zL (r1 (br ai)) true (ew x.1 x.2.1) (aFn x.1 x.2.1 hc.1 hc.2)
noncomputable abbrev zAt:zE:=(24,true,ct (aC be (aC ak a0)) ad7)
def Dj (n:Name) (b:Option Name):Bool:=match b with|none=>true|some m=>decide (n.length<m.length)
def j4 (z:au) (n:Name) (cJ:Option Name) (s:az):Option Name:=
 if (decide ((s.type.toNat:Int)=2) && (Cz s.owner z.origin && (dp n s.owner && Dj s.owner cJ)))=true then some s.owner else cJ
def ka (z:au) (n:Name):Option Name:=z.aj.foldl (j4 z n) none
theorem M7 {z:au} {n:Name} (hz:bj z):∀ (l:List az) (b:Option Name),(∀ s ∈ l,s ∈ z.aj)->(∀ m,b=some m->ay m)->∀ m,l.foldl (j4 z n) b=some m->ay m:=by
 intro l
 induction l with
 |nil=>intro b _ hb m hm;exact hb m hm
 |cons s l ih=>
  intro b hl hb m hm;refine ih (j4 z n b s) (fun x hx=>hl x (by simp [hx])) (fun q hq=>?_) m hm;unfold j4 at hq
  split at hq
  ·cases hq;exact (hz.set s (hl s (by simp))).owner
  ·exact hb q hq
theorem aEg (z:au) (n:Name) (hz:bj z) (hn:ay n):wl PP [Au,aDy,uq] 0 (Tryz.f25.body.getD .skip) (c8 PP Tryz.f25.results.toList (fun r st=>(r2 ak bk).get true st.h r=some ((ka z n).getD [],(ka z n).isSome))) (cg 0 [be.val false z,ak.val false n]) (bh []):=by
 have hl:=hz.len;unfold Tryz.f25;simp only [dr,bw];simp only [↓wR,zT,simprocAttr];refine cx (T:=[]) (ar.nil PP) mixed Tryz.func70 rfl zK zK zK zK ?_;unfold Tryz.f70;simp only [↓wR,zT,simprocAttr];refine ⟨[2,3,6,7,10],?_⟩;have hib:D4 PP 120=some (Tryz.f120.ntmps,Tryz.f120.body.getD .skip):=zK;simp only [↓wR,zT,simprocAttr,hib];refine ⟨zK,fun l=>?_⟩;unfold Tryz.f120;simp only [↓wR,zT,simprocAttr];refine aqc [0,2,7,8,9] (fun (x:Nat × Option Name)=>[.sc (.func (.yield l) #[] #[]),.ptr 5 0,zs z.aj,zi z.aj.length,zi x.1]) (fun x=>[(zZ z),some (.row [zn n] 0 2 24),some (.row [.vl false 1 ((x.2.getD []).map (ah.val false))] 0 2 24),some (.row [.sc (.bool (x.2.isSome))] 0 2 4),(zZ z),some (.row [.sc (.int .u16 2)] 0 2 26)]) (fun x=>x.1<=z.aj.length/\ka z n=(z.aj.drop x.1).foldl (j4 z n) x.2/\∀ m,x.2=some m->ay m) (fun x=>z.aj.length - x.1) (0,none) ⟨zzb _,rfl,fun m hm=>by cases hm⟩ zX ?_;rintro ⟨i,b⟩ ⟨hi,hx,hb⟩;simp only at hi hx hb;simp only [↓wR,zT,simprocAttr];rw [xz];refine ⟨fun h=>?_,fun h=>?_⟩
 ·obtain ⟨c,hc,aF,hlt⟩:=du h;have hcs:=hz.set c (zm hc);have hstep:ka z n=(z.aj.drop (i+1)).foldl (j4 z n) (j4 z n b c):=by rw [hx,aF];rfl
  simp only [↓wR,zT,simprocAttr,h,hc];rw [xz];refine ⟨fun h2=>?_,fun h2=>?_⟩
  ·have e2:(c.type.toNat:Int)=2:=by simpa using h2
   simp only [↓wR,zT,simprocAttr,h2];refine Bj [0,2,7,8,9,17,19] ?_;simp only [↓wR,zT,simprocAttr,B5,oi,I7,hcs.owner,hz.origin];rw [cq];refine ⟨fun h3=>?_,fun h3=>?_⟩
   ·simp only [↓wR,zT,simprocAttr,h3,ot,hcs.owner,hn];rw [cq];refine ⟨fun h4=>?_,fun h4=>?_⟩
    ·cases b with
     |none=>
      have hb2:j4 z n none c=some c.owner:=by simp [j4,e2,h3,h4,Dj]
      rw [hb2] at hstep
      repeat (first|simp only [↓wR,zT,simprocAttr,h4,Option.isSome_none]|simp (disch:=omega) only [zW])
      exact ⟨(i+1,some c.owner),⟨hlt,hstep,fun m hm=>by cases hm;exact hcs.owner⟩,by simp;omega,zF,zF⟩
     |some m=>
      simp only [↓wR,zT,simprocAttr,h4];rw [bg];refine ⟨fun h5=>?_,fun h5=>?_⟩
      ·have hb2:j4 z n (some m) c=some c.owner:=by simp [j4,e2,h3,h4,Dj];omega
       rw [hb2] at hstep
       repeat (first|simp only [↓wR,zT,simprocAttr,h5]|simp (disch:=omega) only [zW])
       exact ⟨(i+1,some c.owner),⟨hlt,hstep,fun m hm=>by cases hm;exact hcs.owner⟩,by simp;omega,zF,zF⟩
      ·have hb2:j4 z n (some m) c=some m:=by simp [j4,e2,h3,h4,Dj];omega
       rw [hb2] at hstep
       repeat (first|simp only [↓wR,zT,simprocAttr,h5]|simp (disch:=omega) only [zW])
       exact ⟨(i+1,some m),⟨hlt,hstep,hb⟩,by simp;omega,zF,zF⟩
    ·have hb2:j4 z n b c=b:=by simp [j4,h4]
     rw [hb2] at hstep
     repeat (first|simp only [↓wR,zT,simprocAttr,h4]|simp (disch:=omega) only [zW])
     exact ⟨(i+1,b),⟨hlt,hstep,hb⟩,by simp;omega,zF,zF⟩
   ·have hb2:j4 z n b c=b:=by simp [j4,h3]
    rw [hb2] at hstep
    repeat (first|simp only [↓wR,zT,simprocAttr,h3]|simp (disch:=omega) only [zW])
    exact ⟨(i+1,b),⟨hlt,hstep,hb⟩,by simp;omega,zF,zF⟩
  ·have e2:¬ (c.type.toNat:Int)=2:=by simpa using h2
   have hb2:j4 z n b c=b:=by simp [j4,e2]
   rw [hb2] at hstep
   repeat (first|simp only [↓wR,zT,simprocAttr,h2]|simp (disch:=omega) only [zW])
   exact ⟨(i+1,b),⟨hlt,hstep,hb⟩,by simp;omega,zF,zF⟩
 ·rw [eg h] at hx;simp only [↓wR,zT,simprocAttr,h];cases b with
  |none=>
   have hc0:ka z n=none:=hx;simp only [↓wR,zT,simprocAttr,Option.isSome_none];rw [hc0];rfl
  |some m=>
   have hc0:ka z n=some m:=hx;simp only [↓wR,zT,simprocAttr,nv,hb m rfl];rw [hc0];rfl
noncomputable def Hr (x:au × Name × Unit):Option AV:=if bj x.1/\ay x.2.1 then some ((r2 ak bk).E true (((ka x.1 x.2.1).getD [],(ka x.1 x.2.1).isSome))) else none
theorem abl (x:au × Name × Unit) (r:AV) (h:Hr x=some r):bf PP 25 ((aC be (aC ak a0)).E x) r:=by obtain ⟨hc,rfl⟩:=zI h;exact aw (ar.cons (aq qw) (ar.cons (aq ald) (ar.cons (aq pz) (ar.nil PP)))) Tryz.func25 zK zK zK zL (r2 ak bk) true (((ka x.1 x.2.1).getD [],(ka x.1 x.2.1).isSome)) (aEg x.1 x.2.1 hc.1 hc.2)
noncomputable abbrev aEn:zE:=(25,true,ct (aC be (aC ak a0)) Hr)
def nc (z:au) (n:Name):Bool:=dp n z.origin && (dm n z.origin || z.aj.any fun s=>dp s.owner n)
theorem aAv (z:au) (n:Name) (hz:bj z) (hn:ay n):wl PP [Au,ee] 0 (Tryz.f31.body.getD .skip) (c8 PP Tryz.f31.results.toList (fun r st=>(r1 bk).get true st.h r=some (nc z n))) (cg 0 [be.val false z,ak.val false n]) (bh []):=by
 have hl:=hz.len;unfold Tryz.f31;simp only [dr,bw];simp only [↓wR,zT,simprocAttr,ot,hn,hz.origin];unfold nc;rw [cq];refine ⟨fun h=>?_,fun h=>?_⟩
 ·have h':dp n z.origin=false:=by simpa using h
  simp only [↓wR,zT,simprocAttr,h,h'];rfl
 have h':dp n z.origin=true:=by simpa using h
 simp only [↓wR,zT,simprocAttr,h,h',jx,hn,hz.origin];rw [cq];refine ⟨fun h2=>?_,fun h2=>?_⟩
 ·simp only [↓wR,zT,simprocAttr,h2]
 simp only [↓wR,zT,simprocAttr,h2];refine cx (T:=[]) (ar.nil PP) mixed Tryz.func90 rfl zK zK zK zK ?_;unfold Tryz.f90;simp only [↓wR,zT,simprocAttr];refine cx (T:=[]) (ar.nil PP) mixed Tryz.func131 rfl zK zK zK zK ?_;unfold Tryz.f131;simp only [↓wR,zT,simprocAttr];refine dq [0,1,7,8] (fun (i:Nat)=>[zs z.aj,.fn (.func 91) [] [.ptr 1 0],zi z.aj.length,zi i]) (fun _=>[(zZ z),some (.row [zn n] 0 2 24)]) (fun i=>i<=z.aj.length/\(z.aj.any fun s=>dp s.owner n)=((z.aj.drop i).any fun s=>dp s.owner n)) (fun i=>z.aj.length - i) 0 ⟨zzb _,rfl⟩ zS zS ?_;rintro i ⟨hi,hx⟩;simp only [↓wR,zT,simprocAttr];rw [bg];refine ⟨fun h3=>?_,fun h3=>?_⟩
 ·obtain ⟨c,hc,aF,hlt⟩:=du (zp h3);rw [aF,List.any_cons] at hx;have hcs:=hz.set c (zm hc)
  repeat (first|simp only [↓wR,zT,simprocAttr,h3,hc]|simp (disch:=omega) only [zW])
  refine cx (T:=[Au]) (ar.cons (aq qw) (ar.nil PP)) mixed Tryz.func91 rfl zK zK zK zK ?_;unfold Tryz.f91;simp only [↓wR,zT,simprocAttr,ot,hcs.owner,hn];rw [cq];refine ⟨fun h4=>?_,fun h4=>?_⟩
  ·rw [h4,Bool.true_or] at hx;simp only [↓wR,zT,simprocAttr,h4];rw [hx]
  ·rw [h4,Bool.false_or] at hx
   repeat (first|simp only [↓wR,zT,simprocAttr,h4]|simp (disch:=omega) only [zW])
   exact ⟨i+1,⟨hlt,hx⟩,zO,zF⟩
 ·rw [eg (zq h3),List.any_nil] at hx;simp only [↓wR,zT,simprocAttr,h3];rw [hx]<;>rfl
noncomputable def P8 (x:au × Name × Unit):Option AV:=if bj x.1/\ay x.2.1 then some ((r1 bk).E true (nc x.1 x.2.1)) else none
theorem Zr (x:au × Name × Unit) (r:AV) (h:P8 x=some r):bf PP 31 ((aC be (aC ak a0)).E x) r:=by obtain ⟨hc,rfl⟩:=zI h;exact aw (ar.cons (aq qw) (ar.cons (aq j3) (ar.nil PP))) Tryz.func31 zK zK zK zL (r1 bk) true (nc x.1 x.2.1) (aAv x.1 x.2.1 hc.1 hc.2)
noncomputable abbrev aEe:zE:=(31,true,ct (aC be (aC ak a0)) P8)
theorem av5 (t:UInt16):wl PP [] 0 (Tryz.f110.body.getD .skip) (c8 PP Tryz.f110.results.toList (fun r st=>(r1 bk).get true st.h r=some false)) (cg 0 [cf.val false t]) (bh []):=by unfold Tryz.f110;simp only [↓wR,zT,simprocAttr,bne_self_eq_false]
noncomputable def Yn (x:UInt16 × Unit):Option AV:=some ((r1 bk).E true (false))
theorem aju (x:UInt16 × Unit) (r:AV) (h:Yn x=some r):bf PP 110 ((aC cf a0).E x) r:=by cases h;exact aw (ar.nil PP) Tryz.func110 zK zK zK zL (r1 bk) true (false) (av5 x.1)
noncomputable abbrev aEk:zE:=(110,true,ct (aC cf a0) Yn)
def Ln (a b:UInt16):Int:=if (a.toNat:Int)<b.toNat then -1 else if (b.toNat:Int)<a.toNat then 1 else 0
theorem aA2 (a b:UInt16):wl PP [aEk] 0 (Tryz.f59.body.getD .skip) (c8 PP Tryz.f59.results.toList (fun r st=>(r1 (ba .i64)).get true st.h r=some (Ln a b))) (cg 0 [cf.val false a,cf.val false b]) (bh []):=by
 unfold Tryz.f59;unfold Ln;simp only [↓wR,zT,simprocAttr,Yn];rw [bg];refine ⟨fun h=>?_,fun h=>?_⟩
 ·rw [if_pos h];simp only [↓wR,zT,simprocAttr,h]
 ·rw [if_neg h];simp only [↓wR,zT,simprocAttr,h];rw [bg];refine ⟨fun h2=>?_,fun h2=>?_⟩
  ·rw [if_pos h2];simp only [↓wR,zT,simprocAttr,h2]
  ·rw [if_neg h2];simp only [↓wR,zT,simprocAttr,h2]
noncomputable def ady (x:UInt16 × UInt16 × Unit):Option AV:=some ((r1 (ba .i64)).E true (Ln x.1 x.2.1))
theorem aqj (x:UInt16 × UInt16 × Unit) (r:AV) (h:ady x=some r):bf PP 59 ((aC cf (aC cf a0)).E x) r:=by cases h;exact aw (ar.cons (aq aju) (ar.nil PP)) Tryz.func59 zK zK zK zL (r1 (ba .i64)) true (Ln x.1 x.2.1) (aA2 x.1 x.2.1)
noncomputable abbrev aFf:zE:=(59,true,ct (aC cf (aC cf a0)) ady)
def Hx:List Int->Int
 | []=>0
 |a::r=>if a≠0 then a else Hx r
theorem aFj (l:List Int) (hl:l.length<=16777216):wl PP [] 0 (Tryz.f57.body.getD .skip) (c8 PP Tryz.f57.results.toList (fun r st=>(r1 (ba .i64)).get true st.h r=some (Hx l))) (cg 0 [(br (ba .i64)).val false l]) (bh []):=by
 unfold Tryz.f57;rw [j5];simp only [↓wR,zT,simprocAttr];refine dq [3,6,7,8] (fun (i:Nat)=>[zi 0,.vl false 1 (l.map ((ba .i64).val false)),zi l.length,zi i]) (fun _=>[]) (fun i=>i<=l.length/\Hx l=Hx (l.drop i)) (fun i=>l.length - i) 0 ⟨zzb _,rfl⟩ zS zS ?_;rintro i ⟨hi,hx⟩;simp only [↓wR,zT,simprocAttr];rw [bg];refine ⟨fun h=>?_,fun h=>?_⟩
 ·obtain ⟨c,hc,aF,hlt⟩:=du (zp h);rw [aF,Hx] at hx;simp only [↓wR,zT,simprocAttr,h,hc];rw [dg];refine ⟨fun ⟨h2,e2⟩=>?_,fun ⟨h2,e2⟩=>?_⟩
  ·rw [if_pos e2] at hx;simp only [↓wR,zT,simprocAttr,h2];rw [hx]
  ·rw [if_neg zO] at hx
   repeat (first|simp only [↓wR,zT,simprocAttr,h2]|simp (disch:=omega) only [zW])
   exact ⟨i+1,⟨hlt,hx⟩,zO,zF⟩
 ·rw [eg (zq h)] at hx;simp only [↓wR,zT,simprocAttr,h];rw [hx];rfl
noncomputable def aip (x:List Int × Unit):Option AV:=if x.1.length<=16777216 then some ((r1 (ba .i64)).E true (Hx x.1)) else none
theorem axq (x:List Int × Unit) (r:AV) (h:aip x=some r):bf PP 57 ((aC (br (ba .i64)) a0).E x) r:=by obtain ⟨hc,rfl⟩:=zI h;exact aw (ar.nil PP) Tryz.func57 zK zK zK zL (r1 (ba .i64)) true (Hx x.1) (aFj x.1 hc)
noncomputable abbrev orC:zE:=(57,true,ct (aC (br (ba .i64)) a0) aip)
noncomputable def nr (a b:az):Int:=Hx [tm a.owner b.owner,Ln a.type b.type]
theorem ao8 (a b:az) (ha:dh a) (hb:dh b):wl PP [ak3,aFf,orC] 0 (Tryz.f122.body.getD .skip) (c8 PP Tryz.f122.results.toList (fun r st=>(r1 (ba .i64)).get true st.h r=some (nr a b))) (cg 0 [ai.val false a,ai.val false b]) (bh []):=by unfold Tryz.f122;simp only [jj];simp only [↓wR,zT,simprocAttr];refine ⟨zK,.inl ?_⟩;simp only [↓wR,zT,simprocAttr,wy,ady,aip,ha.owner,hb.owner];exact ⟨zK,rfl⟩
noncomputable def Ab (x:az × az × Unit):Option AV:=if dh x.1/\dh x.2.1 then some ((r1 (ba .i64)).E true (nr x.1 x.2.1)) else none
theorem ac3 (x:az × az × Unit) (r:AV) (h:Ab x=some r):bf PP 122 ((aC ai (aC ai a0)).E x) r:=by obtain ⟨hc,rfl⟩:=zI h;exact aw (ar.cons (aq Th) (ar.cons (aq aqj) (ar.cons (aq axq) (ar.nil PP)))) Tryz.func122 zK zK zK zL (r1 (ba .i64)) true (nr x.1 x.2.1) (ao8 x.1 x.2.1 hc.1 hc.2)
noncomputable abbrev aje:zE:=(122,true,ct (aC ai (aC ai a0)) Ab)
noncomputable def oy (t:UInt16):List cj->Bool
 |a::b::r=>if 0<=Cl t a b then false else oy t (b::r)
 |_=>true
noncomputable def gk (z:au) (i:Nat) (s:az):Bool:=
 (match i with|0=>true|k+1=>match z.aj[k]? with|some a=>decide (¬ (nr a s ≥ 0))|none=>true) && oy s.type s.data
theorem s6 (k:Nat):((k:Int)+1).toNat=k+1:=zO
theorem Ax (k:Nat):(0:Int)<=(k:Int)+1:=zO
theorem Ht (t:UInt16) {l:List cj} {k:Nat} {a b:cj} (ha:l[k]? = some a) (hb:l[k+1]? = some b):oy t (l.drop k)=if 0<=Cl t a b then false else oy t (l.drop (k+1)):=by rw [Dm ha,Dm hb];rfl
theorem Fm (t:UInt16) {l:List cj} {k:Nat} (h:l.length<=k+1):oy t (l.drop k)=true:=by
 have:(l.drop k).length<=1:=by rw [zzt];omega
 match hd:l.drop k with
 | []=>rfl
 | [a]=>rfl
 |a::b::r=>rw [hd] at this;simp at this
theorem axl (l:uw) (i:Nat) (s:az) (hz:bj l.z) (hs:dh s) (hi:i<=l.z.aj.length):wl PP [aje,Iy] 0 (Tryz.f77.body.getD .skip) (c8 PP Tryz.f77.results.toList (fun r st=>(r1 bk).get true st.h r=some (gk l.z i s))) (cg 0 [.fe (m6.cells false l),(ba .i64).val false i,ai.val false s]) (bh []):=by
 have hd:=hs.data;have hn:=hd.len;have hl:=hz.len;unfold Tryz.f77;simp only [jj];simp only [↓wR,zT,simprocAttr,Cw];refine ⟨zK,.inl ?_⟩;rw [bg];refine ⟨fun h=>?_,fun h=>?_⟩
 ·cases i with
  |zero=>omega
  |succ k=>
  obtain ⟨a,ha⟩:∃ a,l.z.aj[k]? = some a:=⟨_,zh zO⟩;have has:=hz.set a (zm ha)
  repeat (first|simp only [↓wR,zT,simprocAttr,h,ha,Int.natCast_add,Int.add_sub_cancel,Ab,has,hs]|simp (disch:=omega) only [zW])
  refine ⟨zK,?_⟩;rw [bg];refine ⟨fun h2=>?_,fun h2=>?_⟩
  ·have hv:gk l.z (k+1) s=false:=by simp only [gk,ha];simp [h2]
   simp only [↓wR,zT,simprocAttr,h2];rw [hv]
  have hv:gk l.z (k+1) s=oy s.type s.data:=by simp only [gk,ha];simp [h2]
  clear ha;simp only [↓wR,zT,simprocAttr,h2];refine dq [5,7] (fun (k:Nat)=>[.ptr 0 0,zi ((k:Int)+1)]) (fun _=>[(zY s)]) (fun k=>(k=0\/k+1<=s.data.length)/\oy s.type s.data=oy s.type (s.data.drop k)) (fun k=>s.data.length - k) 0 ⟨.inl rfl,rfl⟩ zS zS ?_;rintro k ⟨hk,hx⟩;simp only [↓wR,zT,simprocAttr];rw [bg];refine ⟨fun h5=>?_,fun h5=>?_⟩
  ·obtain ⟨a,ha⟩:∃ a,s.data[k]? = some a:=⟨_,zh zO⟩;obtain ⟨b,hb⟩:∃ b,s.data[k+1]? = some b:=⟨_,zh zO⟩;rw [Ht _ ha hb] at hx;have has:=hd.mem a (zm ha);have aT:=hd.mem b (zm hb);simp only [↓wR,zT,simprocAttr,h5];refine ⟨zK,.inl ?_⟩
   repeat (first|simp only [↓wR,zT,simprocAttr,ha,hb,Int.add_sub_cancel,s6,Ax,nn,has,aT]|simp (disch:=omega) only [zW])
   refine ⟨zK,?_⟩;rw [bg];refine ⟨fun h6=>?_,fun h6=>?_⟩
   ·rw [if_pos h6] at hx;simp only [↓wR,zT,simprocAttr,h6];rw [hv,hx]
   ·rw [if_neg h6] at hx
    repeat (first|simp only [↓wR,zT,simprocAttr,h6]|simp (disch:=omega) only [zW])
    exact ⟨k+1,⟨.inr zO,hx⟩,zO,zF⟩
  ·rw [Fm _ zO] at hx;simp only [↓wR,zT,simprocAttr,h5];rw [hv,hx]
 ·simp only [↓wR,zT,simprocAttr,h];have eL:i=0:=zO;have hv:gk l.z i s=oy s.type s.data:=by rw [eL];simp [gk]
  refine ⟨zK,?_⟩;refine dq [5,7] (fun (k:Nat)=>[.ptr 0 0,zi ((k:Int)+1)]) (fun _=>[(zY s)]) (fun k=>(k=0\/k+1<=s.data.length)/\oy s.type s.data=oy s.type (s.data.drop k)) (fun k=>s.data.length - k) 0 ⟨.inl rfl,rfl⟩ zS zS ?_;rintro k ⟨hk,hx⟩;simp only [↓wR,zT,simprocAttr];rw [bg];refine ⟨fun h5=>?_,fun h5=>?_⟩
  ·obtain ⟨a,ha⟩:∃ a,s.data[k]? = some a:=⟨_,zh zO⟩;obtain ⟨b,hb⟩:∃ b,s.data[k+1]? = some b:=⟨_,zh zO⟩;rw [Ht _ ha hb] at hx;have has:=hd.mem a (zm ha);have aT:=hd.mem b (zm hb);simp only [↓wR,zT,simprocAttr,h5];refine ⟨zK,.inl ?_⟩
   repeat (first|simp only [↓wR,zT,simprocAttr,ha,hb,Int.add_sub_cancel,s6,Ax,nn,has,aT]|simp (disch:=omega) only [zW])
   refine ⟨zK,?_⟩;rw [bg];refine ⟨fun h6=>?_,fun h6=>?_⟩
   ·rw [if_pos h6] at hx;simp only [↓wR,zT,simprocAttr,h6];rw [hv,hx]
   ·rw [if_neg h6] at hx
    repeat (first|simp only [↓wR,zT,simprocAttr,h6]|simp (disch:=omega) only [zW])
    exact ⟨k+1,⟨.inr zO,hx⟩,zO,zF⟩
  ·rw [Fm _ zO] at hx;simp only [↓wR,zT,simprocAttr,h5];rw [hv,hx]
theorem ato (l:uw) (i:Int) (s:az) (hz:bj l.z) (hs:dh s) (hi : 0<=i/\i<=l.z.aj.length):wl PP [aje,Iy] 0 (Tryz.f77.body.getD .skip) (c8 PP Tryz.f77.results.toList (fun r st=>(r1 bk).get true st.h r=some (gk l.z i.toNat s))) (cg 0 [.fe (m6.cells false l),(ba .i64).val false i,ai.val false s]) (bh []):=by
 have:=axl l i.toNat s hz hs zO
 rwa [Int.toNat_of_nonneg hi.1] at this
noncomputable def Jp (x:uw × Int × az × Unit):Option AV:=if (bj x.1.z/\dh x.2.2.1)/\0<=x.2.1/\x.2.1<=x.1.z.aj.length then some ((r1 bk).E true (gk x.1.z x.2.1.toNat x.2.2.1)) else none
theorem Sg (x:uw × Int × az × Unit) (r:AV) (h:Jp x=some r):bf PP 77 ((aP m6 (aC (ba .i64) (aC ai a0))).E x) r:=by obtain ⟨hc,rfl⟩:=zI h;exact aw (ar.cons (aq ac3) (ar.cons (aq Gd) (ar.nil PP))) Tryz.func77 zK zK zK zL (r1 bk) true (gk x.1.z x.2.1.toNat x.2.2.1) (ato x.1 x.2.1 x.2.2.1 hc.1.1 hc.1.2 hc.2)
noncomputable abbrev kc:zE:=(77,true,ct (aP m6 (aC (ba .i64) (aC ai a0))) Jp)
def ub (i:Nat) (n:Name):Nat->List az->Bool
 |_,[]=>false
 |k,o::r=>(decide (¬ (k:Int)=i) && dm o.owner n) || ub i n (k+1) r
def jm (z:au) (i:Nat) (s:az):Bool:=
 if ¬ (s.type.toNat:Int)=5 then true else if ¬ (s.data.length:Int)=1 then false else if dm s.owner z.origin=true then false else !ub i s.owner 0 z.aj
theorem ayj (l:uw) (i:Nat) (s:az) (hz:bj l.z) (hs:dh s):wl PP [ee] 0 (Tryz.f82.body.getD .skip) (c8 PP Tryz.f82.results.toList (fun r st=>(r1 bk).get true st.h r=some (jm l.z i s))) (cg 0 [.fe (m6.cells false l),(ba .i64).val false i,ai.val false s]) (bh []):=by
 have hl:=hz.len;unfold Tryz.f82;simp only [jj];simp only [↓wR,zT,simprocAttr,Cw];unfold jm;rw [dg];refine ⟨fun ⟨h,e⟩=>?_,fun ⟨h,e⟩=>?_⟩
 ·rw [if_pos e];simp only [↓wR,zT,simprocAttr,h]
 rw [if_neg zO];simp only [↓wR,zT,simprocAttr,h];refine ⟨zK,.inl ?_⟩;rw [dg];refine ⟨fun ⟨h2,e2⟩=>?_,fun ⟨h2,e2⟩=>?_⟩
 ·rw [if_pos e2];simp only [↓wR,zT,simprocAttr,h2];exact by kernel_rfl
 rw [if_neg zO];simp only [↓wR,zT,simprocAttr,h2,jx,hs.owner,hz.origin];refine ⟨zK,?_⟩;rw [cq];refine ⟨fun h3=>?_,fun h3=>?_⟩
 ·rw [if_pos h3];simp only [↓wR,zT,simprocAttr,h3]
 rw [if_neg (by rw [h3];decide)];simp only [↓wR,zT,simprocAttr,h3];refine dq [1,5,30,31,32] (fun (k:Nat)=>[zi i,.ptr 0 0,zs l.z.aj,zi l.z.aj.length,zi k]) (fun _=>[(zY s)]) (fun k=>k<=l.z.aj.length/\ub i s.owner 0 l.z.aj=ub i s.owner k (l.z.aj.drop k)) (fun k=>l.z.aj.length - k) 0 ⟨zzb _,rfl⟩ zS zS ?_;rintro k ⟨hk,hx⟩;simp only [↓wR,zT,simprocAttr];rw [bg];refine ⟨fun h4=>?_,fun h4=>?_⟩
 ·obtain ⟨c,hc,aF,hlt⟩:=du (zp h4);rw [aF,ub] at hx;have hcs:=hz.set c (zm hc);simp only [↓wR,zT,simprocAttr,h4,hc];rw [dg];refine ⟨fun ⟨h5,e5⟩=>?_,fun ⟨h5,e5⟩=>?_⟩
  ·rw [zp e5,Bool.true_and] at hx;simp only [↓wR,zT,simprocAttr,h5,jx,hcs.owner,hs.owner];rw [cq];refine ⟨fun h6=>?_,fun h6=>?_⟩
   ·rw [h6,Bool.true_or] at hx;simp only [↓wR,zT,simprocAttr,h6];rw [hx];rfl
   ·rw [h6,Bool.false_or] at hx
    repeat (first|simp only [↓wR,zT,simprocAttr,h6]|simp (disch:=omega) only [zW])
    exact ⟨k+1,⟨hlt,hx⟩,zO,zF⟩
  ·rw [zq zO,Bool.false_and,Bool.false_or] at hx
   repeat (first|simp only [↓wR,zT,simprocAttr,h5]|simp (disch:=omega) only [zW])
   exact ⟨k+1,⟨hlt,hx⟩,zO,zF⟩
 ·rw [eg (zq h4),ub] at hx;simp only [↓wR,zT,simprocAttr,h4];rw [hx];rfl
theorem ar7 (l:uw) (i:Int) (s:az) (hz:bj l.z) (hs:dh s) (hi : 0<=i):wl PP [ee] 0 (Tryz.f82.body.getD .skip) (c8 PP Tryz.f82.results.toList (fun r st=>(r1 bk).get true st.h r=some (jm l.z i.toNat s))) (cg 0 [.fe (m6.cells false l),(ba .i64).val false i,ai.val false s]) (bh []):=by
 have:=ayj l i.toNat s hz hs
 rwa [Int.toNat_of_nonneg hi] at this
noncomputable def F3 (x:uw × Int × az × Unit):Option AV:=if (bj x.1.z/\dh x.2.2.1)/\0<=x.2.1 then some ((r1 bk).E true (jm x.1.z x.2.1.toNat x.2.2.1)) else none
theorem Su (x:uw × Int × az × Unit) (r:AV) (h:F3 x=some r):bf PP 82 ((aP m6 (aC (ba .i64) (aC ai a0))).E x) r:=by obtain ⟨hc,rfl⟩:=zI h;exact aw (ar.cons (aq j3) (ar.nil PP)) Tryz.func82 zK zK zK zL (r1 bk) true (jm x.1.z x.2.1.toNat x.2.2.1) (ar7 x.1 x.2.1 x.2.2.1 hc.1.1 hc.1.2 hc.2)
noncomputable abbrev ke:zE:=(82,true,ct (aP m6 (aC (ba .i64) (aC ai a0))) F3)
def ju (s:az):Bool:=if ¬ (s.cls.toNat:Int)=1 then false else if (s.type.toNat:Int)=0 then false else if (s.type.toNat:Int)=41 then false else !decide ((s.type.toNat:Int)=255)
theorem ay7 (i:Int) (s:az):wl PP [] 0 (Tryz.f78.body.getD .skip) (c8 PP Tryz.f78.results.toList (fun r st=>(r1 bk).get true st.h r=some (ju s))) (cg 0 [(ba .i64).val false i,ai.val false s]) (bh []):=by
 unfold Tryz.f78;simp only [jj];simp only [↓wR,zT,simprocAttr];unfold ju;rw [bz];refine ⟨fun ⟨h,e⟩=>?_,fun ⟨h,e⟩=>?_⟩
 ·rw [if_neg zO];simp only [↓wR,zT,simprocAttr,h];rw [dg];refine ⟨fun ⟨h2,e2⟩=>?_,fun ⟨h2,e2⟩=>?_⟩
  ·rw [if_neg e2];simp only [↓wR,zT,simprocAttr,h2];rw [dg];refine ⟨fun ⟨h3,e3⟩=>?_,fun ⟨h3,e3⟩=>?_⟩
   ·rw [if_neg e3];simp only [↓wR,zT,simprocAttr,h3];rfl
   ·rw [if_pos e3];simp only [↓wR,zT,simprocAttr,h3]
  ·rw [if_pos e2];simp only [↓wR,zT,simprocAttr,h2]
 ·rw [if_pos e];simp only [↓wR,zT,simprocAttr,h]
noncomputable def Yg (x:Int × az × Unit):Option AV:=some ((r1 bk).E true (ju x.2.1))
theorem Sn (x:Int × az × Unit) (r:AV) (h:Yg x=some r):bf PP 78 ((aC (ba .i64) (aC ai a0)).E x) r:=by cases h;exact aw (ar.nil PP) Tryz.func78 zK zK zK zL (r1 bk) true (ju x.2.1) (ay7 x.1 x.2.1)
noncomputable abbrev kb:zE:=(78,true,ct (aC (ba .i64) (aC ai a0)) Yg)
theorem atq (i:Int) (s:az) (z:au) (hs:dh s) (hz:bj z):wl PP [Au] 0 (Tryz.f79.body.getD .skip) (c8 PP Tryz.f79.results.toList (fun r st=>(r1 bk).get true st.h r=some (dp s.owner z.origin))) (cg 0 [(ba .i64).val false i,ai.val false s,.fe (be.cells false z)]) (bh []):=by unfold Tryz.f79;simp only [jj];simp only [↓wR,zT,simprocAttr,C8,ot,hs.owner,hz.origin]
noncomputable def Hd (x:Int × az × au × Unit):Option AV:=if dh x.2.1/\bj x.2.2.1 then some ((r1 bk).E true (dp x.2.1.owner x.2.2.1.origin)) else none
theorem N7 (x:Int × az × au × Unit) (r:AV) (h:Hd x=some r):bf PP 79 ((aC (ba .i64) (aC ai (aP be a0))).E x) r:=by obtain ⟨hc,rfl⟩:=zI h;exact aw (ar.cons (aq qw) (ar.nil PP)) Tryz.func79 zK zK zK zL (r1 bk) true (dp x.2.1.owner x.2.2.1.origin) (atq x.1 x.2.1 x.2.2.1 hc.1 hc.2)
noncomputable abbrev jk:zE:=(79,true,ct (aC (ba .i64) (aC ai (aP be a0))) Hd)
def jv (s:az):Bool:=if ¬ (s.type.toNat:Int)=2 then true else match s.owner[0]? with|none=>true|some a=>!decide (a=oc)
theorem aCj (i:Int) (s:az) (hs:dh s):wl PP [] 0 (Tryz.f83.body.getD .skip) (c8 PP Tryz.f83.results.toList (fun r st=>(r1 bk).get true st.h r=some (jv s))) (cg 0 [(ba .i64).val false i,ai.val false s]) (bh []):=by
 have hn:=hs.owner.lt;unfold Tryz.f83;simp only [jj];simp only [↓wR,zT,simprocAttr];unfold jv;rw [dg];refine ⟨fun ⟨h,e⟩=>?_,fun ⟨h,e⟩=>?_⟩
 ·rw [if_pos e];simp only [↓wR,zT,simprocAttr,h]
 rw [if_neg zO];simp only [↓wR,zT,simprocAttr,h];rw [bz];refine ⟨fun ⟨h2,e2⟩=>?_,fun ⟨h2,e2⟩=>?_⟩
 ·have hnil:s.owner=[]:=zzf zO;have h0:s.owner[0]? = none:=by rw [hnil];rfl
  rw [h0];simp only [↓wR,zT,simprocAttr,h2]
 ·obtain ⟨a,ha⟩:∃ a,s.owner[0]? = some a:=⟨_,zh zO⟩;have h0 : 0<s.owner.length:=zO;rw [ha];simp only [↓wR,zT,simprocAttr,h2,ha,h0];rfl
noncomputable def I6 (x:Int × az × Unit):Option AV:=if dh x.2.1 then some ((r1 bk).E true (jv x.2.1)) else none
theorem Ur (x:Int × az × Unit) (r:AV) (h:I6 x=some r):bf PP 83 ((aC (ba .i64) (aC ai a0)).E x) r:=by obtain ⟨hc,rfl⟩:=zI h;exact aw (ar.nil PP) Tryz.func83 zK zK zK zL (r1 bk) true (jv x.2.1) (aCj x.1 x.2.1 hc)
noncomputable abbrev l0:zE:=(83,true,ct (aC (ba .i64) (aC ai a0)) I6)
def lu (z:au) (s:az):Bool:=
 match ka z s.owner with
 |none=>true
 |some c=>if (s.type.toNat:Int)=1 then true else if (s.type.toNat:Int)=28 then true else if (s.type.toNat:Int)=2 then dm c s.owner else false
theorem aDz (i:Int) (s:az) (z:au) (hs:dh s) (hz:bj z):wl PP [aEn,ee] 0 (Tryz.f84.body.getD .skip) (c8 PP Tryz.f84.results.toList (fun r st=>(r1 bk).get true st.h r=some (lu z s))) (cg 0 [(ba .i64).val false i,ai.val false s,.fe (be.cells false z)]) (bh []):=by
 have hsm:=M7 (n:=s.owner) hz z.aj none (fun _ h=>h) (fun m hm=>by cases hm);change ∀ m,ka z s.owner=some m->ay m at hsm;unfold Tryz.f84;simp only [jj];unfold lu;cases hc:ka z s.owner with
 |none=>
  simp only [↓wR,zT,simprocAttr,C8,Hr,hs.owner,hz,hc,Option.isSome_none]
  done
 |some c=>
  simp only [↓wR,zT,simprocAttr,C8,Hr,hs.owner,hz,hc];rw [bz];refine ⟨fun ⟨h,e⟩=>?_,fun ⟨h,e⟩=>?_⟩
  ·rw [if_pos e];simp only [↓wR,zT,simprocAttr,h]
  rw [if_neg e];simp only [↓wR,zT,simprocAttr,h];rw [bz];refine ⟨fun ⟨h2,e2⟩=>?_,fun ⟨h2,e2⟩=>?_⟩
  ·rw [if_pos e2];simp only [↓wR,zT,simprocAttr,h2]
  rw [if_neg e2];simp only [↓wR,zT,simprocAttr,h2];rw [bz];refine ⟨fun ⟨h3,e3⟩=>?_,fun ⟨h3,e3⟩=>?_⟩
  ·rw [if_pos e3];simp only [↓wR,zT,simprocAttr,h3,jx,hs.owner,hsm c hc]
  ·rw [if_neg e3];simp only [↓wR,zT,simprocAttr,h3]
noncomputable def Qp (x:Int × az × au × Unit):Option AV:=if dh x.2.1/\bj x.2.2.1 then some ((r1 bk).E true (lu x.2.2.1 x.2.1)) else none
theorem aaa (x:Int × az × au × Unit) (r:AV) (h:Qp x=some r):bf PP 84 ((aC (ba .i64) (aC ai (aP be a0))).E x) r:=by obtain ⟨hc,rfl⟩:=zI h;exact aw (ar.cons (aq abl) (ar.cons (aq j3) (ar.nil PP))) Tryz.func84 zK zK zK zL (r1 bk) true (lu x.2.2.1 x.2.1) (aDz x.1 x.2.1 x.2.2.1 hc.1 hc.2)
noncomputable abbrev pa:zE:=(84,true,ct (aC (ba .i64) (aC ai (aP be a0))) Qp)
def ki (z:au) (p:Nat × Nat) (s:az):Nat × Nat:=
 if (s.type.toNat:Int)=6 then (p.1+1,if (dm s.owner z.origin && decide ((s.data.length:Int)=1))=true then p.2+1 else p.2) else p
def gb (z:au):Nat × Nat:=z.aj.foldl (ki z) (0,0)
theorem aA7 (k:uw) (hz:bj k.z):wl PP [ee] 0 (Tryz.f80.body.getD .skip) (c8 PP Tryz.f80.results.toList (fun r st=>(r2 (ba .i64) (ba .i64)).get true st.h r=some (((gb k.z).1:Int),((gb k.z).2:Int)))) (cg 0 [.fe (m6.cells false k)]) (bh []):=by
 have hl:=hz.len;unfold Tryz.f80;simp only [↓wR,zT,simprocAttr,Cw];refine cx (T:=[]) (ar.nil PP) mixed Tryz.func70 rfl zK zK zK zK ?_;unfold Tryz.f70;simp only [↓wR,zT,simprocAttr];refine ⟨[1,4,5,11],?_⟩;have hib:D4 PP 120=some (Tryz.f120.ntmps,Tryz.f120.body.getD .skip):=zK;simp only [↓wR,zT,simprocAttr,hib];refine ⟨zK,fun l=>?_⟩;unfold Tryz.f120;simp only [↓wR,zT,simprocAttr];refine If [0,2,7,8,9] (fun (x:Nat × Nat × Nat)=>[.sc (.func (.yield l) #[] #[]),.ptr 4 0,zs k.z.aj,zi k.z.aj.length,zi x.1]) (fun x=>[some (.row [.fe [zn k.z.origin,zs k.z.aj,zi k.e]] 0 2 109),some (.row [zi (x.2.1:Int)] 0 2 3),some (.row [zi (x.2.2:Int)] 0 2 3),some (.row [zn k.z.origin,zs k.z.aj] 0 2 41),some (.row [.sc (.int .u16 6)] 0 2 26)]) (fun x=>x.1<=k.z.aj.length/\x.2.1<=x.1/\x.2.2<=x.1/\gb k.z=(k.z.aj.drop x.1).foldl (ki k.z) x.2) (fun x=>k.z.aj.length - x.1) (0,0,0) ⟨zzb _,zza _,zza _,rfl⟩ zS zS ?_;rintro ⟨i,n,m⟩ ⟨hi,hn,hm,hx⟩;simp only at hi hn hm hx;simp only [↓wR,zT,simprocAttr];rw [xz];refine ⟨fun h=>?_,fun h=>?_⟩
 ·obtain ⟨c,hc,aF,hlt⟩:=du h;have hcs:=hz.set c (zm hc);have hstep:gb k.z=(k.z.aj.drop (i+1)).foldl (ki k.z) (ki k.z (n,m) c):=by rw [hx,aF];rfl
  simp only [↓wR,zT,simprocAttr,h,hc];rw [xz];refine ⟨fun h2=>?_,fun h2=>?_⟩
  ·have e2:(c.type.toNat:Int)=6:=by simpa using h2
   simp only [↓wR,zT,simprocAttr,h2];refine Bj [0,2,7,8,9,17,19] ?_
   repeat (first|simp only [↓wR,zT,simprocAttr,B5,oi]|simp (disch:=omega) only [zW])
   refine ⟨zK,.inl ?_⟩;simp only [↓wR,zT,simprocAttr,jx,hcs.owner,hz.origin];have fin:∀ q,ki k.z (n,m) c=(n+1,q)->q<=i+1->gb k.z=(k.z.aj.drop (i+1)).foldl (ki k.z) (n+1,q):=fun q hq _=>by rw [hstep,hq]
   rw [cq];refine ⟨fun h3=>?_,fun h3=>?_⟩
   ·simp only [↓wR,zT,simprocAttr,h3];refine ⟨zK,?_⟩;rw [bz];refine ⟨fun ⟨h4,e4⟩=>?_,fun ⟨h4,e4⟩=>?_⟩
    ·have hq:ki k.z (n,m) c=(n+1,m+1):=by simp [ki,e2,h3,e4]
     repeat (first|simp only [↓wR,zT,simprocAttr,h4]|simp (disch:=omega) only [zW])
     exact ⟨(i+1,n+1,m+1),⟨hlt,by simp;omega,by simp;omega,fin _ hq zO⟩,by simp;omega,zF,zF⟩
    ·have hq:ki k.z (n,m) c=(n+1,m):=by simp [ki,e2,h3,e4]
     repeat (first|simp only [↓wR,zT,simprocAttr,h4]|simp (disch:=omega) only [zW])
     exact ⟨(i+1,n+1,m),⟨hlt,by simp;omega,by simp;omega,fin _ hq zO⟩,by simp;omega,zF,zF⟩
   ·have hq:ki k.z (n,m) c=(n+1,m):=by simp [ki,e2,h3]
    simp only [↓wR,zT,simprocAttr,h3];refine ⟨zK,?_⟩;exact ⟨(i+1,n+1,m),⟨hlt,by simp;omega,by simp;omega,fin _ hq zO⟩,by simp;omega,zF,zF⟩
  ·have e2:¬ (c.type.toNat:Int)=6:=by simpa using h2
   have hb2:ki k.z (n,m) c=(n,m):=by simp [ki,e2]
   rw [hb2] at hstep
   repeat (first|simp only [↓wR,zT,simprocAttr,h2]|simp (disch:=omega) only [zW])
   exact ⟨(i+1,n,m),⟨hlt,by simp;omega,by simp;omega,hstep⟩,by simp;omega,zF,zF⟩
 ·rw [eg h] at hx;simp only [↓wR,zT,simprocAttr,h];refine ⟨zK,.inl ?_⟩;refine ⟨zK,?_⟩;rw [hx];rfl
noncomputable def N6 (x:uw × Unit):Option AV:=if bj x.1.z then some ((r2 (ba .i64) (ba .i64)).E true ((((gb x.1.z).1:Int),((gb x.1.z).2:Int)))) else none
theorem W8 (x:uw × Unit) (r:AV) (h:N6 x=some r):bf PP 80 ((aP m6 a0).E x) r:=by obtain ⟨hc,rfl⟩:=zI h;exact aw (ar.cons (aq j3) (ar.nil PP)) Tryz.func80 zK zK zK zL (r2 (ba .i64) (ba .i64)) true ((((gb x.1.z).1:Int),((gb x.1.z).2:Int))) (aA7 x.1 hc)
noncomputable abbrev lz:zE:=(80,true,ct (aP m6 a0) N6)
end Go.Proofs.YtgencolcibpcaaaGreat
end
