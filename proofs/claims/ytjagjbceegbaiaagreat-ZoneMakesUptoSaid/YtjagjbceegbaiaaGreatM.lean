/- Proved: where the arguments are of bulk at most 1048576, the law ZoneMakes returns true, and what it was given reads afterwards as before. No other conditions. -/
import Derived.Test.YtjagjbceegbaiaaGreatProg
import Derived.Test.YtjagjbceegbaiaaGreatRows
import Derived.Test.YtjagjbceegbaiaaGreatM6
set_option linter.unusedSimpArgs false
set_option linter.unusedVariables false
set_option linter.unusedSectionVars false
set_option maxRecDepth 2000000
section
namespace Go.Proofs.YtjagjbceegbaiaaGreat
open Go.Vm
theorem zQ:type_of% @i7∧type_of% @lh∧type_of% @jd∧type_of% @jc∧type_of% @j3∧type_of% @j4∧type_of% @nj∧type_of% @nl∧type_of% @qa∧type_of% @m4∧type_of% @nn∧type_of% @nm:=⟨@i7,@lh,@jd,@jc,@j3,@j4,@nj,@nl,@qa,@m4,@nn,@nm⟩
theorem Pa:∀ (l:List aw) {e:Int},e≠0->tw l e=e
 | [],_,_=>rfl
 |s::l,e,h=>by rw [tw,if_neg h];exact Pa l h
theorem afk:∀ {l:List aw},tw l 0=0->∀ s ∈ l,ud s=0
 | [],_,s,hs=>by cases hs
 |a::l,h,s,hs=>by
  rw [tw,if_pos rfl] at h;by_cases h1:ud a=0
  ·rw [h1] at h;rcases zyb.1 hs with rfl|hs
   ·exact h1
   ·exact afk h s hs
  ·rw [Pa l h1] at h;exact absurd h h1
theorem aIf {z:cf} (h:tw z.ar 0=0):okZ z=true:=by unfold okZ;rw [zz9];intro s hs;rw [zz9];intro d hd;exact zp (aum (afk h s hs) d hd)
noncomputable def abb (z:cf):Int:=if cg z.origin≠0 then cg z.origin else if 2048<np z.ar then 3 else if tw z.ar 0≠0 then tw z.ar 0 else if allI (jv z) 0 z.ar=false then 260 else Hl z
theorem agt (z:cf) (hz:dj z):wl PP [uc,awd,aA8,aJj] 0 (Tryz.f59.body.getD .skip) (di PP Tryz.f59.results.toList (fun r st=>(r1 (bh .i64)).get true st.h r=some (abb z))) (cj 0 [c7.val false z]) (ay []):=by
 have hlen:=hz.len;have gD:dk og z.ar<=16777216:=by have:=hz;unfold dj wtZ at this;omega
 have oC:=Oe z.ar;unfold Tryz.f59;simp only [nk];simp only [↓wR,zT,simprocAttr,n9,hz.origin.fit];unfold abb;rw [de];refine ⟨fun ⟨h1,e1⟩=>?_,fun ⟨h1,e1⟩=>?_⟩
 ·rw [if_pos e1];simp only [↓wR,zT,simprocAttr,h1]
 rw [if_neg zO];simp only [↓wR,zT,simprocAttr,h1];refine da [1,4,5] (fun (i:Nat)=>[.ptr 0 0,zi ((np (z.ar.take i))),zi i]) (fun _=>[(zZ z)]) (fun i=>i<=z.ar.length) (fun i=>z.ar.length - i) 0 (zzb _) zS zS ?_;intro i hi;simp only [↓wR,zT,simprocAttr];rw [az];refine ⟨fun h2=>?_,fun h2=>?_⟩
 ·obtain ⟨c,hc,aH,hlt⟩:=fi (zp h2);have hst:=Rv z.ar i c hc;have hcs:=hz.ar.mem c (zm hc);have hcl:=hcs.data.len;have hle:np (z.ar.take (i+1))<=16777216:=by
   have:=Oe (z.ar.take (i+1));have h3:dk og (z.ar.take (i+1))<=dk og z.ar:=Xq _ _ _;omega
  repeat (first|simp only [↓wR,zT,simprocAttr,h2,hc]|simp (disch:=omega) only [zW])
  refine ⟨i+1,hlt,zO,?_⟩;rw [hst];exact zF
 have hin:i=z.ar.length:=zO;subst hin;simp only [↓wR,zT,simprocAttr,h2,zz7];rw [az];refine ⟨fun h3=>?_,fun h3=>?_⟩
 ·rw [if_pos zO];simp only [↓wR,zT,simprocAttr,h3]
 rw [if_neg zO];simp only [↓wR,zT,simprocAttr,h3];refine da [1,6] (fun (i:Nat)=>[.ptr 0 0,zi i]) (fun _=>[(zZ z)]) (fun i=>i<=z.ar.length/\tw z.ar 0=tw (z.ar.drop i) 0) (fun i=>z.ar.length - i) 0 ⟨zzb _,rfl⟩ zS zS ?_;rintro i ⟨hi,hx⟩;simp only [↓wR,zT,simprocAttr];rw [az];refine ⟨fun h4=>?_,fun h4=>?_⟩
 ·obtain ⟨c,hc,aH,hlt⟩:=fi (zp h4);have hcs:=hz.ar.mem c (zm hc);rw [aji aH,if_pos rfl] at hx;simp only [↓wR,zT,simprocAttr,h4,hc,D0,hcs];rw [de];refine ⟨fun ⟨h5,e5⟩=>?_,fun ⟨h5,e5⟩=>?_⟩
  ·rw [Pa _ e5] at hx;rw [hx,if_pos e5];simp only [↓wR,zT,simprocAttr,h5]
  ·have CL:ud c=0:=zO;rw [CL] at hx
   repeat (first|simp only [↓wR,zT,simprocAttr,h5]|simp (disch:=omega) only [zW])
   exact ⟨i+1,⟨hlt,hx⟩,zO,zF⟩
 ·rw [gz (zq h4)] at hx;have hx':tw z.ar 0=0:=hx;rw [hx',if_neg (by simp)];have aB:=aIf hx';simp only [↓wR,zT,simprocAttr,h4,G6,hz,aB];cases ho:allI (jv z) 0 z.ar with
  |false=>
   rw [if_pos rfl];simp only [↓wR,zT,simprocAttr]
   try rfl
  |true=>
   rw [if_neg (by decide)];simp only [↓wR,zT,simprocAttr,Nx,hz]
   try rfl
def nx (b:Bool) (err e:Int):Int:=if e≠0 then e else if b=true then 0 else err
theorem W3 (b:Bool) (err e:Int):ed b err e=nx b err e:=by unfold ed nx;cases b<;>by_cases h:e=0<;>simp [h]
theorem Ct {err:Int} (he:err≠0) (p:Nat->aw->Bool):∀ (l:List aw) (i:Nat) (e:Int),jl err p i l e=nx (allI p i l) err e
 | [],i,e=>by rw [jl,allI,nx];by_cases h:e=0<;>simp [h]
 |s::l,i,e=>by
  rw [jl,allI];by_cases h:e=0
  ·subst h;rw [if_neg (by simp),Ct he p l (i+1),W3];unfold nx;cases p i s<;>simp [he]
  ·rw [if_pos h];unfold nx;rw [if_pos h]
theorem D7 (q:aw->Bool):∀ (l:List aw) (i:Nat),allI (fun _ s=>q s) i l=l.all q
 | [],_=>rfl
 |s::l,i=>by rw [allI,D7 q l,List.all_cons]
theorem Xs {i:Nat} {n:Name}:∀ (l:List aw) (k:Nat),i<k->x8 i n k l=l.any (fun s=>gh s.owner n)
 | [],_,_=>rfl
 |o::l,k,h=>by rw [x8,Xs l (k+1) zO,zp zO,Bool.true_and,List.any_cons]
theorem any_filter {q:aw->Bool} (l:List aw):l.any q=decide (0<(l.filter q).length):=by
 induction l with
 |nil=>rfl
 |cons a l ih=>rw [List.any_cons,List.filter_cons];cases q a<;>simp [ih]
theorem akj {n:Name}:∀ (l:List aw) (j k:Nat) {s:aw},l[j]? = some s->gh s.owner n=true->x8 (k+j) n k l=decide (1<(l.filter (fun s=>gh s.owner n)).length)
 | [],j,k,s,h,_=>by simp at h
 |o::l,0,k,s,h,hs=>by rw [List.getElem?_cons_zero] at h;cases h;rw [x8,zq (by simp),Bool.false_and,Bool.false_or,Xs l (k+1) zO,any_filter,List.filter_cons,if_pos hs,List.length_cons,decide_eq_decide];omega
 |o::l,j+1,k,s,h,hs=>by
  rw [List.getElem?_cons_succ] at h;have ih:=akj l j (k+1) h hs;rw [show k+1+j=k+(j+1) by omega] at ih;rw [x8,ih,zp zO,Bool.true_and,List.filter_cons];have hp : 0<(l.filter (fun s=>gh s.owner n)).length:=List.length_pos_of_mem (List.mem_filter.2 ⟨zm h,hs⟩);cases ho:gh o.owner n
  ·simp
  ·rw [if_pos rfl,List.length_cons,Bool.true_or,zp zO]
theorem avr (n:Name):gh n n=true:=by unfold gh;exact zp rfl
theorem ao4 {z:cf} {i:Nat} {s:aw} (h:z.ar[i]? = some s):l6 z i s = !ql z s:=by
 unfold l6 ql atV;have ho:=akj z.ar i 0 h (avr s.owner);rw [Nat.zero_add] at ho;rw [ho];by_cases h1:(s.type.toNat:Int)=5
 ·rw [if_neg (by simpa using h1),zp h1,Bool.true_and];by_cases h2:(s.data.length:Int)=1
  ·simp only [h2,ne_eq,not_true_eq_false,decide_false,Bool.false_or,if_false];cases gh s.owner z.origin
   ·rw [if_neg (by simp),Bool.false_or]
    congr 1
    rw [decide_eq_decide];omega
   ·rw [if_pos rfl,Bool.true_or];rfl
  ·rw [if_pos h2,zp h2,Bool.true_or];rfl
 ·rw [if_pos h1,zq h1,Bool.false_and];rfl
theorem ajq {p:Nat->aw->Bool} {q:aw->Bool}:∀ (l:List aw) (k:Nat),(∀ j s,l[j]? = some s->p (k+j) s = !q s)->allI p k l = !l.any q
 | [],_,_=>rfl
 |s::l,k,h=>by rw [allI,List.any_cons,ajq l (k+1) (fun j s' hj=>by rw [show k+1+j=k+(j+1) by omega];exact h (j+1) s' (by rw [List.getElem?_cons_succ];exact hj))];have:=h 0 s rfl;rw [Nat.add_zero] at this;rw [this,Bool.not_or]
def T6 (s:aw):Bool:=decide ((s.type.toNat:Int)=6)
def aau (z:cf) (s:aw):Bool:=decide ((s.type.toNat:Int)=6) && (gh s.owner z.origin && decide ((s.data.length:Int)=1))
theorem aeq (z:cf):∀ (l:List aw) (p:Nat × Nat),l.foldl (rk z) p=(p.1+l.countP T6,p.2+l.countP (aau z))
 | [],p=>rfl
 |s::l,p=>by
  rw [List.foldl_cons,aeq z l,List.countP_cons,List.countP_cons];unfold rk T6 aau;by_cases h:(s.type.toNat:Int)=6
  ·rw [if_pos h,zp h,Bool.true_and,if_pos rfl];dsimp only
   congr 1
   ·omega
   ·split<;>omega
  ·rw [if_neg h,zq h,Bool.false_and,if_neg (by simp)];rfl
theorem axl (z:cf) (l:List aw):l.countP T6=l.countP (aau z)+l.countP (A1 z):=by
 induction l with
 |nil=>rfl
 |cons s l ih=>
  rw [List.countP_cons,List.countP_cons,List.countP_cons,ih];unfold T6 aau A1;cases decide ((s.type.toNat:Int)=6)<;>cases gh s.owner z.origin<;>by_cases h:(s.data.length:Int)=1<;>simp [h]<;>omega
theorem aDk (z:cf):(decide ((js z).1=1) && decide ((js z).2=1)) = !(z.ar.any (A1 z) || decide ((Al z z.ar.length:Int)≠1)):=by
 have h1:js z=(z.ar.countP T6,z.ar.countP (aau z)):=by unfold js;rw [aeq];simp
 have h2:Al z z.ar.length=z.ar.countP T6:=by unfold Al;rw [zz7,List.countP_eq_length_filter];rfl
 have h3:=axl z z.ar;have h4:z.ar.any (A1 z)=decide (0<z.ar.countP (A1 z)):=by rw [any_filter,List.countP_eq_length_filter]
 rw [h1,h2,h4,<- Bool.decide_and,<- Bool.decide_or,<- decide_not,decide_eq_decide];dsimp only;omega
theorem aB3 (b2 b3 b4 b5 b6 b7 b8:Bool):Nc [!b2,!b3,!b4,!b5,!b6,!b7,!b8] [261,262,263,264,265,266,267]=nx b8 267 (nx b7 266 (nx b6 265 (nx b5 264 (nx b4 263 (nx b3 262 (nx b2 261 0)))))):=by cases b2<;>cases b3<;>cases b4<;>cases b5<;>cases b6<;>cases b7<;>cases b8<;>rfl
theorem T0 {q:aw->Bool} (l:List aw):l.any (fun s=>!q s) = !l.all q:=by rw [List.all_eq_not_any_not,Bool.not_not]
theorem aAy (z:cf):Zl z=if B7 z≠0 then B7 z else Hl z:=by
 have h2:Kh z=nx (z.ar.all ng) 261 (B7 z):=by unfold Kh;rw [Ct (by decide),D7]
 have h3:tp z=nx (z.ar.all fun s=>jm s.owner z.origin) 262 (Kh z):=by unfold tp;rw [Ct (by decide),D7]
 have h4:oz z=nx (!(z.ar.any (A1 z) || decide ((Al z z.ar.length:Int)≠1))) 263 (tp z):=by unfold oz;rw [W3,aDk]
 have h5:Cc z=nx (z.ar.any (zo z)) 264 (oz z):=by unfold Cc;rw [W3];rfl
 have h6:B9 z=nx (!z.ar.any (ql z)) 265 (Cc z):=by unfold B9;rw [Ct (by decide),ajq (q:=ql z) z.ar 0 (fun j s hj=>by rw [Nat.zero_add];exact ao4 hj)]
 have h7:G9 z=nx (z.ar.all l5) 266 (B9 z):=by unfold G9;rw [Ct (by decide),D7]
 have h8:Zl z=nx (z.ar.all (pz z)) 267 (G9 z):=by unfold Zl;rw [Ct (by decide),D7]
 have hr:Hl z=nx (z.ar.all (pz z)) 267 (nx (z.ar.all l5) 266 (nx (!z.ar.any (ql z)) 265 (nx (z.ar.any (zo z)) 264 (nx (!(z.ar.any (A1 z) || decide ((Al z z.ar.length:Int)≠1))) 263 (nx (z.ar.all fun s=>jm s.owner z.origin) 262 (nx (z.ar.all ng) 261 0)))))):=by rw [<- aB3,Bool.not_not,Bool.not_not];unfold Hl akb;rw [show z.ar.any Kj = !z.ar.all ng from T0 _,show z.ar.any (Jk z) = !z.ar.all (fun s=>jm s.owner z.origin) from T0 _,show z.ar.any J1 = !z.ar.all l5 from T0 _,show z.ar.any (Kk z) = !z.ar.all (pz z) from T0 _]
 rw [h8,h7,h6,h5,h4,h3,h2,hr];by_cases h:B7 z=0
 ·rw [h,if_neg (by simp)]
 ·rw [if_pos h];unfold nx;simp only [ne_eq,h,not_false_eq_true,if_true]
theorem aw6 (z:cf):abb z=ox z:=by
 unfold abb ox;by_cases h1:cg z.origin=0
 case neg=>
  have:vk z=cg z.origin:=by unfold vk;rw [if_pos h1]
  rw [if_pos h1,this,if_pos h1]
 rw [if_neg (by simpa using h1)];have hf:vk z=tw z.ar (ed (decide (np z.ar<=2048)) 3 0):=by unfold vk;rw [if_neg (by simpa using h1)]
 by_cases h2 : 2048<np z.ar
 ·rw [zq zO] at hf;have:vk z=3:=by rw [hf];exact Pa _ (by decide)
  rw [if_pos h2,this,if_pos (by decide)]
 rw [if_neg h2];rw [zp zO] at hf;have hf:vk z=tw z.ar 0:=hf;rw [hf];by_cases h3:tw z.ar 0=0
 case neg=>rw [if_pos h3,if_pos h3]
 have jZ:¬ tw z.ar 0≠0:=fun h=>h h3
 rw [if_neg jZ,if_neg jZ,aAy];have he:B7 z=nx (allI (jv z) 0 z.ar) 260 0:=by unfold B7;rw [Ct (by decide),hf,h3]
 rw [he];cases allI (jv z) 0 z.ar
 ·rfl
 ·rfl
noncomputable def B5 (x:cf × Unit):Option AV:=if dj x.1 then some ((r1 (bh .i64)).E true (ox x.1)) else none
theorem aat (x:cf × Unit) (r:AV) (h:B5 x=some r):bo PP 59 ((aC c7 a0).E x) r:=by obtain ⟨hc,rfl⟩:=zI h;exact bf (ak.cons (aq Cd) (ak.cons (aq acf) (ak.cons (aq ag4) (ak.cons (aq aoy) (ak.nil PP))))) Tryz.func59 zK zK zK zL (r1 (bh .i64)) true (ox x.1) ((by rw [<- aw6];exact agt x.1 hc))
noncomputable abbrev asp:zE:=(59,true,dg (aC c7 a0) B5)
theorem apf (a b:aw):Ci (dq a) (dq b)=Ci a b:=by
 have ho:∀ s,(dq s).owner=s.owner/\(dq s).type=s.type/\(dq s).cls=s.cls:=fun s=>by unfold dq;split<;>exact ⟨rfl,rfl,rfl⟩
 unfold Ci;rw [(ho a).1,(ho b).1,(ho a).2.1,(ho b).2.1,(ho a).2.2,(ho b).2.2]
theorem avj (a b:aw):fj (dq a) (dq b)=fj a b:=by unfold fj;rw [apf]
theorem ar3 {α:Type} {lt : α -> α->Bool} {f : α -> α} (h:∀ a b,lt (f a) (f b)=lt a b) (x : α):∀ l:List α,l7 lt (f x) (l.map f)=(l7 lt x l).map f
 | []=>rfl
 |y::l=>by rw [List.map_cons,l7,l7,h,ar3 h x l];cases lt x y<;>rfl
theorem aAw {α:Type} {lt : α -> α->Bool} {f : α -> α} (h:∀ a b,lt (f a) (f b)=lt a b) (l:List α):ec lt (l.map f)=(ec lt l).map f:=by
 have key:∀ (l acc:List α),(l.map f).foldl (fun acc x=>l7 lt x acc) (acc.map f)=(l.foldl (fun acc x=>l7 lt x acc) acc).map f:=by
  intro l
  induction l with
  |nil=>intro acc;rfl
  |cons a l ih=>intro acc;rw [List.map_cons,List.foldl_cons,List.foldl_cons,ar3 h,ih]
 exact key l []
theorem auc (l:List aw):ec fj (l.map dq)=we l:=aAw avj l
theorem amc {s:aw} (h:cw s):cw (dq s):=by unfold cw at *;rw [afs];exact h
theorem aA9 (n:Name) (l:List aw) (hn:bj n) (hl:vz l) (hl2:l.length<=1048576) (hd:∀ s ∈ l,s.data.length<=1048576):wl PP [aIb,Fe,aKm] 0 (Tryz.f72.body.getD .skip) (di PP Tryz.f72.results.toList (fun r st=>(r1 c7).get true st.h r=some (B0 n (we l)))) (cj 0 [au.val false n,(bw aj).val false l]) (ay []):=by
 have dQ:=sv hn;have cS:vz (l.map dq):=⟨by rw [zzo];exact hl.1,fun s h=>by obtain ⟨x,hx,rfl⟩:=zyl.1 h;exact amc (hl.2 x hx)⟩;have zG:(l.map dq).length<=1048576:=by rw [zzo];exact hl2
 rw [<- auc];unfold Tryz.f72;simp only [cr];simp only [↓wR,zT,simprocAttr];refine i9 [0,1,4,6,5] (fun (i:Nat)=>[zn n,zs l,.ptr 0 0,zi i,.sl 1 0 i 5]) (fun i=>[some (.row [.sc (.slice none 0 0),.sc (.slice none 0 0)] 0 2 26),some (.row (cellsOf aj true (((l.take i).map dq))) 0 0 63)]) (fun i=>i<=l.length) (fun i=>l.length - i) 0 (zzb _) zX ?_;intro i hi;simp only [↓wR,zT,simprocAttr];rw [az];refine ⟨fun h=>?_,fun h=>?_⟩
 ·obtain ⟨c,hc,aH,hlt⟩:=fi (zp h);have c1:=hl.2 c (zm hc);have c2:=hd c (zm hc);have hlen:((l.take i).map dq).length=i:=by rw [zzo,zzl];omega
  have aD:(i * 5+5) * 64<=140737488355328:=zO;have bN:(l.take (i+1)).map dq=(l.take i).map dq++[dq c]:=by rw [jg hc,zzw];rfl
  repeat (first|simp only [↓wR,zT,simprocAttr,h,hc,Iz,c1,c2,hlen,aD]|simp (disch:=omega) only [zW])
  refine ⟨i+1,hlt,zO,zF,?_⟩;rw [bN,Bd]
 ·have hin:i=l.length:=zO;subst hin;rw [zz7];have hdr:∀ fr h k st et,yc fr st 5 aj.kd et=true->lg aj fr h 0 l.length (.row (cellsOf aj true (l.map dq)) k st et)=some (l.map dq):=fun fr h k st et hro=>jy aj fr h true _ k st et _ (by rw [zzo]) (by cases fr<;>rfl) hro
  simp only [↓wR,zT,simprocAttr,h,rn,dQ,hdr,Qv,cS,hl2,aar,aza]
  try rfl
noncomputable def Rp (x:Name × List aw × Unit):Option AV:=if bj x.1/\vz x.2.1/\x.2.1.length<=1048576/\∀ s ∈ x.2.1,s.data.length<=1048576 then some ((r1 c7).E true (B0 x.1 (we x.2.1))) else none
theorem auf (x:Name × List aw × Unit) (r:AV) (h:Rp x=some r):bo PP 72 ((aC au (aC (bw aj) a0)).E x) r:=by obtain ⟨hc,rfl⟩:=zI h;exact bf (ak.cons (aq aos) (ak.cons (aq v8) (ak.cons (aq aur) (ak.nil PP)))) Tryz.func72 zK zK zK zL (r1 c7) true (B0 x.1 (we x.2.1)) (aA9 x.1 x.2.1 hc.1 hc.2.1 hc.2.2.1 hc.2.2.2)
noncomputable abbrev aKc:zE:=(72,true,dg (aC au (aC (bw aj) a0)) Rp)
noncomputable def O1 (z:cf):cf × Int:=if ox z=0 then (z,0) else (B0 [] [],ox z)
theorem J6 (n:Name) (l:List aw):Is n l=O1 (B0 n (we l)):=rfl
theorem Za {n:Name} {l:List aw} (h:br n+dk og l<=16777216):dj (B0 n (we l)):=by have:=arp l;show br n+dk og (we l)<=16777216;omega
noncomputable def ot {α:Type} (a b : α):Bool:=@decide (a=b) (Classical.propDecidable _)
theorem Fw {α:Type} (a : α):ot a a=true:=by unfold ot;exact @zp _ (Classical.propDecidable _) rfl
theorem mn {α:Type} {a b : α} (h:a≠b):ot a b=false:=by unfold ot;exact @zq _ (Classical.propDecidable _) h
theorem G5 {α:Type} {a b : α} (h:a=b):ot a b=true:=by rw [h];exact Fw b
theorem Bb {α:Type} {a b : α} (h:ot a b=true):a=b:=by unfold ot at h;exact @of_decide_eq_true _ (Classical.propDecidable _) h
theorem ya {α:Type} {a b : α} (h:ot a b=false):a≠b:=fun q=>by rw [q,Fw] at h;cases h
theorem Bi {α:Type} {l m:List α} {i:Nat} {c d : α} (h:l.take i=m.take i) (hc:l[i]? = some c) (hd:m[i]? = some d) (e:c=d):l.take (i+1)=m.take (i+1):=by obtain ⟨h1,rfl⟩:=zg.1 hc;obtain ⟨h2,rfl⟩:=zg.1 hd;rw [zz5 h1,zz5 h2,h,e]
theorem C6 {α:Type} {l m:List α} {i:Nat} (h:l.take i=m.take i) (hi:¬ i<l.length) (hl:l.length=m.length):l=m:=by rwa [zzp zO,zzp zO] at h
theorem Ac {α:Type} {l m:List α} {i:Nat} {c d : α} (hc:l[i]? = some c) (hd:m[i]? = some d) (e:c≠d):l≠m:=fun q=>by rw [q,hd] at hc;cases hc;exact e rfl
theorem Dk {α:Type} {l m:List α} (h:(l.length:Int)≠m.length):l≠m:=fun q=>h (by rw [q])
theorem C4 {α:Type} {l m:List α} {i:Nat} (hl:l.length=m.length) (hi:i<l.length):∃ d,m[i]? = some d:=⟨m[i],zh zO⟩
theorem aiw (a b:Name) (ha:a.length<=16777216):wl PP [] 0 (Tryz.f51.body.getD .skip) (di PP Tryz.f51.results.toList (fun r st=>(r1 bq).get true st.h r=some (ot a b))) (cj 0 [au.val false a,au.val false b]) (ay []):=by
 have hq:∀ a b c d,eh a b c=d->eh a b c=d:=fun _ _ _ _ h=>h
 unfold Tryz.f51;simp only [cr];simp only [↓wR,zT,simprocAttr];rw [de];refine ⟨fun ⟨h,e⟩=>?_,fun ⟨h,e⟩=>?_⟩
 ·simp only [↓wR,zT,simprocAttr,h,mn (Dk e)]
 have hl:a.length=b.length:=zO;simp only [↓wR,zT,simprocAttr,h];refine da [0,1,5] (fun (i:Nat)=>[zn a,zn b,zi i]) (fun _=>[]) (fun i=>i<=a.length/\a.take i=b.take i) (fun i=>a.length - i) 0 ⟨zzb _,rfl⟩ zS zS ?_;rintro i ⟨hi,hx⟩;simp only [↓wR,zT,simprocAttr];rw [az];refine ⟨fun h2=>?_,fun h2=>?_⟩
 ·obtain ⟨c,hc,aH,hlt⟩:=fi (zp h2);obtain ⟨d,hd⟩:=C4 hl hlt;simp only [↓wR,zT,simprocAttr,h2];refine ⟨zK,.inl ?_⟩;simp only [↓wR,zT,simprocAttr,hc,hd];refine ⟨by apply hq;kernel_rfl,?_⟩;by_cases e2:c=d
  ·repeat (first|simp only [↓wR,zT,simprocAttr,zp e2]|simp (disch:=omega) only [zW])
   exact ⟨i+1,⟨hlt,Bi hx hc hd e2⟩,zO,zF⟩
  ·simp only [↓wR,zT,simprocAttr,zq e2,mn (Ac hc hd e2)]
 ·simp only [↓wR,zT,simprocAttr,h2,G5 (C6 hx zO hl)]
noncomputable def Bj (x:Name × Name × Unit):Option AV:=if x.1.length<=16777216 then some ((r1 bq).E true (ot x.1 x.2.1)) else none
theorem Gi (x:Name × Name × Unit) (r:AV) (h:Bj x=some r):bo PP 51 ((aC au (aC au a0)).E x) r:=by obtain ⟨hc,rfl⟩:=zI h;exact bf (ak.nil PP) Tryz.func51 zK zK zK zL (r1 bq) true (ot x.1 x.2.1) (aiw x.1 x.2.1 hc)
noncomputable abbrev afi:zE:=(51,true,dg (aC au (aC au a0)) Bj)
theorem aoq (a b:Name) (ha:a.length<=16777216):wl PP [afi] 0 (Tryz.f16.body.getD .skip) (di PP Tryz.f16.results.toList (fun r st=>(r1 bq).get true st.h r=some (ot a b))) (cj 0 [au.val false a,au.val false b]) (ay []):=by unfold Tryz.f16;simp only [cr];simp only [↓wR,zT,simprocAttr,Bj,ha]
noncomputable def wh (x:Name × Name × Unit):Option AV:=if x.1.length<=16777216 then some ((r1 bq).E true (ot x.1 x.2.1)) else none
theorem Bz (x:Name × Name × Unit) (r:AV) (h:wh x=some r):bo PP 16 ((aC au (aC au a0)).E x) r:=by obtain ⟨hc,rfl⟩:=zI h;exact bf (ak.cons (aq Gi) (ak.nil PP)) Tryz.func16 zK zK zK zL (r1 bq) true (ot x.1 x.2.1) (aoq x.1 x.2.1 hc)
noncomputable abbrev Kq:zE:=(16,true,dg (aC au (aC au a0)) wh)
theorem ah8 (a b:List UInt8):wl PP [] 0 (Tryz.f110.body.getD .skip) (di PP Tryz.f110.results.toList (fun r st=>(r1 bq).get true st.h r=some (ot a b))) (cj 0 [(bw bt).val false a,(bw bt).val false b]) (ay []):=by
 unfold Tryz.f110;simp only [nv];simp only [↓wR,zT,simprocAttr]
 congr 1
 by_cases e:a=b
 ·rw [G5 e,e];exact zp rfl
 ·rw [mn e];exact zq fun q=>e (by injection q with q;simpa using q)
noncomputable def Mo (x:List UInt8 × List UInt8 × Unit):Option AV:=some ((r1 bq).E true (ot x.1 x.2.1))
theorem aa7 (x:List UInt8 × List UInt8 × Unit) (r:AV) (h:Mo x=some r):bo PP 110 ((aC (bw bt) (aC (bw bt) a0)).E x) r:=by cases h;exact bf (ak.nil PP) Tryz.func110 zK zK zK zL (r1 bq) true (ot x.1 x.2.1) (ah8 x.1 x.2.1)
noncomputable abbrev aud:zE:=(110,true,dg (aC (bw bt) (aC (bw bt) a0)) Mo)
theorem I2 {a b:bp} (h:¬ (a.names=b.names/\a.nums=b.nums/\a.texts=b.texts/\a.raw=b.raw)):a≠b:=fun q=>h (by rw [q];exact ⟨rfl,rfl,rfl,rfl⟩)
theorem aFj {a b:bp} (h1:a.names=b.names) (h2:a.nums=b.nums) (h3:a.texts=b.texts) (h4:a.raw=b.raw):a=b:=by cases a;cases b;simp_all
set_option maxHeartbeats 4000000 in
theorem aj6 (a b:bp) (ha:ca a):wl PP [afi,Kq,aud] 0 (Tryz.f63.body.getD .skip) (di PP Tryz.f63.results.toList (fun r st=>(r1 bq).get true st.h r=some (ot a b))) (cj 0 [ai.val false a,ai.val false b]) (ay []):=by
 have mA:=ha.lens;have hq:∀ a b c d,eh a b c=d->eh a b c=d:=fun _ _ _ _ h=>h
 unfold Tryz.f63;simp only [jn];simp only [↓wR,zT,simprocAttr];rw [de];refine ⟨fun ⟨h1,e1⟩=>?_,fun ⟨h1,e1⟩=>?_⟩
 ·simp only [↓wR,zT,simprocAttr,h1,mn (I2 fun q=>Dk e1 q.1)]
 simp only [↓wR,zT,simprocAttr,h1];rw [de];refine ⟨fun ⟨h2,e2⟩=>?_,fun ⟨h2,e2⟩=>?_⟩
 ·simp only [↓wR,zT,simprocAttr,h2,mn (I2 fun q=>Dk e2 q.2.1)]
 simp only [↓wR,zT,simprocAttr,h2,Bj,mA.2.2.1];cases h3:ot a.texts b.texts with
 |false=>simp only [↓wR,zT,simprocAttr,mn (I2 fun q=>ya h3 q.2.2.1)]
 |true=>
 simp only [↓wR,zT,simprocAttr,Mo];cases h4:ot a.raw b.raw with
 |false=>simp only [↓wR,zT,simprocAttr,mn (I2 fun q=>ya h4 q.2.2.2)]
 |true=>
 have bY:a.names.length=b.names.length:=zO;have hl2:a.nums.length=b.nums.length:=zO;simp only [↓wR,zT,simprocAttr];refine da [2,3,5] (fun (i:Nat)=>[.ptr 0 0,.ptr 1 0,zi i]) (fun _=>[some (.row [zv a.names,zu a.nums,zn a.texts,zw a.raw] 0 2 116),some (.row [zv b.names,zu b.nums,zn b.texts,zw b.raw] 0 2 116)]) (fun i=>i<=a.names.length/\a.names.take i=b.names.take i) (fun i=>a.names.length - i) 0 ⟨zzb _,rfl⟩ zS zS ?_;rintro i ⟨hi,hx⟩;simp only [↓wR,zT,simprocAttr];rw [az];refine ⟨fun h5=>?_,fun h5=>?_⟩
 ·obtain ⟨c,hc,aH,hlt⟩:=fi (zp h5);obtain ⟨d,hd⟩:=C4 bY hlt;have hcl:c.length<=16777216:=by have:=(ha.name c (zm hc));have:=(ku c 0).2;unfold bj at *;omega
  simp only [↓wR,zT,simprocAttr,h5];refine ⟨zK,.inl ?_⟩;simp only [↓wR,zT,simprocAttr,hc,hd,wh,hcl];refine ⟨by apply hq;kernel_rfl,?_⟩;cases e6:ot c d with
  |true=>
   repeat (first|simp only [↓wR,zT,simprocAttr]|simp (disch:=omega) only [zW])
   exact ⟨i+1,⟨hlt,Bi hx hc hd (Bb e6)⟩,zO,zF⟩
  |false=>simp only [↓wR,zT,simprocAttr,mn (I2 fun q=>Ac hc hd (ya e6) q.1)]
 have zA:=C6 hx zO bY;simp only [↓wR,zT,simprocAttr,h5];refine da [2,3,6] (fun (i:Nat)=>[.ptr 0 0,.ptr 1 0,zi i]) (fun _=>[some (.row [zv a.names,zu a.nums,zn a.texts,zw a.raw] 0 2 116),some (.row [zv b.names,zu b.nums,zn b.texts,zw b.raw] 0 2 116)]) (fun i=>i<=a.nums.length/\a.nums.take i=b.nums.take i) (fun i=>a.nums.length - i) 0 ⟨zzb _,rfl⟩ zS zS ?_;clear hi hx h5;rintro i ⟨hi,hx⟩;simp only [↓wR,zT,simprocAttr];rw [az];refine ⟨fun h5=>?_,fun h5=>?_⟩
 ·obtain ⟨c,hc,aH,hlt⟩:=fi (zp h5);obtain ⟨d,hd⟩:=C4 hl2 hlt;simp only [↓wR,zT,simprocAttr,h5];refine ⟨zK,.inl ?_⟩;simp only [↓wR,zT,simprocAttr,hc,hd];refine ⟨by apply hq;kernel_rfl,?_⟩;rw [de];refine ⟨fun ⟨h6,e6⟩=>?_,fun ⟨h6,e6⟩=>?_⟩
  ·simp only [↓wR,zT,simprocAttr,h6,mn (I2 fun q=>Ac hc hd (fun q=>e6 (by rw [q])) q.2.1)]
  ·repeat (first|simp only [↓wR,zT,simprocAttr,h6]|simp (disch:=omega) only [zW])
   exact ⟨i+1,⟨hlt,Bi hx hc hd (UInt32.toNat_inj.1 zO)⟩,zO,zF⟩
 ·simp only [↓wR,zT,simprocAttr,h5,G5 (aFj zA (C6 hx zO hl2) (Bb h3) (Bb h4))]
noncomputable def Bh (x:bp × bp × Unit):Option AV:=if ca x.1 then some ((r1 bq).E true (ot x.1 x.2.1)) else none
theorem Nm (x:bp × bp × Unit) (r:AV) (h:Bh x=some r):bo PP 63 ((aC ai (aC ai a0)).E x) r:=by obtain ⟨hc,rfl⟩:=zI h;exact bf (ak.cons (aq Gi) (ak.cons (aq Bz) (ak.cons (aq aa7) (ak.nil PP)))) Tryz.func63 zK zK zK zL (r1 bq) true (ot x.1 x.2.1) (aj6 x.1 x.2.1 hc)
noncomputable abbrev ady:zE:=(63,true,dg (aC ai (aC ai a0)) Bh)
theorem N6 {a b:aw} (h:¬ (a.owner=b.owner/\a.type=b.type/\a.cls=b.cls/\a.b9=b.b9/\a.data=b.data)):a≠b:=fun q=>h (by rw [q];exact ⟨rfl,rfl,rfl,rfl,rfl⟩)
theorem aH0 {a b:aw} (h1:a.owner=b.owner) (h2:a.type=b.type) (h3:a.cls=b.cls) (h4:a.b9=b.b9) (h5:a.data=b.data):a=b:=by cases a;cases b;simp_all
set_option maxHeartbeats 4000000 in
theorem ao0 (a b:aw) (ha:cw a):wl PP [Kq,ady] 0 (Tryz.f27.body.getD .skip) (di PP Tryz.f27.results.toList (fun r st=>(r1 bq).get true st.h r=some (ot a b))) (cj 0 [aj.val false a,aj.val false b]) (ay []):=by
 have dQ:a.owner.length<=16777216:=by have:=ha.owner;have:=(ku a.owner 0).2;unfold bj at *;omega
 have AQ:=ha.data.len;have hq:∀ a b c d,eh a b c=d->eh a b c=d:=fun _ _ _ _ h=>h
 unfold Tryz.f27;simp only [ji];simp only [↓wR,zT,simprocAttr,wh,dQ];cases h1:ot a.owner b.owner with
 |false=>simp only [↓wR,zT,simprocAttr,mn (N6 fun q=>ya h1 q.1)]
 |true=>
 simp only [↓wR,zT,simprocAttr];rw [de];refine ⟨fun ⟨h2,e2⟩=>?_,fun ⟨h2,e2⟩=>?_⟩
 ·simp only [↓wR,zT,simprocAttr,h2,mn (N6 fun q=>e2 (by rw [q.2.1]))]
 simp only [↓wR,zT,simprocAttr,h2];rw [de];refine ⟨fun ⟨h3,e3⟩=>?_,fun ⟨h3,e3⟩=>?_⟩
 ·simp only [↓wR,zT,simprocAttr,h3,mn (N6 fun q=>e3 (by rw [q.2.2.1]))]
 simp only [↓wR,zT,simprocAttr,h3];rw [de];refine ⟨fun ⟨h4,e4⟩=>?_,fun ⟨h4,e4⟩=>?_⟩
 ·simp only [↓wR,zT,simprocAttr,h4,mn (N6 fun q=>e4 (by rw [q.2.2.2.1]))]
 simp only [↓wR,zT,simprocAttr,h4];rw [de];refine ⟨fun ⟨h5,e5⟩=>?_,fun ⟨h5,e5⟩=>?_⟩
 ·simp only [↓wR,zT,simprocAttr,h5,mn (N6 fun q=>Dk e5 q.2.2.2.2)]
 have bY:a.data.length=b.data.length:=zO;simp only [↓wR,zT,simprocAttr,h5];refine da [2,3,5] (fun (i:Nat)=>[.ptr 0 0,.ptr 1 0,zi i]) (fun _=>[(zY a),(zY b)]) (fun i=>i<=a.data.length/\a.data.take i=b.data.take i) (fun i=>a.data.length - i) 0 ⟨zzb _,rfl⟩ zS zS ?_;rintro i ⟨hi,hx⟩;simp only [↓wR,zT,simprocAttr];rw [az];refine ⟨fun h6=>?_,fun h6=>?_⟩
 ·obtain ⟨c,hc,aH,hlt⟩:=fi (zp h6);obtain ⟨d,hd⟩:=C4 bY hlt;have hcs:=ha.data.mem c (zm hc);simp only [↓wR,zT,simprocAttr,h6];refine ⟨zK,.inl ?_⟩;simp only [↓wR,zT,simprocAttr,hc,hd,Bh,hcs];refine ⟨by apply hq;kernel_rfl,?_⟩;cases e7:ot c d with
  |true=>
   repeat (first|simp only [↓wR,zT,simprocAttr]|simp (disch:=omega) only [zW])
   exact ⟨i+1,⟨hlt,Bi hx hc hd (Bb e7)⟩,zO,zF⟩
  |false=>simp only [↓wR,zT,simprocAttr,mn (N6 fun q=>Ac hc hd (ya e7) q.2.2.2.2)]
 ·simp only [↓wR,zT,simprocAttr,h6,G5 (aH0 (Bb h1) (UInt16.toNat_inj.1 zO) (UInt16.toNat_inj.1 zO) (UInt32.toNat_inj.1 zO) (C6 hx zO bY))]
noncomputable def Ht (x:aw × aw × Unit):Option AV:=if cw x.1 then some ((r1 bq).E true (ot x.1 x.2.1)) else none
theorem agh (x:aw × aw × Unit) (r:AV) (h:Ht x=some r):bo PP 27 ((aC aj (aC aj a0)).E x) r:=by obtain ⟨hc,rfl⟩:=zI h;exact bf (ak.cons (aq Bz) (ak.cons (aq Nm) (ak.nil PP))) Tryz.func27 zK zK zK zL (r1 bq) true (ot x.1 x.2.1) (ao0 x.1 x.2.1 hc)
noncomputable abbrev aB6:zE:=(27,true,dg (aC aj (aC aj a0)) Ht)
theorem ahx (a b:List aw) (ha:vz a):wl PP [aB6] 0 (Tryz.f26.body.getD .skip) (di PP Tryz.f26.results.toList (fun r st=>(r1 bq).get true st.h r=some (ot a b))) (cj 0 [(bw aj).val false a,(bw aj).val false b]) (ay []):=by
 have eA:=ha.1;have hq:∀ a b c d,eh a b c=d->eh a b c=d:=fun _ _ _ _ h=>h
 unfold Tryz.f26;simp only [nv];simp only [↓wR,zT,simprocAttr];rw [de];refine ⟨fun ⟨h,e⟩=>?_,fun ⟨h,e⟩=>?_⟩
 ·simp only [↓wR,zT,simprocAttr,h,mn (Dk e)]
 have hl:a.length=b.length:=zO;simp only [↓wR,zT,simprocAttr,h];refine da [0,1,5] (fun (i:Nat)=>[zs a,zs b,zi i]) (fun _=>[]) (fun i=>i<=a.length/\a.take i=b.take i) (fun i=>a.length - i) 0 ⟨zzb _,rfl⟩ zS zS ?_;rintro i ⟨hi,hx⟩;simp only [↓wR,zT,simprocAttr];rw [az];refine ⟨fun h2=>?_,fun h2=>?_⟩
 ·obtain ⟨c,hc,aH,hlt⟩:=fi (zp h2);obtain ⟨d,hd⟩:=C4 hl hlt;have hcs:=ha.2 c (zm hc);simp only [↓wR,zT,simprocAttr,h2];refine ⟨zK,.inl ?_⟩;simp only [↓wR,zT,simprocAttr,hc,hd,Ht,hcs];refine ⟨by apply hq;kernel_rfl,?_⟩;cases e7:ot c d with
  |true=>
   repeat (first|simp only [↓wR,zT,simprocAttr]|simp (disch:=omega) only [zW])
   exact ⟨i+1,⟨hlt,Bi hx hc hd (Bb e7)⟩,zO,zF⟩
  |false=>simp only [↓wR,zT,simprocAttr,mn (Ac hc hd (ya e7))]
 ·simp only [↓wR,zT,simprocAttr,h2,G5 (C6 hx zO hl)]
noncomputable def E7 (x:List aw × List aw × Unit):Option AV:=if vz x.1 then some ((r1 bq).E true (ot x.1 x.2.1)) else none
theorem acq (x:List aw × List aw × Unit) (r:AV) (h:E7 x=some r):bo PP 26 ((aC (bw aj) (aC (bw aj) a0)).E x) r:=by obtain ⟨hc,rfl⟩:=zI h;exact bf (ak.cons (aq agh) (ak.nil PP)) Tryz.func26 zK zK zK zL (r1 bq) true (ot x.1 x.2.1) (ahx x.1 x.2.1 hc)
noncomputable abbrev azp:zE:=(26,true,dg (aC (bw aj) (aC (bw aj) a0)) E7)
def aL3 (r:Sp):Prop:=vz r.answer/\(vz r.authority/\vz r.Ov)
instance (r:Sp):Decidable (aL3 r):=inferInstanceAs (Decidable (_/\_))
theorem vn {W N:Nat}:∀ (rest:List dt) (L a:List aw),(∀ s ∈ L,dk ly s.data+dk jb rest<=W/\s.data.length+rest.length<=N)->dk jb rest<=W->rest.length<=N->fe rest L=(a,0)->a.length<=L.length+rest.length/\∀ s ∈ a,dk ly s.data<=W/\s.data.length<=N
 | [],L,a,h,_,_,e=>by rw [fe] at e;cases e;refine ⟨zza _,fun s hs=>?_⟩;have:=h s hs;simp only [List.length_nil] at this;omega
 |r::rest,L,a,h,hW,hN,e=>by
  have hw:dk jb (r::rest)=ly r.data+dk jb rest+1:=rfl;simp only [List.length_cons] at hN h ⊢;rw [hw] at hW;rw [fe] at e
  split at e
  ·rename_i h1;have:=congrArg (fun x:List aw × Int=>x.2) e;exact absurd this h1
  split at e
  ·rename_i h2;have:=congrArg (fun x:List aw × Int=>x.2) e;exact absurd this h2
  cases hk:ln (jf r) 0 (L.map ef) with
  |none=>
   rw [hk] at e;obtain ⟨q1,q2⟩:=vn (W:=W) (N:=N) rest _ a (fun s hs=>by
    rcases zzq.1 hs with hs|hs
    ·have:=h s hs;rw [hw] at this;omega
    ·simp only [zz0] at hs;subst hs;show ly r.data+0+1+dk jb rest<=W/\1+rest.length<=N;omega) zO zO e
   refine ⟨?_,q2⟩;simp only [za,zyi] at q1;omega
  |some i=>
   rw [hk] at e;simp only at e;cases hs:L[i]? with
   |none=>
    obtain ⟨p,hp,kO⟩:=D6 _ 0 i hk;rw [Nat.zero_add] at hp;subst hp;rw [zzj,hs] at kO;cases kO
   |some s=>
   rw [hs] at e;simp only at e;have cM:=h s (zm hs);rw [hw] at cM
   split at e
   ·obtain ⟨q1,q2⟩:=vn (W:=W) (N:=N) rest _ a (fun x hx=>by
     rcases List.mem_or_eq_of_mem_set hx with q1|q1
     ·have:=h x q1;rw [hw] at this;omega
     ·subst q1;show dk ly s.data+dk jb rest<=W/\s.data.length+rest.length<=N;omega) zO zO e
    rw [List.length_set] at q1;exact ⟨zO,q2⟩
   split at e
   ·have:=congrArg (fun x:List aw × Int=>x.2) e;cases this
   ·obtain ⟨q1,q2⟩:=vn (W:=W) (N:=N) rest _ a (fun x hx=>by
     rcases List.mem_or_eq_of_mem_set hx with q1|q1
     ·have:=h x q1;rw [hw] at this;omega
     ·subst q1;have e1:dk ly (s.data++[r.data])=dk ly s.data+(ly r.data+0+1):=by rw [ux];rfl
      have e2:(s.data++[r.data]).length=s.data.length+1:=by simp
      show dk ly (s.data++[r.data])+dk jb rest<=W/\(s.data++[r.data]).length+rest.length<=N;omega) zO zO e
    rw [List.length_set] at q1;exact ⟨zO,q2⟩
theorem atr {l:List dt} {A:List aw} (hw:dk jb l<=8388608) (hl:l.length<=60) (hS:z7 l A) (e:fe l []=(A,0)):vz A/\A.length<=60/\∀ s ∈ A,s.data.length<=60:=by
 obtain ⟨q1,q2⟩:=vn (W:=8388608) (N:=60) l [] A (fun s hs=>(by cases hs)) hw hl e;simp only [List.length_nil,Nat.zero_add] at q1;refine ⟨⟨zO,fun s hs=>?_⟩,zO,fun s hs=>(q2 s hs).2⟩;have h1:=(hS.ahc s hs).1;have h2:br s.owner<=255:=by
  unfold cg at h1
  split at h1
  ·cases h1
  split at h1
  ·cases h1
  ·omega
 have:=(q2 s hs).1;unfold cw og;omega
theorem ap3 {a b:cf} (h:¬ (a.origin=b.origin/\a.ar=b.ar)):a≠b:=fun q=>h (by rw [q];exact ⟨rfl,rfl⟩)
theorem aFb {a b:cf} (h1:a.origin=b.origin) (h2:a.ar=b.ar):a=b:=by cases a;cases b;simp_all
theorem ajx (a b:cf) (ha:dj a):wl PP [Kq,azp] 0 (Tryz.f18.body.getD .skip) (di PP Tryz.f18.results.toList (fun r st=>(r1 bq).get true st.h r=some (ot a b))) (cj 0 [c7.val false a,c7.val false b]) (ay []):=by
 have h1:=sv ha.origin;unfold Tryz.f18;simp only [nk];simp only [↓wR,zT,simprocAttr,wh,h1];cases h3:ot a.origin b.origin with
 |false=>simp only [↓wR,zT,simprocAttr,mn (ap3 fun q=>ya h3 q.1)]
 |true=>
 simp only [↓wR,zT,simprocAttr,E7,ha.mid];cases h4:ot a.ar b.ar with
 |false=>simp only [↓wR,zT,simprocAttr,mn (ap3 fun q=>ya h4 q.2)]
 |true=>simp only [↓wR,zT,simprocAttr,G5 (aFb (Bb h3) (Bb h4))]
noncomputable def Bp (x:cf × cf × Unit):Option AV:=if dj x.1 then some ((r1 bq).E true (ot x.1 x.2.1)) else none
theorem Nu (x:cf × cf × Unit) (r:AV) (h:Bp x=some r):bo PP 18 ((aC c7 (aC c7 a0)).E x) r:=by obtain ⟨hc,rfl⟩:=zI h;exact bf (ak.cons (aq Bz) (ak.cons (aq acq) (ak.nil PP))) Tryz.func18 zK zK zK zL (r1 bq) true (ot x.1 x.2.1) (ajx x.1 x.2.1 hc)
noncomputable abbrev Lv:zE:=(18,true,dg (aC c7 (aC c7 a0)) Bp)
theorem arq {α:Type} {μ : α->Nat} {y : α}:∀ (l:List α) (i:Nat) (x : α),l[i]? = some x->dk μ (l.set i y) + μ x=dk μ l + μ y
 | [],i,x,h=>by simp at h
 |a::l,0,x,h=>by simp only [List.getElem?_cons_zero,Option.some.injEq] at h;subst h;simp only [List.set_cons_zero,dk,List.foldr_cons];omega
 |a::l,i+1,x,h=>by have ih:=arq (μ:=μ) (y:=y) l i x (by simpa using h);simp only [List.set_cons_succ,dk,List.foldr_cons] at ih ⊢;omega
theorem aAk {n:Name} (h:cg n=0):br n<=255:=by
 unfold cg at h
 split at h
 ·cases h
 split at h
 ·cases h
 ·omega
theorem xz:∀ (rest:List dt) (L a:List aw),fe rest L=(a,0)->dk og a<=dk og L+dk jb rest+260 * rest.length
 | [],L,a,e=>by rw [fe] at e;cases e;simp only [List.length_nil];omega
 |r::rest,L,a,e=>by
  have hw:dk jb (r::rest)=ly r.data+dk jb rest+1:=rfl;rw [hw,List.length_cons];rw [fe] at e
  split at e
  ·rename_i h1;have:=congrArg (fun x:List aw × Int=>x.2) e;exact absurd this h1
  rename_i h1;have yA:=aAk (Decidable.not_not.1 h1)
  split at e
  ·rename_i h2;have:=congrArg (fun x:List aw × Int=>x.2) e;exact absurd this h2
  cases hk:ln (jf r) 0 (L.map ef) with
  |none=>
   rw [hk] at e;have ih:=xz rest _ a e;have h2:=aA0 og L [k6 r.owner r.type r.cls r.b9 [r.data]];have h3:dk og [k6 r.owner r.type r.cls r.b9 [r.data]]=br r.owner+(ly r.data+0+1)+0+1:=rfl;omega
  |some i=>
   rw [hk] at e;simp only at e;cases hs:L[i]? with
   |none=>
    rw [hs] at e;obtain ⟨p,hp,kO⟩:=D6 _ 0 i hk;rw [Nat.zero_add] at hp;subst hp;rw [zzj,hs] at kO;cases kO
   |some s=>
   rw [hs] at e;simp only at e;have hst:=fun y=>arq (μ:=og) (y:=y) L i s hs
   split at e
   ·have ih:=xz rest _ a e;have h3:=hst (k6 s.owner s.type s.cls (m5 s.b9 r.b9) s.data);have h4:og (k6 s.owner s.type s.cls (m5 s.b9 r.b9) s.data)=og s:=rfl;omega
   split at e
   ·have:=congrArg (fun x:List aw × Int=>x.2) e;cases this
   ·have ih:=xz rest _ a e;have h3:=hst (k6 s.owner s.type s.cls (m5 s.b9 r.b9) (s.data++[r.data]));have e1:dk ly (s.data++[r.data])=dk ly s.data+(ly r.data+0+1):=by rw [ux];rfl
    have h4:og (k6 s.owner s.type s.cls (m5 s.b9 r.b9) (s.data++[r.data]))=br s.owner+dk ly (s.data++[r.data]):=rfl;have h5:og s=br s.owner+dk ly s.data:=rfl;omega
noncomputable instance (q:List dt):Decidable (m9 q):=Classical.propDecidable _
noncomputable def pr (n:Name) (l:List dt):cf × Int:=if (fe l []).2=0 then Is n (fe l []).1 else (B0 [] [],(fe l []).2)
theorem aAh (n:Name) (l:List dt) (hg:m9 l) (hn:bj n) (hw:br n+dk jb l+260 * l.length<=16777216):wl PP [aJ4,aKt] 0 (Tryz.f34.body.getD .skip) (di PP Tryz.f34.results.toList (fun r st=>(r2 c7 (bh .i64)).get true st.h r=some (pr n l))) (cj 0 [au.val false n,(bw bu).val false l]) (ay []):=by
 have hq:∀ a b c d,eh a b c=d->eh a b c=d:=fun _ _ _ _ h=>h
 obtain ⟨a,ha⟩:∃ a,a=fe l []:=⟨_,rfl⟩;unfold Tryz.f34;simp only [cr,nv];unfold pr;rw [<- ha];simp only [↓wR,zT,simprocAttr,Sy,if_pos hg,<- ha];rw [de];refine ⟨fun ⟨h2,e2⟩=>?_,fun ⟨h2,e2⟩=>?_⟩
 ·rw [if_neg e2];simp only [↓wR,zT,simprocAttr,h2]
 rw [if_pos zO];have ha2:fe l []=(a.1,0):=by rw [<- ha];exact Prod.ext rfl zO
 have ht:=xz l [] a.1 ha2;obtain ⟨q1,q2⟩:=vn (W:=dk jb l) (N:=l.length) l [] a.1 (fun s hs=>(by cases hs)) (zza _) (zza _) ha2;have h0:dk og ([]:List aw)=0:=rfl;have hlen:=hg.len;simp only [List.length_nil,Nat.zero_add] at q1;have c1:br n+dk og a.1<=16777216:=zO;have c2:a.1.length<=1048576:=zO;have c3:∀ s ∈ a.1,s.data.length<=1048576:=fun s hs=>by have:=(q2 s hs).2;omega
 simp only [↓wR,zT,simprocAttr,h2,Tl,c1,c2,eq_true c3,aar]
noncomputable def I9 (x:Name × List dt × Unit):Option AV:=if m9 x.2.1/\bj x.1/\br x.1+dk jb x.2.1+260 * x.2.1.length<=16777216 then some ((r2 c7 (bh .i64)).E true (pr x.1 x.2.1)) else none
theorem Wb (x:Name × List dt × Unit) (r:AV) (h:I9 x=some r):bo PP 34 ((aC au (aC (bw bu) a0)).E x) r:=by obtain ⟨hc,rfl⟩:=zI h;exact bf (ak.cons (aq au0) (ak.cons (aq aun) (ak.nil PP))) Tryz.func34 zK zK zK zL (r2 c7 (bh .i64)) true (pr x.1 x.2.1) (aAh x.1 x.2.1 hc.1 hc.2.1 hc.2.2)
noncomputable abbrev Zt:zE:=(34,true,dg (aC au (aC (bw bu) a0)) I9)
noncomputable def aDb (z:cf):AV:=if ox z=0 then .gj [.agg [.vl true 1 ((z).origin.map (ah.val false)),.vl true 5 ((z).ar.map (aj.val true))],.sc (.int .i64 0)] else .gj [.agg [.sc (.slice none 0 0),.sc (.slice none 0 0)],zi (ox z)]
theorem alj (z:cf) (hz:dj z):iz PP 71 [.agg [.vl true 1 ((z).origin.map (ah.val false)),.vl true 5 ((z).ar.map (aj.val true))]] (ay []) (fun r st'=>r=aDb z/\st'=ay []):=by
 refine dr _ rfl ?_ (fun r st' h=>h);refine cb (T:=[asp]) (ak.cons (aq aat) (ak.nil PP)) mixed Tryz.func71 rfl zK zK zK zK ?_;unfold Tryz.f71;simp only [↓wR,zT,simprocAttr,B5,hz];unfold aDb;rw [de];refine ⟨fun ⟨h2,e2⟩=>?_,fun ⟨h2,e2⟩=>?_⟩
 ·rw [if_neg e2];simp only [↓wR,zT,simprocAttr,h2,i4,ir,ig]
 ·rw [if_pos zO];simp only [↓wR,zT,simprocAttr,h2,i4,ir,ig]
theorem aBu (n:Name) (l:List dt) (hg:m9 l) (hn:bj n) (hw:br n+dk jb l+260 * l.length<=16777216):wl PP [aKr,aKc] 0 (Tryz.f35.body.getD .skip) (di PP Tryz.f35.results.toList (fun r st=>(r2 c7 (bh .i64)).get true st.h r=some (pr n l))) (cj 0 [au.val false n,(bw bu).val false l]) (ay []):=by
 obtain ⟨a,ha⟩:∃ a,a=fe l []:=⟨_,rfl⟩;unfold Tryz.f35;simp only [cr,nv];unfold pr;rw [<- ha];simp only [↓wR,zT,simprocAttr,S5,if_pos hg,<- ha];rw [de];refine ⟨fun ⟨h2,e2⟩=>?_,fun ⟨h2,e2⟩=>?_⟩
 ·rw [if_neg e2];simp only [↓wR,zT,simprocAttr,h2]
 rw [if_pos zO,J6];have ha2:fe l []=(a.1,0):=by rw [<- ha];exact Prod.ext rfl zO
 have ht:=xz l [] a.1 ha2;obtain ⟨q1,q2⟩:=vn (W:=dk jb l) (N:=l.length) l [] a.1 (fun s hs=>(by cases hs)) (zza _) (zza _) ha2;have h0:dk og ([]:List aw)=0:=rfl;have hlen:=hg.len;simp only [List.length_nil,Nat.zero_add] at q1;have c1:br n+dk og a.1<=16777216:=zO;have c2:a.1.length<=1048576:=zO;have c3:∀ s ∈ a.1,s.data.length<=1048576:=fun s hs=>by have:=(q2 s hs).2;omega
 have c4:vz a.1:=⟨zO,(show zx a.1 by unfold zx;omega).mem⟩;have lF:=Za c1;obtain ⟨z,hz⟩:∃ z,z=B0 n (we a.1):=⟨_,rfl⟩;have aW:=alj z (by rw [hz];exact lF);rw [<- hz];simp only [↓wR,zT,simprocAttr,h2,Rp,hn,c4,c2,eq_true c3,<- hz];refine n6 [] aW (by decide) (by simp only [↓wR,zT,simprocAttr]) (by simp only [↓wR,zT,simprocAttr]) (zB rfl) (by simp only [↓wR,zT,simprocAttr]) (by simp only [↓wR,zT,simprocAttr]) ⟨zB rfl,zB rfl⟩ ?_;unfold aDb O1;by_cases h3:ox z=0
 ·rw [if_pos h3,if_pos h3];simp only [↓wR,zT,simprocAttr,dm,kf,lu,oi,uz]
 ·rw [if_neg h3,if_neg h3];simp only [↓wR,zT,simprocAttr,dm,kf,lu,oi,uz]
noncomputable def Ri (x:Name × List dt × Unit):Option AV:=if m9 x.2.1/\bj x.1/\br x.1+dk jb x.2.1+260 * x.2.1.length<=16777216 then some ((r2 c7 (bh .i64)).E true (pr x.1 x.2.1)) else none
theorem as9 (x:Name × List dt × Unit) (r:AV) (h:Ri x=some r):bo PP 35 ((aC au (aC (bw bu) a0)).E x) r:=by obtain ⟨hc,rfl⟩:=zI h;exact bf (ak.cons (aq asc) (ak.cons (aq auf) (ak.nil PP))) Tryz.func35 zK zK zK zL (r2 c7 (bh .i64)) true (pr x.1 x.2.1) (aBu x.1 x.2.1 hc.1 hc.2.1 hc.2.2)
noncomputable abbrev aEc:zE:=(35,true,dg (aC au (aC (bw bu) a0)) Ri)
theorem rec_eq {a b:dt} (h1:a.owner=b.owner) (h2:a.type=b.type) (h3:a.cls=b.cls) (h4:a.b9=b.b9) (h5:a.data=b.data):a=b:=by cases a;cases b;simp_all
theorem Sr {a b:dt} (h:¬ (a.owner=b.owner/\a.type=b.type/\a.cls=b.cls/\a.b9=b.b9/\a.data=b.data)):a≠b:=fun q=>h (by rw [q];exact ⟨rfl,rfl,rfl,rfl,rfl⟩)
theorem aof (a b:dt) (ha:bj a.owner) (hd:ca a.data):wl PP [Kq,ady] 0 (Tryz.f73.body.getD .skip) (di PP Tryz.f73.results.toList (fun r st=>(r1 bq).get true st.h r=some (ot a b))) (cj 0 [bu.val false a,bu.val false b]) (ay []):=by
 have dQ:a.owner.length<=16777216:=by have:=(ku a.owner 0).2;unfold bj at *;omega
 unfold Tryz.f73;simp only [Ih];simp only [↓wR,zT,simprocAttr,wh,dQ];cases h1:ot a.owner b.owner with
 |false=>simp only [↓wR,zT,simprocAttr,mn (Sr fun q=>ya h1 q.1)]
 |true=>
 simp only [↓wR,zT,simprocAttr];rw [cp];refine ⟨fun ⟨h2,e2⟩=>?_,fun ⟨h2,e2⟩=>?_⟩
 ·simp only [↓wR,zT,simprocAttr,h2];rw [cp];refine ⟨fun ⟨h3,e3⟩=>?_,fun ⟨h3,e3⟩=>?_⟩
  ·simp only [↓wR,zT,simprocAttr,h3];rw [cp];refine ⟨fun ⟨h4,e4⟩=>?_,fun ⟨h4,e4⟩=>?_⟩
   ·simp only [↓wR,zT,simprocAttr,h4,Bh,hd];cases h5:ot a.data b.data with
    |true=>simp only [↓wR,zT,simprocAttr,G5 (rec_eq (Bb h1) (UInt16.toNat_inj.1 zO) (UInt16.toNat_inj.1 zO) (UInt32.toNat_inj.1 zO) (Bb h5))]
    |false=>simp only [↓wR,zT,simprocAttr,mn (Sr fun q=>ya h5 q.2.2.2.2)]
   ·simp only [↓wR,zT,simprocAttr,h4,mn (Sr fun q=>e4 (by rw [q.2.2.2.1]))]
  ·simp only [↓wR,zT,simprocAttr,h3,mn (Sr fun q=>e3 (by rw [q.2.2.1]))]
 ·simp only [↓wR,zT,simprocAttr,h2,mn (Sr fun q=>e2 (by rw [q.2.1]))]
noncomputable def Hh (x:dt × dt × Unit):Option AV:=if bj x.1.owner/\ca x.1.data then some ((r1 bq).E true (ot x.1 x.2.1)) else none
theorem ag5 (x:dt × dt × Unit) (r:AV) (h:Hh x=some r):bo PP 73 ((aC bu (aC bu a0)).E x) r:=by obtain ⟨hc,rfl⟩:=zI h;exact bf (ak.cons (aq Bz) (ak.cons (aq Nm) (ak.nil PP))) Tryz.func73 zK zK zK zL (r1 bq) true (ot x.1 x.2.1) (aof x.1 x.2.1 hc.1 hc.2)
noncomputable abbrev aBn:zE:=(73,true,dg (aC bu (aC bu a0)) Hh)
def Xu (l:List dt):Prop:=l.length<=281474976710656/\∀ r ∈ l,bj r.owner/\ca r.data
instance (l:List dt):Decidable (Xu l):=inferInstanceAs (Decidable (_/\_))
theorem ai8 (a b:List dt) (ha:Xu a):wl PP [aBn] 0 (Tryz.f36.body.getD .skip) (di PP Tryz.f36.results.toList (fun r st=>(r1 bq).get true st.h r=some (ot a b))) (cj 0 [(bw bu).val false a,(bw bu).val false b]) (ay []):=by
 have eA:=ha.1;have hq:∀ a b c d,eh a b c=d->eh a b c=d:=fun _ _ _ _ h=>h
 unfold Tryz.f36;simp only [nv];simp only [↓wR,zT,simprocAttr];rw [de];refine ⟨fun ⟨h,e⟩=>?_,fun ⟨h,e⟩=>?_⟩
 ·simp only [↓wR,zT,simprocAttr,h,mn (Dk e)]
 have hl:a.length=b.length:=zO;simp only [↓wR,zT,simprocAttr,h];refine da [0,1,5] (fun (i:Nat)=>[zr a,zr b,zi i]) (fun _=>[]) (fun i=>i<=a.length/\a.take i=b.take i) (fun i=>a.length - i) 0 ⟨zzb _,rfl⟩ zS zS ?_;rintro i ⟨hi,hx⟩;simp only [↓wR,zT,simprocAttr];rw [az];refine ⟨fun h2=>?_,fun h2=>?_⟩
 ·obtain ⟨c,hc,aH,hlt⟩:=fi (zp h2);obtain ⟨d,hd⟩:=C4 hl hlt;obtain ⟨hcs,uE⟩:=ha.2 c (zm hc);simp only [↓wR,zT,simprocAttr,h2];refine ⟨zK,.inl ?_⟩;simp only [↓wR,zT,simprocAttr,hc,hd,Hh,hcs,uE];refine ⟨by apply hq;kernel_rfl,?_⟩;cases e7:ot c d with
  |true=>
   repeat (first|simp only [↓wR,zT,simprocAttr]|simp (disch:=omega) only [zW])
   exact ⟨i+1,⟨hlt,Bi hx hc hd (Bb e7)⟩,zO,zF⟩
  |false=>simp only [↓wR,zT,simprocAttr,mn (Ac hc hd (ya e7))]
 ·simp only [↓wR,zT,simprocAttr,h2,G5 (C6 hx zO hl)]
noncomputable def Bu (x:List dt × List dt × Unit):Option AV:=if Xu x.1 then some ((r1 bq).E true (ot x.1 x.2.1)) else none
theorem M0 (x:List dt × List dt × Unit) (r:AV) (h:Bu x=some r):bo PP 36 ((aC (bw bu) (aC (bw bu) a0)).E x) r:=by obtain ⟨hc,rfl⟩:=zI h;exact bf (ak.cons (aq ag5) (ak.nil PP)) Tryz.func36 zK zK zK zL (r1 bq) true (ot x.1 x.2.1) (ai8 x.1 x.2.1 hc)
noncomputable abbrev Lf:zE:=(36,true,dg (aC (bw bu) (aC (bw bu) a0)) Bu)
theorem Il:∀ (rest:List dt) (L:List aw),(fe rest L).2≠0->(fe rest L).1=[]
 | [],L,h=>absurd rfl h
 |r::rest,L,h=>by
  rw [fe] at h ⊢;by_cases h1:cg r.owner=0
  case neg=>rw [if_pos h1]
  rw [if_neg (show ¬ cg r.owner≠0 from fun q=>q h1)] at h ⊢;by_cases h2:c8 r.type r.data=0
  case neg=>rw [if_pos h2]
  rw [if_neg (show ¬ c8 r.type r.data≠0 from fun q=>q h2)] at h ⊢;cases hk:ln (jf r) 0 (L.map ef) with
  |none=>
   rw [hk] at h;exact Il rest _ h
  |some i=>
   rw [hk] at h;cases hi:L[i]? with
   |none=>simp only [hi]
   |some s=>
    simp only [hi] at h ⊢;by_cases h3:m6 s.type s.data r.data=true
    ·rw [if_pos h3] at h ⊢;exact Il rest _ h
    ·rw [if_neg h3] at h ⊢;by_cases h4 : 512<=s.data.length
     ·rw [if_pos h4]
     ·rw [if_neg h4] at h ⊢;exact Il rest _ h
theorem az9 {l:List dt} (hw:dk jb l<=8388608) (hl:l.length<=60):vz (fe l []).1/\(fe l []).1.length<=60:=by
 by_cases h:(fe l []).2=0
 ·have e:fe l []=((fe l []).1,0):=Prod.ext rfl h;have hS:=Gu l [] [] _ z7.nil e;rw [List.nil_append] at hS;have:=atr hw hl hS e;exact ⟨this.1,this.2.1⟩
 ·rw [Il l [] h];exact ⟨⟨by simp,fun s hs=>by cases hs⟩,by simp⟩
theorem aa6 {l:List dt} (hg:m9 l):Xu l:=⟨zzu hg.len (by decide),fun r hr=>⟨hg.owner r hr,by
 have h1:jb r<dk jb l:=u3 hr;have h2:=hg.data;unfold ca;unfold jb at *;omega⟩⟩
theorem auy {n:Name} {l:List aw} (h:br n+dk og l<=16777216):dj (Is n l).1:=by
 rw [J6];unfold O1
 split
 ·exact Za h
 ·exact (by decide:dj (B0 [] []))
theorem aC3 (n:Name) (l:List aw):(Is n l).1.ar.length<=l.length:=by
 rw [J6];unfold O1
 split
 ·show (we l).length<=_;unfold we;rw [zzo,fl];exact zza _
 ·exact zzb _
def aue (S:Nat->Prop) (N Nn Nd M:Nat) (w:World) (l:List Value):Prop:=∃ o d,l=[o,d]/\rz S M w .str o/\qw S N w 5 (Q4 S Nn Nd M) d
theorem aou (S:Nat->Prop) (N Nn Nd:Nat):Uq S 2 (aue S N Nn Nd):=by
 rintro m M xx w w' e j0 l l' hM ho hs hj h1 h2 hk ⟨o,d,rfl,hO,hd⟩
 match l',h2 with
 | [o',d'],_=>
  have e1:=(hk 0 o o' rfl rfl).same hs (by decide) hO.slice;have e2:=(hk 1 d d' rfl rfl).same hs (by decide) hd.slice;subst e1 e2;exact ⟨_,_,rfl,hO.qn (by decide) ho,Jg hM ho hd⟩
theorem aFw {S:Nat->Prop} {N b0:Nat} {K:Nat->Nat->Prop} {w:World} {z:cf} {vs:List Value} (hS:∀ b,b0<=b->(∀ j,K b j)->S b) (hz:dj z) (hN:z.ar.length<=N) (hr:bz (gK b0 K) w (c7.cells true z) vs):aue S N 16777216 16777216 16777216 w vs:=by
 have h2:vs.length=2:=hr.1
 match vs,h2,hr with
 | [o,d],_,hr=>
  have ho:Rel (gK b0 K) w (.vl true 1 (z.origin.map (ah.val true))) o:=hr.2 0 _ _ rfl rfl;have hd:Rel (gK b0 K) w (.vl true 5 (z.ar.map (aj.val true))) d:=hr.2 1 _ _ rfl rfl;exact ⟨o,d,rfl,S0 hS hz.origin ho,aFa hS hz.ar.mem hN hd⟩
theorem ao9 {B:dz} {nt L st g a w} (hh:ew B nt L st g a w) {t:Nat} {x y:Value} (h:lk L t = .agg [.sc x,.sc y]):a.tmps.getD t undef = .agg #[x,y]:=by have:=hh.sl.2 t;rw [h] at this;exact this.exact rfl
def xp:ByteArray:=⟨#[108,101,110,116]⟩
def Aq (k:Nat):List AV:=List.replicate k (.sc (.string xp))++List.replicate (3 - k) (.sc (.string ⟨#[]⟩))
theorem ant {k:Nat} (h:k<=3):AV.names.go (Aq k)=[]:=by rcases (show k=0\/k=1\/k=2\/k=3 by omega) with rfl|rfl|rfl|rfl<;>rfl
theorem az2 {k:Nat} (h:k<=3) (τ:Nat->Option Nat):(Aq k).map (AV.cx τ)=Aq k:=by rcases (show k=0\/k=1\/k=2\/k=3 by omega) with rfl|rfl|rfl|rfl<;>rfl
theorem aJq (n:Name):wl PP [] 0 (qd 1 (Tryz.f40.body.getD .skip)) (Ap (fun L st=>L=[(2,.sc (.slice none 0 0)),(0,zn n)]/\st=ay []) Zg) (cj 0 [au.val false n]) (ay []):=by unfold Tryz.f40;simp only [cr];simp only [↓wR,zT,simprocAttr,↓zQ]
theorem aJr (n:Name) (hn:bj n):opsL PP [] (i5 (dp 1 (Tryz.f40.body.getD .skip))) ((i5 (dp 1 (Tryz.f40.body.getD .skip))).toList.take 3) (fun L st=>L=[(7,zi ((n.length:Int)+3)),(6,.sc (.int .i64 n.length)),(5,zn n),(2,.sc (.slice none 0 0)),(0,zn n)]/\st=ay []) [(2,.sc (.slice none 0 0)),(0,zn n)] (ay []):=by have hl:=sv hn;unfold Tryz.f40;have hw:IntKind.i64.wrap ((n.length:Int)+3)=(n.length:Int)+3:=Iv zO zO;simp only [↓wR,zT,simprocAttr,↓zQ,List.take_succ_cons,List.take_zero,hw]
theorem aH3 (n:Name) (hn:bj n):wl PP [] 0 (qd 2 (ia 2 (Tryz.f40.body.getD .skip))) (Ap (fun L st=>lk L 3 = .sl 0 0 (n.length+3) 1/\lk L 0 = zn n/\st.h.get 0=some (.row (n.map (ah.val false)++List.replicate 3 (.sc (.string xp))) 0 0 9)) Zg) [(0,zn n),(3,.sl 0 0 (n.length+3) 1)] (ay [some (.row (List.replicate (n.length+3) (.sc (.string ⟨#[]⟩))) 0 0 9)]):=by
 have hl:=sv hn;unfold Tryz.f40;have zU:(if n.length<=n.length+3 then n.length else n.length+3)=n.length:=if_pos zO;have hdr:List.drop n.length (AV.sc (Value.string ⟨#[]⟩) :: .sc (.string ⟨#[]⟩) :: .sc (.string ⟨#[]⟩)::List.replicate n.length (.sc (.string ⟨#[]⟩)))=[.sc (.string ⟨#[]⟩),.sc (.string ⟨#[]⟩),.sc (.string ⟨#[]⟩)]:=by have e:(AV.sc (Value.string ⟨#[]⟩) :: .sc (.string ⟨#[]⟩) :: .sc (.string ⟨#[]⟩)::List.replicate n.length (.sc (.string ⟨#[]⟩)))=List.replicate (n.length+3) (AV.sc (Value.string ⟨#[]⟩)):=rfl;rw [e,List.drop_replicate,Nat.add_sub_cancel_left];rfl
 have hle:n.length<=n.length+1+1+1:=zO;simp only [↓wR,zT,simprocAttr,↓zQ,zU,zz7,hdr,hle];refine da [0,3,4] (fun (k:Nat)=>[zn n,.sl 0 0 (n.length+3) 1,zi ((n.length+k:Nat))]) (fun k=>[some (.row (n.map (ah.val false)++Aq k) 0 0 9)]) (fun k=>k<=3) (fun k=>3 - k) 0 (by decide) zS (by simp only [↓wR,zT,simprocAttr,Aq]<;>rfl) ?_;intro k hk;have ki:k<3->(Aq k).set k (.sc (.string xp))=Aq (k+1):=fun h=>by rcases (show k=0\/k=1\/k=2 by omega) with rfl|rfl|rfl<;>rfl
 have hcl:(Aq k).length=3:=by unfold Aq;simp;omega
 have dR:k<3->List.take (n.length+k) (n.map (ah.val false)++Aq k)++[.sc (.string ⟨#[108,101,110,116]⟩)]++List.drop (n.length+k+1) (n.map (ah.val false)++Aq k)=n.map (ah.val false)++Aq (k+1):=fun h=>by rw [<- ki h,zzc];have:=(List.set_eq_take_append_cons_drop (l:=n.map (ah.val false)++Aq k) (i:=n.length+k) (a:=AV.sc (.string xp)));rw [if_pos (by rw [za,zzo,hcl];omega)] at this;refine Eq.trans this.symm ?_;rw [List.set_append,if_neg (by rw [zzo];omega),zzo,Nat.add_sub_cancel_left]
 simp only [↓wR,zT,simprocAttr];rw [az];refine ⟨fun h=>?_,fun h=>?_⟩
 ·have h3:k<3:=zO;have hs2:=dR h3;have hb:n.length+k+1<=n.length+(Aq k).length:=zO;have hlt:n.length+k<n.length+1+1+1:=zO;have hN:=ant (show k+1<=3 by omega);have hR:=az2 (show k+1<=3 by omega);have hcast:((n.length+k:Nat):Int)+1=((n.length+(k+1):Nat):Int):=zO
  repeat (first|simp only [↓wR,zT,simprocAttr,h,hlt,hb,hs2,hN,hR,hcast]|simp (disch:=omega) only [zW])
  exact ⟨k+1,zO,zO,rfl,rfl⟩
 ·have hk3:k=3:=zO;subst hk3;simp only [↓wR,zT,simprocAttr,h,↓zQ];rfl
noncomputable def iq (r i:Nat):Oper:=(i5 (dp r (Tryz.f40.body.getD .skip))).toList.getD i ⟨none,.move (.tmp 0),0, "",#[],none⟩
theorem ax0 (n:Name) (hn:bj n):il PP [] (iq 1 3) (eu [(7,zi ((n.length:Int)+3)),(6,.sc (.int .i64 n.length)),(5,zn n),(2,.sc (.slice none 0 0)),(0,zn n)]) (ay [])=some (.sl 0 0 (n.length+3) 1,{ h:=(ay [some (.row (List.replicate (n.length+3) (.sc (.string ⟨#[]⟩))) 0 0 9)]).h,nx:=1,rl:=[],wl:=[0] }):=by have hl:=sv hn;unfold iq Tryz.f40;have c1:(0:Int)<=(n.length:Int)+3:=zO;have c2:((n.length:Int)+3).toNat=n.length+3:=zO;have c3:((n.length:Int)+3) * 16<=140737488355328:=zO;have c4:(n.length:Int)+3<=140737488355328:=zO;have c5:ByteArray.empty=⟨#[]⟩:=rfl;simp only [↓wR,zT,simprocAttr,↓zQ,List.getD_cons_succ,List.getD_cons_zero,c1,c2,c3,c4,c5,Int.le_refl]
theorem Vk:(i5 (dp 1 (Tryz.f40.body.getD .skip))).toList=(i5 (dp 1 (Tryz.f40.body.getD .skip))).toList.take 3++[iq 1 3,iq 1 4]:=zK
theorem U8:(i5 (dp 4 (Tryz.f40.body.getD .skip))).toList=[iq 4 0]++[iq 4 1,iq 4 2]++[iq 4 3,iq 4 4]:=zK
theorem Hk:(iq 1 3).op = .makeSlice 22 (.tmp 7) (.tmp 7)/\(iq 1 3).dst=some 8/\(iq 1 3).guard=none:=⟨zK,zK,zK⟩
theorem Ky:(iq 1 4).op = .assign (.tmp 8)/\(iq 1 4).dst=some 3/\(iq 1 4).guard=none:=⟨zK,zK,zK⟩
theorem Lg:(iq 4 0).op = .move (.tmp 3)/\(iq 4 0).dst=some 23/\(iq 4 0).guard=none:=⟨zK,zK,zK⟩
theorem K0:(iq 4 1).op = .move (.tmp 0)/\(iq 4 1).dst=some 24/\(iq 4 1).guard=none:=⟨zK,zK,zK⟩
theorem Ry:(∃ ats,(iq 4 2).op = .call { callee:=.builtin .len,args:=#[.tmp 24],argTypes:=ats })/\(iq 4 2).dst=some 25/\(iq 4 2).guard=none:=⟨⟨#[22],zK⟩,zK,zK⟩
theorem Lm:(iq 4 3).op = .slice 22 (.tmp 23) none (some (.tmp 25)) none/\(iq 4 3).dst=some 26/\(iq 4 3).guard=none:=⟨zK,zK,zK⟩
theorem Lj:(iq 4 4).op = .assign (.tmp 26)/\(iq 4 4).dst=some 2/\(iq 4 4).guard=none:=⟨zK,zK,zK⟩
theorem aB7 (n:Name) (hn:bj n) (L:SL) (st:St) (h:lk L 24 = zn n):il PP [] (iq 4 2) (eu L) st=some (.sc (.int .i64 n.length),st):=by have hl:=sv hn;unfold iq Tryz.f40;simp only [↓wR,zT,simprocAttr,↓zQ,List.getD_cons_succ,List.getD_cons_zero,h]
theorem auv (n:Name) (hn:bj n) (L:SL) (st:St) (CA:lk L 23 = .sl 0 0 (n.length+3) 1) (uV:lk L 25 = .sc (.int .i64 n.length)):il PP [] (iq 4 3) (eu L) st=some (.sl 0 0 n.length 1,st):=by have hl:=sv hn;have hle:n.length<=n.length+3:=zO;unfold iq Tryz.f40;simp only [↓wR,zT,simprocAttr,↓zQ,List.getD_cons_succ,List.getD_cons_zero,CA,uV,hle,Nat.sub_zero]
theorem apc (n:Name) (L:SL) (uV:lk L 25 = .sc (.int .i64 n.length)):bounds (eu L) (n.length+3) none (some (.tmp 25)) none=some (0,n.length,false):=by have hle:n.length<=n.length+3:=zO;unfold bounds Ic;simp only [↓wR,zT,simprocAttr,uV,hle]
def Ny (n:Name):List Value:=n.map Value.string++List.replicate 3 (.string xp)
def yv (b:Nat) (n:Name):Value:=.slice (some ⟨b,0,none⟩) n.length (n.length+3)
def ak3 (n:Name) (cs:Array Value):Prop:=∀ (i:Nat) v,(Ny n)[i]? = some v->cs[i]? = some v
def ue (n:Name) (b:Nat) (w:World):Prop:=∃ cs,w.heap[b]? = some (.cells cs 9 (0,0))/\ak3 n cs
theorem ac6 (r i:Nat) {ρ:Operand->AV} (h:∀ f args ats,(iq r i).op ≠ .call { callee:=.value f,args:=args,argTypes:=ats }):il PP [] (iq r i) ρ=mono (E9 PP (iq r i) ρ):=by
 unfold il
 split
 ·rename_i q;exact (h _ _ _ q).elim
 ·rfl
theorem akn (n:Name) {i:Nat} {v:Value} (h:(Ny n)[i]? = some v):(n.map (ah.val false)++List.replicate 3 (AV.sc (.string xp)))[i]? = some (.sc v):=by
 have e:n.map (ah.val false)++List.replicate 3 (AV.sc (.string xp))=(Ny n).map AV.sc:=by unfold Ny;rw [zzw,List.map_map];rfl
 rw [e,zzj,h];rfl
theorem atn {B:dz} (aF:B.iw) (hp:B.bg=0) (aL:B.n0<=B.w.heap.size) (hb0:B.b0=B.w.heap.size) {n:Name} (hn:bj n) {g:Gh} {ac:Act} {w:World}
 (hh:ew B (27:Nat) (cj 0 [au.val false n]) (ay []) g ac w):((Tryz.f40.body.getD .skip)).wpIn (fw none) 0 PP (fun ex a' w'=>ex = .ret/\∃ L st g' b cs,ew B (27:Nat) L st g' a' w'/\a'.tmps.getD 2 undef=yv b n/\B.w.heap.size<=b/\w'.heap[b]? = some (.cells cs 9 (0,0))/\ak3 n cs) ac w:=by
 have hl:=sv hn;refine Cz (ak.nil PP) zK aF zO aL (Q:=Ap (fun L st=>L=[(2,.sc (.slice none 0 0)),(0,zn n)]/\st=ay []) Zg) 0 (Tryz.f40.body.getD .skip) zK zK ?_ _ _ g ac w (by rw [hp];exact aJq n) hh;rintro e L1 fg g1 a1 w1 hq gT;cases e with
 |ret=>exact hq.elim
 |exit id=>exact hq.elim
 |normal=>
 obtain ⟨rfl,rfl⟩:=hq;show (ia 1 (Tryz.f40.body.getD .skip)).wpIn (fw none) 0 PP _ a1 w1;refine Hd (yn zK) (wpIn_seq ?_);have iF:dp 1 (Tryz.f40.body.getD .skip) = .region (idC (dp 1 (Tryz.f40.body.getD .skip))) (i5 (dp 1 (Tryz.f40.body.getD .skip))) false:=zK;rw [iF];refine Cb ?_;rw [Vk];have hgd:n5 (27:Nat) (i5 (dp 1 (Tryz.f40.body.getD .skip)))=true:=zK;have bO:sj (27:Nat) (i5 (dp 1 (Tryz.f40.body.getD .skip)))=true:=zK;have hm:∀ o ∈ (i5 (dp 1 (Tryz.f40.body.getD .skip))).toList.take 3++[iq 1 3,iq 1 4],o ∈ i5 (dp 1 (Tryz.f40.body.getD .skip)):=fun o ho=>by rw [<- Vk] at ho;exact Array.mem_toList_iff.1 ho
 refine aBk (ak.nil PP) aF hgd bO (fun o ho=>hm o (zzq.2 (.inl ho))) (aJr n hn) gT ?_;rintro L2 cO g2 a2 w2 ⟨rfl,rfl⟩ bF;have hmk:=ax0 n hn;rw [ac6 1 3 (fun f args ats q=>by rw [Hk.1] at q;cases q)] at hmk;have lY:=(wy hmk).1;have tA:qx PP 22 (eu [(7,zi ((n.length:Int)+3)),(6,.sc (.int .i64 n.length)),(5,zn n),(2,.sc (.slice none 0 0)),(0,zn n)] (.tmp 7)) (eu [(7,zi ((n.length:Int)+3)),(6,.sc (.int .i64 n.length)),(5,zn n),(2,.sc (.slice none 0 0)),(0,zn n)] (.tmp 7)) (ay [])=some (.sl 0 0 (n.length+3) 1,{ h:=(ay [some (.row (List.replicate (n.length+3) (.sc (.string ⟨#[]⟩))) 0 0 9)]).h,nx:=1,rl:=[],wl:=[0] }):=by unfold E9 at lY;rw [Hk.1] at lY;exact lY
 refine ze (ak.nil PP) aF hgd bO (hm _ (by simp)) Hk.2.2 hmk bF (axq (n:=(n.length:Int)+3) (m:=(n.length:Int)+3) Hk.1 (bF.sl.eval _) (bF.sl.eval _) tA rfl rfl) ?_;intro g3 w3 gS;rw [Hk.2.1] at gS ⊢;have e7:(((n.length:Int)+3).toNat)=n.length+3:=zO;rw [e7] at gS ⊢;obtain ⟨b,hb⟩:∃ b,b=w2.heap.size:=⟨_,rfl⟩;rw [<- hb] at gS ⊢;obtain ⟨a3,wS⟩:∃ a3,a3=a2.put (some 8) (.slice (some ⟨b,0,none⟩) (n.length+3) (n.length+3)):=⟨_,rfl⟩;have h8:a3.tmps.getD 8 undef = .slice (some ⟨b,0,none⟩) (n.length+3) (n.length+3):=by rw [wS];have hs:=bF.sl.1.size;exact (Ba (fun d e=>by cases e;rw [hs];decide)).trans (if_pos rfl)
 rw [<- wS] at gS ⊢;have has:mono (E9 PP (iq 1 4) (eu (l8 (some 8) (.sl 0 0 (n.length+3) 1) [(7,zi ((n.length:Int)+3)),(6,.sc (.int .i64 n.length)),(5,zn n),(2,.sc (.slice none 0 0)),(0,zn n)]))) { h:=(ay [some (.row (List.replicate (n.length+3) (.sc (.string ⟨#[]⟩))) 0 0 9)]).h,nx:=1,rl:=[],wl:=[0] }=some (.sl 0 0 (n.length+3) 1,{ h:=(ay [some (.row (List.replicate (n.length+3) (.sc (.string ⟨#[]⟩))) 0 0 9)]).h,nx:=1,rl:=[],wl:=[0] }):=by unfold E9;rw [Ky.1];exact La _ _
 refine ze (ak.nil PP) aF hgd bO (hm _ (by simp)) Ky.2.2 has gS (Kv (.inr Ky.1) (show a3.eval (.tmp 8)=_ from h8)) ?_;intro g4 w4 eV;rw [Ky.2.1] at eV ⊢;refine akg ?_;obtain ⟨a4,wQ⟩:∃ a4,a4=a3.put (some 3) (.slice (some ⟨b,0,none⟩) (n.length+3) (n.length+3)):=⟨_,rfl⟩;have h3:a4.tmps.getD 3 undef = .slice (some ⟨b,0,none⟩) (n.length+3) (n.length+3):=by rw [wQ];have hs:=gS.sl.1.size;exact (Ba (fun d e=>by cases e;rw [hs];decide)).trans (if_pos rfl)
 rw [<- wQ] at eV ⊢;have fZ:ew B (tz 27 [3] a4.tmps) [(0,zn n),(3,.sl 0 0 (n.length+3) 1)] (ay [some (.row (List.replicate (n.length+3) (.sc (.string ⟨#[]⟩))) 0 0 9)]) g4 a4 w4:=by
  refine eV.less (Uk [3] eV.sl.1) (fun t=>?_) rfl (fun _=>rfl);simp only [l8,pq,aJt];by_cases t3 : 3=t
  ·subst t3;exact .inl rfl
  by_cases t0 : 0=t
  ·subst t0;exact .inl rfl
  ·rw [if_neg t0,if_neg t3];exact .inr rfl
 refine Cz (ak.nil PP) zK aF zO aL (nt:=tz 27 [3] a4.tmps) (Q:=Ap (fun L st=>lk L 3 = .sl 0 0 (n.length+3) 1/\lk L 0 = zn n/\st.h.get 0=some (.row (n.map (ah.val false)++List.replicate 3 (.sc (.string xp))) 0 0 9)) Zg) 1 (ia 2 (Tryz.f40.body.getD .skip)) zK (Hu (x:=#[]) zK) ?_ _ _ _ a4 w4 (by rw [hp];exact aH3 n hn) fZ;rintro e L6 mW g6 a6 w6 hq gL;cases e with
 |ret=>exact hq.elim
 |exit id=>exact hq.elim
 |normal=>
 obtain ⟨q3,q0,qo⟩:=hq;have AW:ia (1+1) (ia 2 (Tryz.f40.body.getD .skip))=ia 4 (Tryz.f40.body.getD .skip):=zK;rw [AW];show (ia 4 (Tryz.f40.body.getD .skip)).wpIn (fw none) 0 PP _ a6 w6;have f3:a6.tmps.getD 3 undef = .slice (some ⟨b,0,none⟩) (n.length+3) (n.length+3):=(Br gL.sl.1 (by decide)).trans h3;refine Hd (yn zK) (wpIn_seq ?_);have oT:dp 4 (Tryz.f40.body.getD .skip) = .region (idC (dp 4 (Tryz.f40.body.getD .skip))) (i5 (dp 4 (Tryz.f40.body.getD .skip))) false:=zK;rw [oT];refine Cb ?_;rw [U8];have iU:n5 (tz 27 [3] a4.tmps) (i5 (dp 4 (Tryz.f40.body.getD .skip)))=true:=zK;have iX:sj (tz 27 [3] a4.tmps) (i5 (dp 4 (Tryz.f40.body.getD .skip)))=true:=zK;have hm4:∀ o ∈ [iq 4 0]++[iq 4 1,iq 4 2]++[iq 4 3,iq 4 4],o ∈ i5 (dp 4 (Tryz.f40.body.getD .skip)):=fun o ho=>by rw [<- U8] at ho;exact Array.mem_toList_iff.1 ho
 have hsz:∀ {L st g w} {a:Act},ew B (tz 27 [3] a4.tmps) L st g a w->a.tmps.size=27:=fun h=>h.sl.1.size
 refine ze (ak.nil PP) aF iU iX (hm4 _ (by simp)) Lg.2.2 (r:=lk L6 3) (st':=mW) (by unfold E9;rw [Lg.1];exact La _ _) gL (Kv (.inl Lg.1) (show a6.eval (.tmp 3)=_ from f3)) ?_;intro g7 w7 rJ;rw [Lg.2.1] at rJ ⊢;obtain ⟨a7,wP⟩:∃ a7,a7=a6.put (some 23) (.slice (some ⟨b,0,none⟩) (n.length+3) (n.length+3)):=⟨_,rfl⟩;have s7:a7.tmps.getD 23 undef = .slice (some ⟨b,0,none⟩) (n.length+3) (n.length+3):=by rw [wP];have hs:=hsz gL;exact (Ba (fun d e=>by cases e;rw [hs];decide)).trans (if_pos rfl)
 rw [<- wP] at rJ ⊢;refine ze (ak.nil PP) aF iU iX (hm4 _ (by simp)) K0.2.2 (r:=lk L6 0) (st':=mW) (by unfold E9;rw [K0.1];exact La _ _) rJ (Kv (.inl K0.1) (show a7.eval (.tmp 0)=a7.tmps.getD 0 undef from rfl)) ?_;intro g8 w8 fY;rw [K0.2.1] at fY ⊢;obtain ⟨a8,wO⟩:∃ a8,a8=a7.put (some 24) (a7.tmps.getD 0 undef):=⟨_,rfl⟩;have s8:a8.tmps.getD 23 undef = .slice (some ⟨b,0,none⟩) (n.length+3) (n.length+3):=by rw [wO];have hs:=hsz rJ;exact ((Ba (fun d e=>by cases e;rw [hs];decide)).trans (if_neg (by decide))).trans s7
 rw [<- wO] at fY ⊢;have hlen:=aB7 n hn (l8 (some 24) (lk L6 0) (l8 (some 23) (lk L6 3) L6)) mW (by simp only [l8,pq];exact q0);rw [ac6 4 2 (fun f args ats q=>by obtain ⟨x,hx⟩:=Ry.1;rw [hx] at q;cases q)] at hlen;refine ze (ak.nil PP) aF iU iX (hm4 _ (by simp)) Ry.2.2 hlen fY (aBm fY.cur.ok (fY.cur.free (aF.vw _ _)) fY.sl.eval hlen (by intro q;cases q)) ?_;intro g9 w9 fF;rw [Ry.2.1] at fF ⊢;obtain ⟨a9,wN⟩:∃ a9,a9=a8.put (some 25) (.int .i64 n.length):=⟨_,rfl⟩;have s9:a9.tmps.getD 23 undef = .slice (some ⟨b,0,none⟩) (n.length+3) (n.length+3):=by rw [wN];have hs:=hsz fY;exact ((Ba (fun d e=>by cases e;rw [hs];decide)).trans (if_neg (by decide))).trans s8
 rw [<- wN] at fF ⊢;obtain ⟨L9,rP⟩:∃ L9,L9=l8 (some 25) (.sc (.int .i64 n.length)) (l8 (some 24) (lk L6 0) (l8 (some 23) (lk L6 3) L6)):=⟨_,rfl⟩;have yC:lk L9 23 = .sl 0 0 (n.length+3) 1:=by rw [rP];simp only [l8,pq];exact q3
 have vP:lk L9 25 = .sc (.int .i64 n.length):=by rw [rP];simp only [l8,pq];rfl
 have k3:lk L9 3 = .sl 0 0 (n.length+3) 1:=by rw [rP];simp only [l8,pq];exact q3
 rw [<- rP] at fF;have oH:=auv n hn L9 mW yC vP;rw [ac6 4 3 (fun f args ats q=>by rw [Lm.1] at q;cases q)] at oH;refine ze (ak.nil PP) aF iU iX (hm4 _ (by simp)) Lm.2.2 oH fF (atw (e:=9) (sz:=1) Lm.1 fF.sl.eval (show a9.eval (.tmp 23)=_ from s9) (zza _) zO (apc n L9 vP) zK zK) ?_;intro CD vJ dC;rw [Lm.2.1] at dC ⊢;obtain ⟨mV,qK⟩:∃ mV,mV=a9.put (some 26) (.slice (some ⟨b,0,none⟩) n.length (n.length+3)):=⟨_,rfl⟩;have xS:mV.tmps.getD 26 undef = .slice (some ⟨b,0,none⟩) n.length (n.length+3):=by rw [qK];have hs:=hsz fF;exact (Ba (fun d e=>by cases e;rw [hs];decide)).trans (if_pos rfl)
 rw [<- qK] at dC ⊢;refine ze (ak.nil PP) aF iU iX (hm4 _ (by simp)) Lj.2.2 (r:=.sl 0 0 n.length 1) (st':=mW) (by unfold E9;rw [Lj.1];exact La _ _) dC (Kv (.inr Lj.1) (show mV.eval (.tmp 26)=_ from xS)) ?_;intro CC nS gN;rw [Lj.2.1] at gN ⊢;refine akg ?_;have tX:ia (4+1) (Tryz.f40.body.getD .skip) = .ret:=zK;rw [tX];obtain ⟨jC,qJ⟩:∃ jC,jC=mV.put (some 2) (.slice (some ⟨b,0,none⟩) n.length (n.length+3)):=⟨_,rfl⟩;have xR:jC.tmps.getD 2 undef = .slice (some ⟨b,0,none⟩) n.length (n.length+3):=by rw [qJ];have hs:=hsz dC;exact (Ba (fun d e=>by cases e;rw [hs];decide)).trans (if_pos rfl)
 rw [<- qJ] at gN ⊢;have l3:lk (l8 (some 2) (.sl 0 0 n.length 1) (l8 (some 26) (.sl 0 0 n.length 1) L9)) 3 = .sl 0 0 (n.length+3) 1:=by simp only [l8,pq];exact k3
 obtain ⟨b',cap,cs,e1,e2,e3,e4⟩:=gN.aLt zO l3 qo;have f11:jC.tmps.getD 3 undef = .slice (some ⟨b,0,none⟩) (n.length+3) (n.length+3):=(Br gN.sl.1 (by decide)).trans h3;rw [f11] at e1;cases e1;refine wpIn_ret ⟨rfl,_,_,CC,b,cs,gN.less (Tn gN.sl.1 rfl) (fun _=>.inl rfl) rfl (fun _=>rfl),xR,by rw [<- hb0];exact e2,e3,fun i v hv=>?_⟩;obtain ⟨c,c1,c2⟩:=e4 i _ (akn n hv);rw [c1,c2.exact rfl]
theorem Ly {n:Name} (hn:bj n) {K:Nat->Nat->Prop} {w:World} {v:Value} (hK:∀ b j,K b j->b<w.heap.size) (hrel:bz (gK w.heap.size K) w [au.val false n] [v]) :
 Calls PP 40 #[v] w (fun e w'=>∃ b,e = .returned (yv b n)/\ta w w'/\w.heap.size<=b/\ue n b w'):=by
 refine (anr (body:=(Tryz.f40.body.getD .skip)) (t:=2) (V:=fun b=>yv b n) (et:=9) (Good:=fun _ cs=>ak3 n cs) Tryz.func40 zK zK zL (fun B g a w aF hp hO aL hb0 hh=>atn aF hp aL hb0 hn hh) hK hrel).mono ?_;rintro e w' ⟨b,cs,rfl,q,hb,hc,hg⟩;exact ⟨b,rfl,q,hb,cs,hc,hg⟩
end Go.Proofs.YtjagjbceegbaiaaGreat
end
section
namespace Go.Proofs.YtjagjbceegbaiaaGreat
open Go.Vm Go.RowKit
theorem af2 (l:Name):(l.map (ah.val false)).flatMap AV.cells=l.map (ah.val false):=by
 induction l with
 |nil=>rfl
 |cons a l ih=>rw [List.map_cons,List.flatMap_cons,ih];rfl
theorem Xo {b0:Nat} {K:Nat->Nat->Prop} {n:Name} {b:Nat} {w:World} (h:ue n b w) (hK:∀ j,K b j) {k cap:Nat} (hk:k<=3) (hc:n.length+k<=cap) :
 Rel (gK b0 K) w (au.val false (n++List.replicate k xp)) (.slice (some ⟨b,0,none⟩) (n.length+k) cap):=by
 obtain ⟨cs,h1,h2⟩:=h;have hlen:(n++List.replicate k xp).length=n.length+k:=by simp
 have e:((n++List.replicate k xp).map (ah.val false)).length=n.length+k:=by rw [zzo];exact hlen
 have key:∀ (j:Nat) a,((n++List.replicate k xp).map (ah.val false))[j]? = some a->∃ v,(Ny n)[j]? = some v/\a = .sc v:=by
  intro j a hj;rw [zzj,zzk] at hj;obtain ⟨s,hs,rfl⟩:=hj;refine ⟨.string s,?_,rfl⟩;unfold Ny;by_cases hjn:j<n.length
  ·rw [zzi hjn] at hs;rw [zzi (by rw [zzo];exact hjn),zzj,hs];rfl
  ·rw [zzd zO] at hs;rw [zzd (by rw [zzo];omega),zzo];have hb:=(zg.1 hs).1;simp only [List.length_replicate] at hb;rw [List.getElem?_replicate_of_lt hb] at hs;cases hs;exact List.getElem?_replicate_of_lt zO
 rw [cr];have:=Rel.vl (g:=gK b0 K) (w:=w) false 1 ((n++List.replicate k xp).map (ah.val false)) b 0 cap (fun j=>cs.getD j undef) (fun x hx=>by obtain ⟨s,_,rfl⟩:=zyl.1 hx;rfl) (fun q=>by cases q) (by rw [e];exact hc) (fun j a hj=>?_) (fun j a hj=>?_) (fun q=>by cases q)
 ·rw [e] at this;exact this
 ·rw [af2] at hj;obtain ⟨v,hv,_⟩:=key j a hj;refine ⟨by rw [Nat.zero_add];exact hK j,?_⟩;have:=(zz1.1 (h2 j v hv)).1;rw [Nat.zero_add];exact cell_of h1 this
 ·rw [af2] at hj;obtain ⟨v,hv,rfl⟩:=key j a hj;rw [zze,h2 j v hv];exact .sc _
theorem ue.stay {n:Name} {b:Nat} {w w':World} (h:ue n b w) (q:w'.heap[b]? = w.heap[b]?):ue n b w':=by obtain ⟨cs,h1,h2⟩:=h;exact ⟨cs,q.trans h1,h2⟩
theorem ue.lt {n:Name} {b:Nat} {w:World} (h:ue n b w):b<w.heap.size:=by obtain ⟨cs,h1,h2⟩:=h;exact cd h1
theorem azk {n:Name} {b c:Nat} {w:World} {cap cap':Nat} (hn:n.length+3<=16777216) (hb:ue n b w) (hc:ue n c w) (h1:n.length+3<=cap) (h2:n.length+3<=cap') :
 Calls PP 51 #[.slice (some ⟨b,0,none⟩) (n.length+3) cap,.slice (some ⟨c,0,none⟩) (n.length+3) cap'] w (fun e w'=>e = .returned (.bool true)/\ta w w'):=by
 have hp:=Gi (n++List.replicate 3 xp,n++List.replicate 3 xp,()) _ (if_pos (by simpa using hn));refine (hp.calls zK (K:=fun b _=>b<w.heap.size) (w:=w) (fun _ _ h=>h) (vs:=[.slice (some ⟨b,0,none⟩) (n.length+3) cap,.slice (some ⟨c,0,none⟩) (n.length+3) cap']) ⟨rfl,fun i a v ha hv=>?_⟩).mono ?_
 ·match i,ha,hv with
  |0,ha,hv=>cases ha;cases hv;exact Xo hb (fun _=>hb.lt) (zza _) h1
  |1,ha,hv=>cases ha;cases hv;exact Xo hc (fun _=>hc.lt) (zza _) h2
  |i+2,ha,hv=>cases ha
 ·rintro e w' ⟨v,rfl,q,hr⟩;rw [Fw] at hr;exact ⟨by rw [hr.exact rfl],q⟩
theorem als:Tryz.f52.ntmps=23:=rfl
set_option maxHeartbeats 3200000 in
theorem aa4 {n:Name} {b:Nat} (hs:bj n) (hn:n.length+3<=16777216) {K:Nat->Nat->Prop} {w:World} {v:Value} (hat:ue n b w) (hK:∀ b j,K b j->b<w.heap.size) (hrel:bz (gK w.heap.size K) w [au.val false n] [v]) :
 Calls PP 52 #[yv b n,v] w (fun e w'=>e = .returned (.bool true)/\ta w w'):=by
 obtain ⟨ad,cap,rfl⟩:∃ ad cap,v = .slice ad n.length cap:=by
  have h:=hrel.head;rw [cr] at h;obtain ⟨l,hl⟩:∃ l,l=n.map (ah.val false):=⟨_,rfl⟩;have e:n.length=l.length:=by rw [hl,zzo]
  rw [<- hl] at h;rw [e];cases h with
  |vl _ _ _ b off cap=>exact ⟨_,_,rfl⟩
  |ni=>exact ⟨_,_,rfl⟩
  |xk=>exact ⟨_,_,rfl⟩
 unfold yv;have z1:(0:Int)<=(n.length:Int)+3:=zO;have z2:(n.length:Int)+3<=((n.length+3:Nat):Int):=zO;have z3:((n.length:Int)+3).toNat=n.length+3:=zO;have z4:¬ (n.length:Int)+3<0:=zO;have z5:(n.length:Int)+3<=(n.length:Int)+3:=Int.le_refl _;have z6:IntKind.i64.wrap ((n.length:Int)+3)=(n.length:Int)+3:=Iv zO zO
 go_enter Tryz.func52,als
 go_wp2
 have hrel':bz (gK w.drew.heap.size K) w.drew [au.val false n] [.slice ad n.length cap]:=bz.avm (w:=w) (b0:=w.heap.size) (K:=K) (fun _ h _=>h) (fun _ _ h=>h) (fun _ _ _=>rfl) hrel;have kN:=Ly hs (w:=w.drew) hK hrel';unfold yv at kN
 go_region_held3 (fun w'=>True) (trivial) (first
  |(go_at_call 40;refine kN.mono ?_;rintro e w' ⟨c,rfl,q,hc,hat'⟩)
  |(go_at_call 51;refine (azk hn (hat.stay (q.heap b hat.lt)) hat' (zza _) (zza _)).mono ?_;rintro e w2 ⟨rfl,q2⟩))
 all_goals go_wp2
 all_goals go_ret
 all_goals exact ⟨rfl,⟨zzu q.size q2.size,fun b h=>(q2.heap b (zyd h q.size)).trans (q.heap b h),q2.os.trans q.os,q2.tape.trans q.tape,q2.output.trans q.output⟩⟩
theorem an0:Tryz.f9.ntmps=5:=rfl
theorem acu {n:Name} (hn:bj n) {K:Nat->Nat->Prop} {w:World} {v:Value} (hK:∀ b j,K b j->b<w.heap.size) (hrel:bz (gK w.heap.size K) w [au.val false n] [v]) :
 Calls PP 9 #[v] w (fun e w'=>∃ b,e = .returned (yv b n)/\ta w w'/\w.heap.size<=b/\ue n b w'):=by
 go_enter Tryz.func9,an0
 go_wp2
 refine (Ly hn hK hrel).mono ?_;rintro e w' ⟨b,rfl,q,hb,hat⟩
 go_wp2
 go_ret
 exact ⟨b,rfl,q,hb,hat⟩
theorem anp:Tryz.f19.ntmps=8:=rfl
theorem M7 {n:Name} {b:Nat} (hs:bj n) (hn:n.length+3<=16777216) {K:Nat->Nat->Prop} {w:World} {v:Value} (hat:ue n b w) (hK:∀ b j,K b j->b<w.heap.size) (hrel:bz (gK w.heap.size K) w [au.val false n] [v]) :
 Calls PP 19 #[yv b n,v] w (fun e w'=>e = .returned (.bool true)/\ta w w'):=by
 go_enter Tryz.func19,anp
 go_wp2
 refine (aa4 hs hn hat hK hrel).mono ?_;rintro e w' ⟨rfl,q⟩
 go_wp2
 go_ret
 exact ⟨rfl,q⟩
end Go.Proofs.YtjagjbceegbaiaaGreat
end
section
namespace Go.Proofs.YtjagjbceegbaiaaGreat
open Go.Vm
theorem aiy {n:Name} {l:List dt} (hg:m9 l) (hl:l.length<=60) (sA:dk jb l<=8388608) (hw:br n+dk jb l+260 * l.length<=16777216):dj (pr n l).1/\(pr n l).1.ar.length<=60:=by
 unfold pr;by_cases h:(fe l []).2=0
 ·rw [if_pos h];have e:fe l []=((fe l []).1,0):=Prod.ext rfl h;obtain ⟨q1,q2⟩:=vn (W:=dk jb l) (N:=l.length) l [] (fe l []).1 (fun s hs=>(by cases hs)) (zza _) (zza _) e;have ht:=xz l [] (fe l []).1 e;have h0:dk og ([]:List aw)=0:=rfl;simp only [List.length_nil,Nat.zero_add] at q1;have c1:br n+dk og (fe l []).1<=16777216:=zO;exact ⟨auy c1,zzu (aC3 _ _) (az9 sA hl).2⟩
 ·rw [if_neg h];exact ⟨(by decide:dj (B0 [] [])),zzb _⟩
theorem aL6 (n:Name) (l:List dt) (hg:m9 l):wl PP [] 0 (qd 3 (Tryz.f6.body.getD .skip)) (Ap (fun L st=>l.length<=60/\(aC au (aC (bw bu) (aC (bw bu) a0))).get st.h [lk L 0,lk L 1,lk L 5]=some (n,l,l,())) (di PP Tryz.f6.results.toList (fun r st=>(r1 bq).get true st.h r=some true))) (cj 0 [au.val false n,(bw bu).val false l]) (ay []):=by
 have cG:=hg.len;have hdr:∀ fr h k st et,yc fr st 8 bu.kd et=true->lg bu fr h 0 l.length (.row (cellsOf bu true l) k st et)=some l:=fun fr h k st et hro=>jy bu fr h true _ k st et _ rfl (by cases fr<;>rfl) hro
 unfold Tryz.f6;simp only [nv,cr];simp only [↓wR,zT,simprocAttr,↓zQ];rw [az];refine ⟨fun h1=>?_,fun h1=>?_⟩
 ·simp only [↓wR,zT,simprocAttr,↓zQ,h1]
  try rfl
 have h2:l.length<=60:=zO;simp only [↓wR,zT,simprocAttr,↓zQ,h1];refine n6 [] (agk l hg) (by decide) (by simp only [↓wR,zT,simprocAttr]) (by simp only [↓wR,zT,simprocAttr]) (zB rfl) (by simp only [↓wR,zT,simprocAttr,nv]) (by simp only [↓wR,zT,simprocAttr]) ⟨zB rfl,zB rfl⟩ ?_;simp only [↓wR,zT,simprocAttr,↓zQ,dm,kf,lu,oi,uz,hdr];exact h2
theorem aK0 (n:Name) (l:List dt):opsL PP [] (i5 (dp 3 (Tryz.f6.body.getD .skip))) ((i5 (dp 3 (Tryz.f6.body.getD .skip))).toList.take 1) (fun L st=>(aC au (aC (bw bu) (aC (bw bu) (aC au a0)))).get st.h [lk L 0,lk L 1,lk L 5,lk L 18]=some (n,l,l,n,())) [(0,zn n),(1,zr l),(5,zr l)] (ay []):=by unfold Tryz.f6;simp only [↓wR,zT,simprocAttr,↓zQ,List.take_succ_cons,List.take_zero]
theorem aJx (n:Name) (l:List dt) (v:Value):opsL PP [] (i5 (dp 3 (Tryz.f6.body.getD .skip))) ((i5 (dp 3 (Tryz.f6.body.getD .skip))).toList.drop 2) (fun L st=>(aC au (aC (bw bu) (aC (bw bu) a0))).get st.h [lk L 0,lk L 1,lk L 5]=some (n,l,l,())/\lk L 6 = .sc v) [(0,zn n),(1,zr l),(5,zr l),(19,.sc v)] (ay []):=by unfold Tryz.f6;simp only [↓wR,zT,simprocAttr,↓zQ,List.drop_succ_cons,List.drop_zero]
theorem aL5 (n:Name) (l:List dt) (hg:m9 l) (hn:bj n) (hw:br n+dk jb l+260 * l.length<=16777216):wl PP [Zt] 0 (qd 1 (ia 4 (Tryz.f6.body.getD .skip))) (Ap (fun L st=>(∃ o k,lk L 7 = .ptr o 0/\st.h.get o=some (.row (c7.cells true ((pr n l).1)) (k) 2 26))/\(aC au (aC (bw bu) (aC (bw bu) (aC au (aP c7 (aC (bh .i64) a0)))))).get st.h [lk L 0,lk L 1,lk L 5,lk L 6,lk L 7,lk L 8]=some (n,l,l,n,(pr n l).1,(pr n l).2,())) Zg) [(0,zn n),(1,zr l),(5,zr l),(6,zn n)] (ay []):=by obtain ⟨A,hA⟩:∃ A,A=pr n l:=⟨_,rfl⟩;rw [<- hA];unfold Tryz.f6;simp only [↓wR,zT,simprocAttr,↓zQ,I9,if_pos hg,hn,hw,<- hA];exact ⟨0,0,rfl,rfl⟩
theorem aLq (n:Name) (l:List dt) (z:cf) (e:Int) (hg:m9 l) (hn:bj n) (hw:br n+dk jb l+260 * l.length<=16777216) (hz:pr n l=(z,e)):wl PP [Zt,aEc] 0 (qd 2 (ia 5 (Tryz.f6.body.getD .skip))) (Ap (fun L st=>(∃ o k,lk L 9 = .ptr o 0/\st.h.get o=some (.row (c7.cells true (z)) (k) 2 26))/\(∃ o k,lk L 11 = .ptr o 0/\st.h.get o=some (.row (c7.cells true (z)) (k) 2 26))/\(aC au (aC (bw bu) (aC (bw bu) (aC au (aP c7 (aC (bh .i64) (aP c7 (aC (bh .i64) (aP c7 (aC (bh .i64) a0)))))))))).get st.h [lk L 0,lk L 1,lk L 5,lk L 6,lk L 7,lk L 8,lk L 9,lk L 10,lk L 11,lk L 12]=some (n,l,l,n,z,e,z,e,z,e,())) Zg) [(0,zn n),(1,zr l),(5,zr l),(6,zn n),(7,.ik [zn z.origin,zs z.ar]),(8,.sc (.int .i64 e))] (ay []):=by unfold Tryz.f6;simp only [↓wR,zT,simprocAttr,↓zQ,I9,Ri,if_pos hg,hn,hw,hz];exact ⟨⟨0,0,rfl,rfl⟩,1,0,rfl,rfl⟩
noncomputable def Qz (r i:Nat):Oper:=(i5 (if r=7 then dp 0 (dp 7 (Tryz.f6.body.getD .skip)) else dp r (Tryz.f6.body.getD .skip))).toList.getD i ⟨none,.move (.tmp 0),0, "",#[],none⟩
theorem aKv (n:Name) (l:List dt) (z:cf) (e:Int) (v:Value) (hz:dj z):opsL PP [Lv] (i5 (dp 0 (dp 7 (Tryz.f6.body.getD .skip)))) ((i5 (dp 0 (dp 7 (Tryz.f6.body.getD .skip)))).toList.take 23) (fun L st=>lk L 58 = .sc (.bool false)/\lk L 59 = .sc v/\(aC au a0).get st.h [lk L 60]=some (n,())) [(0,zn n),(6,.sc v),(7,.ik [zn z.origin,zs z.ar]),(8,.sc (.int .i64 e)),(9,.ik [zn z.origin,zs z.ar]),(10,.sc (.int .i64 e)),(11,.ik [zn z.origin,zs z.ar]),(12,.sc (.int .i64 e))] (ay []):=by unfold Tryz.f6;simp only [↓wR,zT,simprocAttr,↓zQ,List.take_succ_cons,List.take_zero,Bp,hz,Fw,bne_self_eq_false]
theorem aK5 (l:List dt) (hg:m9 l):opsL PP [Lf] (i5 (dp 0 (dp 7 (Tryz.f6.body.getD .skip)))) ((i5 (dp 0 (dp 7 (Tryz.f6.body.getD .skip)))).toList.drop 24) (fun L st=>lk L 69 = .sc (.bool false)) [(58,.sc (.bool false)),(61,.sc (.bool true)),(1,zr l),(5,zr l)] (ay []):=by have cN:=aa6 hg;unfold Tryz.f6;simp only [↓wR,zT,simprocAttr,↓zQ,List.drop_succ_cons,List.drop_zero,Bu,cN,Fw]
theorem aKn:wl PP [] 0 (ia 1 (dp 7 (Tryz.f6.body.getD .skip))) (fun e L st=>e = .normal) [(69,.sc (.bool false))] (ay []):=by unfold Tryz.f6;simp only [↓wR,zT,simprocAttr,↓zQ]
theorem afz:(i5 (dp 0 (dp 7 (Tryz.f6.body.getD .skip)))).toList=(i5 (dp 0 (dp 7 (Tryz.f6.body.getD .skip)))).toList.take 23++Qz 7 23::(i5 (dp 0 (dp 7 (Tryz.f6.body.getD .skip)))).toList.drop 24:=zK
theorem aem:(Qz 7 23).guard=some (20,false)/\Dt { Qz 7 23 with guard:=none }=some (some 61,19,[59,60]):=⟨zK,zK⟩
theorem aKk (a b:Value):opsL PP [] (i5 (dp 8 (Tryz.f6.body.getD .skip))) ((i5 (dp 8 (Tryz.f6.body.getD .skip))).toList.take 1) (fun L st=>lk L 70 = .agg [.sc a,.sc b]) [(7,.ik [.sc a,.sc b])] (ay []):=by unfold Tryz.f6;simp only [↓wR,zT,simprocAttr,↓zQ,List.take_succ_cons,List.take_zero]
theorem aKg (n:Name) (l:List dt) (z:cf) (v:Value) (hg:m9 l) (hz:dj z):opsL PP [Lv,Lf] (i5 (dp 9 (Tryz.f6.body.getD .skip))) ((i5 (dp 9 (Tryz.f6.body.getD .skip))).toList.take 11) (fun L st=>lk L 80 = .sc (.bool true)/\lk L 81 = .sc v/\(aC au a0).get st.h [lk L 82]=some (n,())) [(0,zn n),(1,zr l),(5,zr l),(9,.ik [zn z.origin,zs z.ar]),(11,.ik [zn z.origin,zs z.ar]),(6,.sc v)] (ay []):=by have cN:=aa6 hg;unfold Tryz.f6;simp only [↓wR,zT,simprocAttr,↓zQ,List.take_succ_cons,List.take_zero,Bp,hz,Bu,cN,Fw]
theorem aJ6:opsL PP [] (i5 (dp 9 (Tryz.f6.body.getD .skip))) ((i5 (dp 9 (Tryz.f6.body.getD .skip))).toList.drop 12) (fun L st=>lk L 4 = .sc (.bool true)) [(80,.sc (.bool true)),(83,.sc (.bool true))] (ay []):=by unfold Tryz.f6;simp only [↓wR,zT,simprocAttr,↓zQ,List.drop_succ_cons,List.drop_zero]
theorem afl:(i5 (dp 9 (Tryz.f6.body.getD .skip))).toList=(i5 (dp 9 (Tryz.f6.body.getD .skip))).toList.take 11++Qz 9 11::(i5 (dp 9 (Tryz.f6.body.getD .skip))).toList.drop 12:=zK
theorem aeh:(Qz 9 11).guard=some (8,true)/\Dt { Qz 9 11 with guard:=none }=some (some 83,19,[81,82]):=⟨zK,zK⟩
theorem aJh:(di PP Tryz.f6.results.toList (fun r st=>(r1 bq).get true st.h r=some true)) .ret [(4,.sc (.bool true))] (ay []):=by unfold Tryz.f6;simp only [↓wR,zT,simprocAttr]
end Go.Proofs.YtjagjbceegbaiaaGreat
end
namespace Go.Vm
variable [TK]
theorem aeu {n:Nat} {ts:List Nat} {z x y:Array Value} {d:Nat} (h:tk (tz n ts z) x) (hs:y.size=x.size) (hn:∀ t,some d≠some t->y.getD t undef=x.getD t undef) (hd:d ∉ ts):tk (tz n ts z) y:=by refine ⟨by rw [hs];exact h.size,fun p hp=>?_⟩;have h2:=h.fix p hp;obtain ⟨t,ht,rfl⟩:=zyl.1 hp;rw [hn t (fun e=>hd (by cases e;exact ht))];exact h2
theorem Hr {g:Gh} {w:World} {tmps:Array Value} {t:Nat} {x:Value} (h:tmps.getD t undef=x):Rel g w (.sc x) (tmps.getD t undef):=by rw [h];exact .sc _
theorem aej {ops:Array Oper} {L:SL} {gd:Option (Nat × Bool)} {j s:Nat} {b:Bool} (hg:gd=some (j,b)) (hs:yr ops j=s) (hl:lk L s = .sc (.bool b)):guarded ops L gd True False:=by
 subst hg;unfold guarded;simp only [hs,hl];cases b
 ·exact ⟨fun _=>trivial,fun h=>by cases h⟩
 ·exact ⟨fun _=>trivial,fun h=>by cases h⟩
theorem ta.qn {w w':World} (q:ta w w') (S:Nat->Prop) (m:Nat) (xx:Bool):kx S m xx w w':=.quiet S m xx q.size q.os q.tape q.output q.heap
end Go.Vm
section
namespace Go.Proofs.YtjagjbceegbaiaaGreat
open Go.Vm
theorem aF6:ak PP [Zt]:=ak.cons (aq Wb) (ak.nil PP)
theorem aF1:ak PP [Zt,aEc]:=ak.cons (aq Wb) (ak.cons (aq as9) (ak.nil PP))
theorem aG8:ak PP [Lv]:=ak.cons (aq Nu) (ak.nil PP)
theorem aG2:ak PP [Lf]:=ak.cons (aq M0) (ak.nil PP)
theorem aE0:ak PP [Lv,Lf]:=ak.cons (aq Nu) (ak.cons (aq M0) (ak.nil PP))
theorem aJ0 {g:Gh} {w:World} {b:Nat} {cs:Array Value} {e:TypeId} {v c0 c1:Value} (h:w.heap[b]? = some (.cells cs e (0,0))) (hc:cs.toList=[c0,c1]) (hv:v = .pointer (some ⟨b,0,none⟩)) (hK:∀ j,g.K b j):Rel g w (.ik [.sc c0,.sc c1]) v:=by rw [hv];have:=aHh (g:=g) h hK;rw [hc] at this;exact this
set_option maxHeartbeats 8000000 in
theorem aBa {B:dz} (aF:B.iw) (hp:B.bg=0) (hO:∀ b,¬ B.O b) (aL:B.n0<=B.w.heap.size) {n:Name} {l:List dt} (hg:m9 l) (hn:bj n) (hlen:n.length+3<=16777216) (sA:dk jb l<=8388608) (DX:br n<=1048576) {g:Gh} {ac:Act} {w:World}
 (hh:ew B (85:Nat) (cj 0 [au.val false n,(bw bu).val false l]) (ay []) g ac w):((Tryz.f6.body.getD .skip)).wpIn (fw none) 0 PP (Fin B (85:Nat) (di PP Tryz.f6.results.toList (fun r st=>(r1 bq).get true st.h r=some true))) ac w:=by
 refine Cz (ak.nil PP) zK aF zO aL (Q:=Ap (fun L st=>l.length<=60/\(aC au (aC (bw bu) (aC (bw bu) a0))).get st.h [lk L 0,lk L 1,lk L 5]=some (n,l,l,())) (di PP Tryz.f6.results.toList (fun r st=>(r1 bq).get true st.h r=some true))) 2 (Tryz.f6.body.getD .skip) zK zK ?_ _ _ g ac w (by rw [hp];exact aL6 n l hg) hh;rintro e L0 st0 g0 aA w0 hq nH;cases e with
 |ret=>exact ⟨.ret,L0,st0,g0,rfl,hq,nH.cur,nH.sl,nH.uf⟩
 |exit id=>exact hq.elim
 |normal=>
 obtain ⟨tH,fk⟩:=hq;have hw:br n+dk jb l+260 * l.length<=16777216:=zO;have iG:=nH.read (aC au (aC (bw bu) (aC (bw bu) a0))) [0,1,5] fk;have sW:tk (85:Nat) aA.tmps:=Tn nH.sl.1 rfl;show (ia 3 (Tryz.f6.body.getD .skip)).wpIn (fw none) 0 PP _ aA w0;refine Hd (yn zK) (wpIn_seq ?_);have iF:dp 3 (Tryz.f6.body.getD .skip) = .region (idC (dp 3 (Tryz.f6.body.getD .skip))) (i5 (dp 3 (Tryz.f6.body.getD .skip))) false:=zK;rw [iF];refine Cb ?_;have oF:(i5 (dp 3 (Tryz.f6.body.getD .skip))).toList=(i5 (dp 3 (Tryz.f6.body.getD .skip))).toList.take 1++(i5 (dp 3 (Tryz.f6.body.getD .skip))).toList.getD 1 ⟨none,.move (.tmp 0),0, "",#[],none⟩::(i5 (dp 3 (Tryz.f6.body.getD .skip))).toList.drop 2:=zK;have hgd:n5 (85:Nat) (i5 (dp 3 (Tryz.f6.body.getD .skip)))=true:=zK;have bO:sj (85:Nat) (i5 (dp 3 (Tryz.f6.body.getD .skip)))=true:=zK;have hm:∀ o ∈ (i5 (dp 3 (Tryz.f6.body.getD .skip))).toList.take 1++(i5 (dp 3 (Tryz.f6.body.getD .skip))).toList.getD 1 ⟨none,.move (.tmp 0),0, "",#[],none⟩::(i5 (dp 3 (Tryz.f6.body.getD .skip))).toList.drop 2,o ∈ (i5 (dp 3 (Tryz.f6.body.getD .skip))):=fun o ho=>by rw [<- oF] at ho;exact Array.mem_toList_iff.1 ho
 rw [oF];refine az3 (ak.nil PP) (xj w0 aA.defers) hgd bO (fun o ho=>hm o (zzq.2 (.inl ho))) (hm _ (by simp)) (f:=9) (args:=[18]) (d:=some 19) zK zK (aK0 n l) (Ae sW (avg iG)) ?_;intro L1 fg g1 a1 w1 pV gT;have hr1:=gT.read (aC au (aC (bw bu) (aC (bw bu) (aC au a0)))) [0,1,5,18] pV;have M1:rh (fun _=>False) w0 aA.defers a1.defers w1:=(rh.start _ w0 aA.defers).later gT;refine (acu hn (K:=xc w1) (fun _ _ h=>h) (v:=a1.tmps.getD 18 undef) ⟨rfl,fun i a v ha hv=>?_⟩).mono ?_
 ·match i,ha,hv with
  |0,ha,hv=>cases ha;cases hv;exact hr1.2 3 _ _ rfl rfl
  |i+1,ha,hv=>cases ha
 rintro e w2 ⟨b,rfl,q2,hb2,qG⟩;refine ⟨_,rfl,fun a2 mM hs2 aN rL=>?_⟩;have M2:rh (fun _=>False) w0 aA.defers a2.defers w2:=by rw [mM];exact M1.qn (q2.qn _ 0 false)
 have DD:rh (fun _=>False) w1 a1.defers a1.defers w2:=(rh.start _ w1 a1.defers).qn (q2.qn _ 0 false);have lO:=bz.low DD (fun _ _ h=>h) hr1;have sV:tk (85:Nat) a2.tmps:=⟨by rw [hs2];exact gT.sl.1.size,fun p hp=>by cases hp⟩;refine Xi (ak.nil PP) (xj w2 a2.defers) hgd bO (fun o ho=>hm o (zzq.2 (.inr (zyn _ ho)))) (aJx n l (yv b n)) (Ae sV (S4 (fun p hp=>?_))) ?_
 ·simp only [zyb,List.not_mem_nil,or_false] at hp;rcases hp with rfl|rfl|rfl|rfl
  ·show Rel _ _ _ (a2.tmps.getD 0 undef);rw [aN 0 (by decide)];exact lO.2 0 _ _ rfl rfl
  ·show Rel _ _ _ (a2.tmps.getD 1 undef);rw [aN 1 (by decide)];exact lO.2 1 _ _ rfl rfl
  ·show Rel _ _ _ (a2.tmps.getD 5 undef);rw [aN 5 (by decide)];exact lO.2 2 _ _ rfl rfl
  ·exact Hr (rL 19 rfl)
 rintro L3 nU g3 a3 w3 ⟨pU,h6⟩ gS;show (ia 4 (Tryz.f6.body.getD .skip)).wpIn (fw none) 0 PP _ a3 w3;have M3:rh (fun _=>False) w0 aA.defers a3.defers w3:=M2.later gS;have e6:a3.tmps.getD 6 undef=yv b n:=gS.exact h6;have jW:ue n b w3:=qG.stay (gS.cur.base.frame b qG.lt (fun h=>h));have hb3:=jW.lt;have lN:=gS.read (aC au (aC (bw bu) (aC (bw bu) a0))) [0,1,5] pU;have hr3:bz (gK w3.heap.size (xc w3)) w3 [zn n,zr l,zr l,zn n] (([0,1,5,6]).map fun t=>a3.tmps.getD t undef):=by
  refine ⟨rfl,fun i x v hx hv=>?_⟩
  match i,hx,hv with
  |0,hx,hv=>exact lN.2 0 x v hx hv
  |1,hx,hv=>exact lN.2 1 x v hx hv
  |2,hx,hv=>exact lN.2 2 x v hx hv
  |3,hx,hv=>
   cases hx;cases hv;show Rel _ _ _ (a3.tmps.getD 6 undef);rw [e6];have:=Xo (b0:=w3.heap.size) (K:=xc w3) jW (fun _=>hb3) (k:=0) (cap:=n.length+3) (by decide) zO;rw [show n++List.replicate 0 xp=n from zzn n] at this;exact this
  |i+4,hx,hv=>cases hx
 have sU:=Uk [0,1,5,6] gS.sl.1;obtain ⟨z,hzd⟩:∃ z,z=(pr n l).1:=⟨_,rfl⟩;obtain ⟨ee,cC⟩:∃ ee,ee=(pr n l).2:=⟨_,rfl⟩;obtain ⟨hz,nY⟩:=aiy hg tH sA hw;rw [<- hzd] at hz nY;refine Cz aF6 zK (xj w3 a3.defers) (zzb _) (zza _) (nt:=tz 85 [0,1,5,6] a3.tmps) (Q:=Ap (fun L st=>(∃ o k,lk L 7 = .ptr o 0/\st.h.get o=some (.row (c7.cells true (z)) (k) 2 26))/\(aC au (aC (bw bu) (aC (bw bu) (aC au (aP c7 (aC (bh .i64) a0)))))).get st.h [lk L 0,lk L 1,lk L 5,lk L 6,lk L 7,lk L 8]=some (n,l,l,n,z,ee,())) Zg) 0 (ia 4 (Tryz.f6.body.getD .skip)) zK (Hu (x:=#[]) zK) ?_ _ _ _ a3 w3 (by rw [hzd,cC];exact aL5 n l hg hn hw) (Ae sU (avg hr3));rintro e L4 DM g4 a4 w4 hq eV;cases e with
 |ret=>exact hq.elim
 |exit id=>exact hq.elim
 |normal=>
 obtain ⟨⟨o7,k7,h7,oM⟩,pT⟩:=hq;obtain ⟨b7,xC,e7,EA,mI,iE⟩:=eV.box h7 oM;have hr4:=eV.read (aC au (aC (bw bu) (aC (bw bu) (aC au (aP c7 (aC (bh .i64) a0)))))) [0,1,5,6,7,8] pT;have sT:=Uk [0,1,5,6,7,8] eV.sl.1;have tX:ia (0+1) (ia 4 (Tryz.f6.body.getD .skip))=ia 5 (Tryz.f6.body.getD .skip):=zK;rw [tX];show (ia 5 (Tryz.f6.body.getD .skip)).wpIn (fw none) 0 PP _ a4 w4;refine Cz aF1 zK (xj w4 a4.defers) (zzb _) (zza _) (nt:=tz 85 [0,1,5,6,7,8] a4.tmps) (Q:=Ap (fun L st=>(∃ o k,lk L 9 = .ptr o 0/\st.h.get o=some (.row (c7.cells true (z)) (k) 2 26))/\(∃ o k,lk L 11 = .ptr o 0/\st.h.get o=some (.row (c7.cells true (z)) (k) 2 26))/\(aC au (aC (bw bu) (aC (bw bu) (aC au (aP c7 (aC (bh .i64) (aP c7 (aC (bh .i64) (aP c7 (aC (bh .i64) a0)))))))))).get st.h [lk L 0,lk L 1,lk L 5,lk L 6,lk L 7,lk L 8,lk L 9,lk L 10,lk L 11,lk L 12]=some (n,l,l,n,z,ee,z,ee,z,ee,())) Zg) 1 (ia 5 (Tryz.f6.body.getD .skip)) zK (Hu (x:=#[]) zK) ?_ _ _ _ a4 w4 (aLq n l z ee hg hn hw (by rw [hzd,cC])) (Ae sT (avg hr4));rintro e L5 DL g5 a5 w5 hq fZ;cases e with
 |ret=>exact hq.elim
 |exit id=>exact hq.elim
 |normal=>
 obtain ⟨⟨o9,k9,h9,oL⟩,⟨DR,DU,h11,lI⟩,pS⟩:=hq;have kJ:=fZ.read (aC au (aC (bw bu) (aC (bw bu) (aC au (aP c7 (aC (bh .i64) (aP c7 (aC (bh .i64) (aP c7 (aC (bh .i64) a0)))))))))) [0,1,5,6,7,8,9,10,11,12] pS;have sS:=Uk [0,1,5,6,7,8,9,10,11,12] fZ.sl.1;have qD:ia (1+1) (ia 5 (Tryz.f6.body.getD .skip))=ia 7 (Tryz.f6.body.getD .skip):=zK;rw [qD];show (ia 7 (Tryz.f6.body.getD .skip)).wpIn (fw none) 0 PP _ a5 w5;have v6:a5.tmps.getD 6 undef=yv b n:=((Br fZ.sl.1 (by decide)).trans (Br eV.sl.1 (by decide))).trans e6;have qF:ue n b w5:=jW.stay ((fZ.cur.base.frame b (zyd hb3 eV.cur.base.size) (fun h=>h)).trans (eV.cur.base.frame b hb3 (fun h=>h)));refine Hd (yn zK) (wpIn_seq ?_);have hseq:dp 7 (Tryz.f6.body.getD .skip) = .seq (dp 0 (dp 7 (Tryz.f6.body.getD .skip))) (ia 1 (dp 7 (Tryz.f6.body.getD .skip))):=zK;rw [hseq];refine wpIn_seq ?_;have oQ:dp 0 (dp 7 (Tryz.f6.body.getD .skip)) = .region (idC (dp 0 (dp 7 (Tryz.f6.body.getD .skip)))) (i5 (dp 0 (dp 7 (Tryz.f6.body.getD .skip)))) false:=zK;rw [oQ];refine Cb ?_;rw [afz];have pX:n5 (tz 85 [0,1,5,6,7,8,9,10,11,12] a5.tmps) (i5 (dp 0 (dp 7 (Tryz.f6.body.getD .skip))))=true:=zK;have qB:sj (tz 85 [0,1,5,6,7,8,9,10,11,12] a5.tmps) (i5 (dp 0 (dp 7 (Tryz.f6.body.getD .skip))))=true:=zK;have tC:∀ o ∈ (i5 (dp 0 (dp 7 (Tryz.f6.body.getD .skip)))).toList.take 23++Qz 7 23::(i5 (dp 0 (dp 7 (Tryz.f6.body.getD .skip)))).toList.drop 24,o ∈ (i5 (dp 0 (dp 7 (Tryz.f6.body.getD .skip)))):=fun o ho=>by rw [<- afz] at ho;exact Array.mem_toList_iff.1 ho
 refine aab aG8 (xj w5 a5.defers) pX qB (fun o ho=>tC o (zzq.2 (.inl ho))) (tC _ (by simp)) aem.2 zK (aKv n l z ee (yv b n) hz) (Ae sS (S4 (fun p hp=>?_))) (fun L st h=>aej aem.1 zK h.1) ?_
 ·simp only [zyb,List.not_mem_nil,or_false] at hp;rcases hp with rfl|rfl|rfl|rfl|rfl|rfl|rfl|rfl
  ·exact kJ.2 0 _ _ rfl rfl
  ·exact Hr v6
  ·exact kJ.2 4 _ _ rfl rfl
  ·exact kJ.2 5 _ _ rfl rfl
  ·exact kJ.2 6 _ _ rfl rfl
  ·exact kJ.2 7 _ _ rfl rfl
  ·exact kJ.2 8 _ _ rfl rfl
  ·exact kJ.2 9 _ _ rfl rfl
 rintro L6 mW g6 a6 w6 ⟨BZ,BX,BW⟩ gL;show Calls PP _ #[a6.tmps.getD 59 undef,a6.tmps.getD 60 undef] w6 _;rw [gL.exact BX];have uI:ue n b w6:=qF.stay (gL.cur.base.frame b qF.lt (fun h=>h));refine (M7 hn hlen uI (K:=xc w6) (fun _ _ h=>h) (gL.read (aC au a0) [60] BW)).mono ?_;rintro e w7 ⟨rfl,q7⟩;refine ⟨_,rfl,fun a7 qD yQ wB AO=>?_⟩;have pB:tk (tz 85 [0,1,5,6,7,8,9,10,11,12] a5.tmps) a7.tmps:=aeu gL.sl.1 yQ wB (by decide);have xJ:rh (fun _=>False) w5 a5.defers a7.defers w7:=by rw [qD];exact ((rh.start _ w5 a5.defers).later gL).qn (q7.qn _ 0 false)
 have sJ:=bz.low xJ (fun _ _ h=>h) kJ;have tQ:([0,1,5,6,7,8,9,10,11,12]).map (fun t=>a7.tmps.getD t undef)=([0,1,5,6,7,8,9,10,11,12]).map (fun t=>a5.tmps.getD t undef):=J8 pB (by decide);rw [<- tQ] at sJ;refine Xi aG2 (xj w7 a7.defers) pX qB (fun o ho=>tC o (zzq.2 (.inr (zyn _ ho)))) (aK5 l hg) (Ae pB (S4 (fun p hp=>?_))) ?_
 ·simp only [zyb,List.not_mem_nil,or_false] at hp;rcases hp with rfl|rfl|rfl|rfl
  ·exact Hr ((wB 58 (by decide)).trans (gL.exact BZ))
  ·exact Hr (AO 61 rfl)
  ·exact sJ.2 1 _ _ rfl rfl
  ·exact sJ.2 2 _ _ rfl rfl
 intro L8 DK g8 a8 w8 BV fY;show (ia 1 (dp 7 (Tryz.f6.body.getD .skip))).wpIn (fw none) 0 PP _ a8 w8;refine axc (ak.nil PP) zK (xj w8 a8.defers) (zzb _) (zza _) (nt:=tz 85 [0,1,5,6,7,8,9,10,11,12] a5.tmps) (Hu (x:=#[]) zK) ?_ aKn (Ae fY.sl.1 (S4 (fun p hp=>by rw [zz0] at hp;subst hp;exact Hr (fY.exact BV))));rintro e L9 DJ g9 a9 w9 rfl fF;show (ia 8 (Tryz.f6.body.getD .skip)).wpIn (fw none) 0 PP _ a9 w9;have yS:w3.heap.size<=w4.heap.size:=eV.cur.base.size;have oK:w4.heap.size<=w5.heap.size:=fZ.cur.base.size;have yT:w0.heap.size<=w3.heap.size:=M3.size;obtain ⟨S,hS⟩:∃ S:Nat->Prop,S=fun b=>(w3.heap.size<=b/\b<w4.heap.size)\/w5.heap.size<=b:=⟨_,rfl⟩
 obtain ⟨K',hK⟩:∃ K':Nat->Nat->Prop,K'=fun b _=>b<w3.heap.size\/(w4.heap.size<=b/\b<w5.heap.size):=⟨_,rfl⟩
 have rN:∀ b,S b↔(w3.heap.size<=b/\b<w4.heap.size)\/w5.heap.size<=b:=fun b=>by rw [hS]
 have rQ:∀ b j,K' b j↔b<w3.heap.size\/(w4.heap.size<=b/\b<w5.heap.size):=fun b j=>by rw [hK]
 have rO:∀ b,b<w3.heap.size->¬ S b:=fun b h q=>by rcases (rN b).1 q with q|q<;>omega
 have BF:∀ b,b<w0.heap.size->¬ S b:=fun b h=>rO b zO
 have wW:∀ b j,K' b j->b<w5.heap.size/\¬ S b:=fun b j h=>by
  rcases (rQ b j).1 h with h|h
  ·exact ⟨zO,rO b h⟩
  ·exact ⟨h.2,fun q=>by rcases (rN b).1 q with q|q<;>omega⟩
 have wX:∀ b j,K' b j->b<w5.heap.size:=fun b j h=>(wW b j h).1
 have T5:rh S w0 aA.defers a5.defers w5:=((M3.wide (fun b _ h=>h.elim)).later eV).later fZ;have xI:rh S w3 a3.defers a5.defers w5:=((rh.start S w3 a3.defers).later eV).later fZ;have CY:rh S w5 a5.defers a7.defers w7:=xJ.wide (fun b _ h=>h.elim);have N5:rh S w5 a5.defers a9.defers w9:=(CY.later fY).later fF;have T7:rh S w0 aA.defers a7.defers w7:=by rw [qD];exact (T5.later gL).qn (q7.qn _ 0 false)
 have T9:rh S w0 aA.defers a9.defers w9:=(T7.later fY).later fF;have CZ:rh S w3 a3.defers a7.defers w7:=by rw [qD];exact (xI.later gL).qn (q7.qn _ 0 false)
 have N3:rh S w3 a3.defers a9.defers w9:=(CZ.later fY).later fF;have xX:kx S (0+0+0+0+0) true w4 w9:=((((fZ.quiet S 0 true).trans (gL.quiet S 0 true)).trans (q7.qn S 0 true)).trans (fY.quiet S 0 true)).trans (fF.quiet S 0 true);have rZ:bz (gK w5.heap.size K') w5 [zn n,zr l,zr l,.ik [zn z.origin,zs z.ar],.ik [zn z.origin,zs z.ar]] (([0,1,5,9,11]:List Nat).map (fun t=>a5.tmps.getD t undef)):=by
  have AB:([0,1,5,6]).map (fun t=>a5.tmps.getD t undef)=([0,1,5,6]).map (fun t=>a3.tmps.getD t undef):=(J8 fZ.sl.1 (by decide)).trans (J8 eV.sl.1 (by decide));have bJ:bz (gK w5.heap.size K') w5 [zn n,zr l,zr l,zn n] (([0,1,5,6]).map (fun t=>a5.tmps.getD t undef)):=by rw [AB];exact bz.aL7 xI rO (fun b j h=>(rQ b j).2 (.inl h)) hr3
  refine ⟨rfl,fun i x v hx hv=>?_⟩
  match i,hx,hv with
  |0,hx,hv=>exact bJ.2 0 x v hx hv
  |1,hx,hv=>exact bJ.2 1 x v hx hv
  |2,hx,hv=>exact bJ.2 2 x v hx hv
  |3,hx,hv=>cases hx;cases hv;exact fZ.aJw c7 h9 oL oK wX (fun b j h1 h2=>(rQ b j).2 (.inr ⟨h1,h2⟩))
  |4,hx,hv=>cases hx;cases hv;exact fZ.aJw c7 h11 lI oK wX (fun b j h1 h2=>(rQ b j).2 (.inr ⟨h1,h2⟩))
  |i+5,hx,hv=>cases hx
 have DZ:xC.size=2:=by have:=iE.1;rw [zya] at this;exact this.trans rfl
 have BC:aue S 60 16777216 16777216 16777216 w4 xC.toList:=aFw (fun b h hk=>(rN b).2 (.inl ⟨h,hk 0⟩)) hz nY (eV.aEk c7 iE);obtain ⟨EG,iR,yO,BB⟩:=aF3 (aou S 60 16777216 16777216) (by decide) xX mI ap6 iE.1 BC;obtain ⟨va,vb,uC,BK,BD⟩:=id BB;have tR:∀ t ∈ [0,1,5,6,7,8],a9.tmps.getD t undef=a4.tmps.getD t undef:=fun t ht=>((Br fF.sl.1 (by revert ht;revert t;decide)).trans (Br (n:=85) (ts:=[0,1,5,6,7,8]) fZ.sl.1 ht))
 have v7:a9.tmps.getD 7 undef = .pointer (some ⟨b7,0,none⟩):=(tR 7 (by decide)).trans e7;have x6:a9.tmps.getD 6 undef=yv b n:=(Br fF.sl.1 (by decide)).trans v6;have hfw:([0,1,5,9,11]:List Nat).map (fun t=>a9.tmps.getD t undef)=([0,1,5,9,11]:List Nat).map (fun t=>a5.tmps.getD t undef):=J8 fF.sl.1 (by decide);refine ay3 (ak.nil PP) (xj w9 a9.defers) (nt:=tz 85 [0,1,5,6,7,8,9,10,11,12] a5.tmps) (n:=1) zK zK (Hu (x:=#[]) zK) (d:=some 71) (f:=37) (args:=[70]) zK zK (aKk va vb) (Ae fF.sl.1 (S4 (fun p hp=>by rw [zz0] at hp;subst hp;exact aJ0 iR uC v7 (fun j=>cd iR)))) ?_;intro EO xP CD mV vJ BU dC;have nV:=dC.quiet S 0 true;show Calls PP _ #[mV.tmps.getD 70 undef] vJ _;rw [ao9 dC BU];refine (ahu (N:=60) (Nn:=16777216) (Nd:=16777216) (M:=16777216+(0+0+0+0+0)+0) (by decide) (by decide) (fun b hb=>(rN b).2 (.inr (zzu (N5.later dC).size hb))) (BK.qn (by decide) nV) (Jg (by decide) nV BD)).mono ?_;rintro e nS ⟨xW,rfl,lV⟩;refine ⟨xW,rfl,fun jC mN iK _=>?_⟩;have CX:rh S w0 aA.defers jC.defers nS:=by rw [mN];exact (T9.later dC).qn lV
 have DC:rh S w5 a5.defers jC.defers nS:=by rw [mN];exact (N5.later dC).qn lV
 have vD:rh S w3 a3.defers jC.defers nS:=by rw [mN];exact (N3.later dC).qn lV
 have tS:([0,1,5,9,11]:List Nat).map (fun t=>jC.tmps.getD t undef)=([0,1,5,9,11]:List Nat).map (fun t=>a5.tmps.getD t undef):=J8 iK (by decide);have dG:=bz.win DC wW rZ;rw [<- tS] at dG;have y6:jC.tmps.getD 6 undef=yv b n:=(Br iK (by decide)).trans v6;refine Hd (yn zK) (wpIn_seq ?_);have oP:dp 9 (Tryz.f6.body.getD .skip) = .region (idC (dp 9 (Tryz.f6.body.getD .skip))) (i5 (dp 9 (Tryz.f6.body.getD .skip))) false:=zK;rw [oP];refine Cb ?_;rw [afl];have pW:n5 (tz 85 [0,1,5,6,7,8,9,10,11,12] a5.tmps) (i5 (dp 9 (Tryz.f6.body.getD .skip)))=true:=zK;have qA:sj (tz 85 [0,1,5,6,7,8,9,10,11,12] a5.tmps) (i5 (dp 9 (Tryz.f6.body.getD .skip)))=true:=zK;have tB:∀ o ∈ (i5 (dp 9 (Tryz.f6.body.getD .skip))).toList.take 11++Qz 9 11::(i5 (dp 9 (Tryz.f6.body.getD .skip))).toList.drop 12,o ∈ (i5 (dp 9 (Tryz.f6.body.getD .skip))):=fun o ho=>by rw [<- afl] at ho;exact Array.mem_toList_iff.1 ho
 refine aab aE0 (xj nS jC.defers) pW qA (fun o ho=>tB o (zzq.2 (.inl ho))) (tB _ (by simp)) aeh.2 zK (aKg n l z (yv b n) hg hz) (Ae iK (S4 (fun p hp=>?_))) (fun L st h=>aej aeh.1 zK h.1) ?_
 ·simp only [zyb,List.not_mem_nil,or_false] at hp;rcases hp with rfl|rfl|rfl|rfl|rfl|rfl
  ·exact dG.2 0 _ _ rfl rfl
  ·exact dG.2 1 _ _ rfl rfl
  ·exact dG.2 2 _ _ rfl rfl
  ·exact dG.2 3 _ _ rfl rfl
  ·exact dG.2 4 _ _ rfl rfl
  ·exact Hr y6
 rintro EN xO EE xH rT ⟨uU,BS,BR⟩ gM;have qH:ue n b rT:=jW.stay ((vD.later gM).low b hb3 (rO b hb3));show Calls PP _ #[xH.tmps.getD 81 undef,xH.tmps.getD 82 undef] rT _;rw [gM.exact BS];refine (M7 hn hlen qH (K:=xc rT) (fun _ _ h=>h) (gM.read (aC au a0) [82] BR)).mono ?_;rintro e vI ⟨rfl,xZ⟩;refine ⟨_,rfl,fun vB tY sH pE tV=>?_⟩;have pC:tk (tz 85 [0,1,5,6,7,8,9,10,11,12] a5.tmps) vB.tmps:=aeu gM.sl.1 sH pE (by decide);have CW:rh S w0 aA.defers vB.defers vI:=by rw [tY];exact (CX.later gM).qn (xZ.qn S 0 false)
 refine Xi (ak.nil PP) (xj vI vB.defers) pW qA (fun o ho=>tB o (zzq.2 (.inr (zyn _ ho)))) aJ6 (Ae pC (S4 (fun p hp=>?_))) ?_
 ·simp only [zyb,List.not_mem_nil,or_false] at hp;rcases hp with rfl|rfl
  ·exact Hr ((pE 80 (by decide)).trans (gM.exact uU))
  ·exact Hr (tV 83 rfl)
 intro EM xN ED CT xM h4 mJ;have tZ:ia (9+1) (Tryz.f6.body.getD .skip) = .ret:=zK;show (ia (9+1) (Tryz.f6.body.getD .skip)).wpIn (fw none) 0 PP _ CT xM;rw [tZ];exact wpIn_ret (rh.fin hp aF aL nH (CW.later mJ) BF hO (Tn mJ.sl.1 rfl) (mJ.exact h4) (e:=.ret) aJh)
noncomputable def zmF (x:Name × List dt × Unit):Option AV:=open Classical in if (m9 x.2.1/\dk jb x.2.1<=8388608)/\bj x.1/\x.1.length+3<=16777216/\br x.1<=1048576 then some ((r1 bq).E true true) else none
theorem aGb (x:Name × List dt × Unit) (r:AV) (h:zmF x=some r):bo PP 6 ((aC au (aC (bw bu) a0)).E x) r:=by obtain ⟨hc,rfl⟩:=zI h;exact yp (body:=(Tryz.f6.body.getD .skip)) Tryz.func6 zK zK zL (r1 bq) true true (fun B g a w aF hp hO aL hh=>aBa aF hp hO aL hc.1.1 hc.2.1 hc.2.2.1 hc.1.2 hc.2.2.2 hh)
end Go.Proofs.YtjagjbceegbaiaaGreat
end
section
namespace Go.Proofs.YtjagjbceegbaiaaGreat
open Go.Vm
noncomputable section
def muP {α β:Type} (μ : α->Nat) (ν : β->Nat) (p : α × β):Nat:=μ p.1 + ν p.2
def Ia {α:Type} (μ : α->Nat) (l:List α):Nat:=um μ l+1
def Yf {α:Type} (_ : α):Nat:=1
def muI {α β:Type} (f : β -> α) (μ : α->Nat) (y : β):Nat:=μ (f y)+1
def ab4 (P:Program) (t:TypeId):List Field:=match P.underlying t with|some (.struct fs)=>fs.toList|_=>[]
def aHt (l:List Field):Nat:=match l with|f::_=>f.offset | []=>0
def tyH (l:List Field):TypeId:=match l with|f::_=>f.type | []=>0
def aD0 (l:List Field):Bool:=match l with|_::_=>true | []=>false
def aLp (l:List Field):Bool:=match l with | [_]=>true|_=>false
theorem aid {P:Program} {l:List Field} {off:Nat} {t:TypeId} {α:Type} {C:er α} {μ : α->Nat} (hl:aLp l=true) (ho:aHt l=off) (ht:tyH l=t) (hs:P.cellsOf t=C.sz) (h:Rd P t C μ):RdF P l off C μ:=by
 match l,hl with
 | [f],_=>subst ht;exact fun {H}=>aG7 ho hs h
theorem A3 {P:Program} {l:List Field} {off:Nat} {t:TypeId} {α β:Type} {A:er α} {B:er β} {μ : α->Nat} {ν : β->Nat} (hl:aD0 l=true) (ho:aHt l=off) (ht:tyH l=t) (hs:P.cellsOf t=A.sz) (h:Rd P t A μ) (hr:RdF P l.tail (off+A.sz) B ν):RdF P l off (mi A B) (muP μ ν):=by
 match l,hl with
 |f::fs,_=>subst ht;exact fun {H}=>aA5 ho hs h hr
theorem Z4 {P:Program} {t:TypeId} {α β:Type} {C:er α} {μ : α->Nat} {f : β -> α} {i : α -> β} {h1:∀ y,i (f y)=y} {h2:∀ x,f (i x)=x} (ht:aD0 (ab4 P t)=true) (hc:P.cellsOf t=C.sz) (h:RdF P (ab4 P t) 0 C μ):Rd P t (Em C f i h1 h2) (muI f μ):=by
 unfold ab4 at ht h;cases hu:P.underlying t with
 |none=>rw [hu] at ht;cases ht
 |some d=>
  rw [hu] at ht h;cases d with
  |struct fs=>exact fun {H}=>aH8 (ay6 hu hc h)
  |_=>cases ht
theorem Fs {P:Program} {t e:TypeId} {α:Type} {C:er α} {μ : α->Nat} (ht:P.underlying t=some (.slice e)) (hsz:P.cellsOf e=C.sz) (gG : 0<C.sz) (he:Rd P e C μ):Rd P t (bw C) (Ia μ):=aGk ht hsz gG he
def Up (s:ByteArray):Nat:=s.size+1
theorem rdS:Rd PP 9 ah Up:=aHq zK
def xb:Name->Nat:=Ia Up
theorem aj5:Rd PP 23 au xb:=Fs (e:=9) zK zK (by decide) rdS
theorem aG3:Rd PP 22 au xb:=Fs (e:=9) zK zK (by decide) rdS
theorem aE9:Rd PP 51 (bw au) (Ia xb):=Fs (e:=23) zK zK (by decide) aj5
theorem aI4:Rd PP 113 (bw cy) (Ia Yf):=Fs (e:=60) zK zK (by decide) (ayj zK)
theorem aKy:Rd PP 114 (bw bt) (Ia Yf):=Fs (e:=5) zK zK (by decide) (aJ5 zK)
def Yv (d:bp):Nat:=Ia xb d.names+(Ia Yf d.nums+(xb d.texts+Ia Yf d.raw))+1
theorem aIr:Rd PP 116 ai Yv:=
 Z4 zK zK (A3 zK zK zK zK aE9 (A3 zK zK zK zK aI4 (A3 zK zK zK zK aG3 (aid zK zK zK zK aKy))))
theorem aIz:Rd PP 50 ct Yf:=aw3 zK
theorem aF7:Rd PP 59 ct Yf:=aw3 zK
theorem aKx:Rd PP 60 cy Yf:=ayj zK
theorem Tx (n:Name):br n=xb n:=by
 suffices h:∀ (n:Name) (k:Nat),n.foldl (fun k s=>k+(s.size+1)) k=k+um Up n by have:=h n 1;simp only [br,xb,Ia];omega
 intro n
 induction n with
 |nil=>intro k;rfl
 |cons a n ih=>intro k;rw [List.foldl_cons,ih];simp only [um,Up];omega
theorem abt {α:Type} {f μ : α->Nat} {c:Nat} {l:List α} (h:∀ x,f x+1<=c * μ x):dk f l<=c * um μ l:=by
 induction l with
 |nil=>simp [dk,um]
 |cons a l ih=>
  have:=h a;simp only [dk,List.foldr_cons,um,Nat.mul_add] at ih ⊢;omega
theorem ap8 {α:Type} (l:List α):um Yf l=l.length:=by
 induction l with
 |nil=>rfl
 |cons a l ih=>simp only [um,ih,Yf,List.length_cons];omega
theorem aEu (d:bp):ly d+1<=3 * Yv d:=by have h1:=abt (f:=br) (μ:=xb) (c:=2) (l:=d.names) (fun n=>by rw [Tx];simp only [xb,Ia];omega);have h2:=abt (f:=ByteArray.size) (μ:=Up) (c:=1) (l:=d.texts) (fun n=>by unfold Up;omega);have h3:=ap8 d.nums;have h4:=ap8 d.raw;simp only [ly,Yv,xb,Ia] at *;omega
theorem Yn {n:Name} (h:xb n<=1048576):bj n:=by unfold bj;rw [Tx];omega
def Ax (r:dt):Nat:=xb r.owner+(1+(1+(1+Yv r.data)))+1
theorem aKe:Rd PP 124 bu Ax:=
 Z4 zK zK (A3 zK zK zK zK aj5 (A3 zK zK zK zK aIz (A3 zK zK zK zK aF7 (A3 zK zK zK zK aKx (aid zK zK zK zK aIr)))))
theorem aIx:Rd PP 85 (bw bu) (Ia Ax):=Fs (e:=124) zK zK (by decide) aKe
abbrev aqb:er (List dt):=bw bu
abbrev ay4:List dt->Nat:=Ia Ax
theorem aGo (l:List dt):dk jb l<=3 * um Ax l:=abt (c:=3) (fun r=>by have h1:=aEu r.data;simp only [jb,Ax];omega)
theorem axf {l:List dt} (h:Ia Ax l<=1048576):m9 l/\dk jb l<=8388608:=by
 have h1:=aGo l;have h2:∀ (m:List dt),m.length<=um Ax m/\∀ r ∈ m,Ax r<=um Ax m:=fun m=>by
  induction m with
  |nil=>exact ⟨zza _,fun r hr=>(by cases hr)⟩
  |cons a m ih=>
   simp only [um,List.length_cons];have : 1<=Ax a:=by unfold Ax;omega
   refine ⟨zO,fun r hr=>?_⟩;rcases zyb.1 hr with rfl|hr
   ·omega
   ·have:=ih.2 r hr;omega
 simp only [Ia] at h;refine ⟨⟨fun r hr=>?_,zO,by have:=(h2 l).1;omega⟩,zO⟩;have h3:=(h2 l).2 r hr;refine Yn ?_;have h4:xb r.owner<=Ax r:=by unfold Ax;omega
 omega
end
end Go.Proofs.YtjagjbceegbaiaaGreat
end
section
namespace Go.Proofs.YtjagjbceegbaiaaGreat
open Go.Vm Go.ChangeShapes Go.WideShapes Go.ChangeAt
mutual
theorem Zp {H:Type}:∀ d:DataW H,Rows.uptoBulk d=qc d
 |.lit l=>by cases l<;>simp only [Rows.uptoBulk,qc]
 |.nil=>by simp only [Rows.uptoBulk,qc]
 |.ptr d=>by simp only [Rows.uptoBulk,qc,Zp d]
 |.slice a b=>by simp only [Rows.uptoBulk,qc,Tg a,Tg b]
 |.agg a=>by simp only [Rows.uptoBulk,qc,Tg a]
 |.iface _ d=>by simp only [Rows.uptoBulk,qc,Zp d]
 |.map e=>by simp only [Rows.uptoBulk,qc,awq e]
 |.held _=>by simp only [Rows.uptoBulk,qc]
theorem Tg {H:Type}:∀ l:List (DataW H),Rows.uptoBulkAll l=re l
 | []=>by simp only [Rows.uptoBulkAll,re]
 |d::r=>by simp only [Rows.uptoBulkAll,re,Zp d,Tg r]
theorem awq {H:Type}:∀ l:List (Lit × DataW H),Rows.uptoBulkEntries l=Z8 l
 | []=>by simp only [Rows.uptoBulkEntries,Z8]
 |x::r=>by simp only [Rows.uptoBulkEntries,Z8,aIh x,awq r]
theorem aIh {H:Type}:∀ x:Lit × DataW H,Rows.uptoBulkEntry x=auw x
 |(l,d)=>by cases l<;>simp only [Rows.uptoBulkEntry,auw,Zp d]
end
theorem axh {H:Type} {l:List (DataW H)} (h:Rows.uptoSmall H l=true):re l<=1048576:=by
 have:=of_decide_eq_true h
 rwa [Tg] at this
theorem au2 {H:Type} {enc:TypeId × Value->H} {C:Checked} {os:Os} {f:FuncId} {fn:Func} {s:OpenSpec} {k:(H:Type)->List (DataW H)->Bool} (hk:s.cond=some k) {conds:List PathCond} {apart:Bool} (modest:Bool) (i:Input) (fuel:Nat)
 (hv:(World.plainHolding C.prog os i).variablesB C.prog=true)
 (hr:((World.plainHolding C.prog os i).heap.toList.drop C.prog.globals.size).take ((begin C.prog (fun _ _=>0) default).world.heap.size - C.prog.globals.size) =
  (begin C.prog (fun _ _=>0) default).world.heap.toList.drop C.prog.globals.size)
 (aB:Input.okWideB C.prog (World.plainHolding C.prog os i) f ⟨#[],i.args,[]⟩=true)
 (hx:(match DataW.whole enc C.prog (World.plainHolding C.prog os i).memory fn.params.toList s.vars apart i.args.toList fuel with
  |some x=>conds.all (PathCond.test C.prog ⟨fn.params.toList,x.1,s.bare.plain.varTypes C.prog,x.2.1⟩) && k H (x.1++x.2.1)
  |none=>false)=true)
 (hsz:s.bare.sizedB enc C.prog fn apart (World.plainHolding C.prog os i).memory i.args fuel=true) :
 ∃ (w:World) (tape:Tape) (i:Input),w.os=os/\(w.forCall tape i).Shaped C.prog/\i.vars=[]/\Input.okWide C.prog (w.forCall tape i) .any w.heap.size f i /\
  s.pre6 enc C.prog fn conds apart (w.forCall tape i).memory i.args/\({ modest:=modest }:Assume).holds C.prog (lone (Frame.enter C.prog f i.args .normal) [] (w.forCall tape i)):=by
 cases hd:DataW.whole enc C.prog (World.plainHolding C.prog os i).memory fn.params.toList s.vars apart i.args.toList fuel with
 |none=>rw [hd] at hx;cases hx
 |some x=>
  rw [hd] at hx;simp only [zzh] at hx;exact OpenSpec.witness hk modest i fuel hv hr aB hd hx.1 hx.2 hsz
end Go.Proofs.YtjagjbceegbaiaaGreat
end
section
namespace Go.Proofs.YtjagjbceegbaiaaGreat.zoneMakes
open Go.Vm Go.ChangeShapes Go.WideShapes Go.ChangeAt
theorem aAu (x:Name × List dt × Unit) (h:(xb x.1+(ay4 x.2.1+0))<=1048576):bo PP 6 ((aC au (aC aqb a0)).E x) (.sc (.bool true)):=
 aGb x _ (by unfold zmF;exact if_pos ⟨axf (by have h3:Ia Ax x.2.1=ay4 x.2.1:=rfl;omega),Yn zO,by have h1:=(ku x.1 0).2;rw [Tx] at h1;omega,by rw [Tx];omega⟩)
theorem own:ownKnob PP.godebug=none:=zK
theorem aFp:PP.underlying 4=some .bool:=zK
theorem lifted (os:Os) (started:os.Started) (H:Type) (enc:TypeId × Value->H) (F:Stop.Interp) :
 ReturnsInHanded {} Tryz.checked os 6 .any ((Rows.OpenSpec.upto Rows.zoneMakesSpec).pre6 enc Tryz.prog Tryz.f6 Rows.zoneMakesUptoRow.domain false) (((Rows.OpenSpec.upto Rows.zoneMakesSpec).at F).post enc Tryz.prog Tryz.f6 false true false false):=by
 refine returnsInHanded_of_cond (C:=Tryz.checked) (k:=Rows.uptoSmall) rfl own started zK Tryz.func6
  (au2 (enc:=enc) (C:=Tryz.checked) rfl false ⟨#[],Tryz.f6.params.map fun t=>((PP.info? t).bind (·.zero)).getD undef,[]⟩ 8 zK zK zK zK zK) ?_
 intro W base args ds gs before hval hW _ hk _;exact aC1 zK zK (ag2 zK) (tb:=4) zK rfl zK aFp (atx zK)
  (fun H ds hl=>by match ds,(show ds.length=2 from hl) with | [_,_],_=>rfl) (A:=(aC au (aC aqb a0))) (ah4 zK aj5 (ah4 zK aIx (aGi PP))) (N:=some 1048576) (fun x hx=>aAu x (hx _ rfl)) enc W base args ds gs before hval hW (fun n hn=>by cases hn;exact axh hk)
theorem over:Rows.zoneMakesUptoRow.holds Tryz.pinned (Rows.OpenSpec.upto Rows.zoneMakesSpec):=
 OpenClaim.holds_of_cond 6 Tryz.f6 rfl rfl rfl rfl rfl rfl rfl ⟨rfl,rfl,rfl,rfl,rfl⟩ rfl rfl rfl rfl rfl zK Tryz.func6 zK
  (of_decide_eq_true zK) (by unfold Func.isWrapper;first|(rw [if_pos (by decide +kernel)];kernel_rfl)|(rw [if_neg (by decide +kernel)];exact ⟨rfl,rfl⟩))
  (fun os started H enc _ F=>lifted os started H enc F)
theorem proved : Rows.ZoneMakesUptoSaid := over
end Go.Proofs.YtjagjbceegbaiaaGreat.zoneMakes
end
