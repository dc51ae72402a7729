/- Proved: where the arguments are together of bulk at most 1048576, the law AnswerReplies returns true (what a zone answers to a name and a type), and what it was given reads afterwards as it did before. No other conditions. -/
import Derived.Test.YtjagjbceegbaiaaGreatProg
import Derived.Test.YtjagjbceegbaiaaGreatRows
import Derived.Test.YtjagjbceegbaiaaGreatR5
set_option linter.unusedSimpArgs false
set_option linter.unusedVariables false
set_option linter.unusedSectionVars false
set_option maxRecDepth 2000000
section
namespace Go.Proofs.YtjagjbceegbaiaaGreat
open Go.Vm
theorem aBr {ans:List ba} {k:Nat} {a c:ba} (h:ans[k]? = some a):ow (ans.take (k+1)) c=(ow (ans.take k) c || (decide ((a.type.toNat:Int)=c.type.toNat) && dt a.owner c.owner)):=by obtain ⟨hk,rfl⟩:=zg.1 h;unfold ow;rw [zz5 hk,List.any_append,List.any_cons,List.any_nil,Bool.or_false]
theorem au6 {xs:List ba} {i:Nat} {c:ba} (hc:xs[i]? = some c):(cellsOf ag true xs)[i * 5]? = some (.vl true 1 (c.owner.map (ai.val true)))/\(cellsOf ag true xs)[i * 5+1]? = some (.sc (.int .u16 c.type.toNat)):=by have h:=(aAn ag hc).1;have hz:ag.sz=5:=rfl;rw [hz,O2] at h;have h0:=congrArg (fun l:List AV=>l[0]?) h;have h1:=congrArg (fun l:List AV=>l[1]?) h;simp only [zye,zz6,Nat.add_zero,if_pos (show 0<5 by decide),if_pos (show 1<5 by decide)] at h0 h1;exact ⟨h0,h1⟩
def uv (ans l:List ba):List ba:=l.filter fun s=>!ow ans s
theorem aBt {ans l:List ba} {i:Nat} {c:ba} (h:l[i]? = some c):uv ans (l.take (i+1))=uv ans (l.take i)++(if ow ans c=true then [] else [c]):=by obtain ⟨hi,rfl⟩:=zg.1 h;unfold uv;rw [zz5 hi,List.filter_append];cases hm:ow ans l[i]<;>simp [hm]
set_option maxHeartbeats 4000000 in
theorem as2 (ans l:List ba) (hl:l.length<=16777216 * 4096) (ha:ans.length<=16777216) (hlo:∀ s ∈ l,aw s.owner) (hao:∀ s ∈ ans,aw s.owner):ky PP 114 [.vl true 5 ((l).map (ag.val true)),.sl 0 0 ans.length 5] (bg [some (.row (cellsOf ag true ((ans))) 0 0 63)])
 (fun r st'=>r = .sl 1 0 (uv ans l).length 5/\st'=bg [some (.row (cellsOf ag true ((ans))) 0 0 63),some (.row (cellsOf ag true ((uv ans l))) 0 0 63)]):=by
 have hq:∀ a b c d,ft a b c=d->ft a b c=d:=fun _ _ _ _ h=>h
 refine en _ rfl ?_ (fun r st' h=>h);refine ct (T:=[po]) (ar.cons (aq um) (ar.nil PP)) mixed Tryz.func114 rfl zK zK zK zK ?_;unfold Tryz.f114;simp only [↓wR,zT,simprocAttr];refine fg [0,1,6,5] (fun (i:Nat)=>[.vl true 5 ((l).map (ag.val true)),.sl 0 0 ans.length 5,zi i,.sl 1 0 (uv ans (l.take i)).length 5]) (fun i=>[some (.row (cellsOf ag true ((ans))) 0 0 63),some (.row (cellsOf ag true ((uv ans (l.take i)))) 0 0 63)]) (fun i=>i<=l.length) (fun i=>l.length - i) 0 (zzb _) zX ?_;intro i hi;simp only [↓wR,zT,simprocAttr];rw [bh];refine ⟨fun h=>?_,fun h=>?_⟩
 ·obtain ⟨c,hc,aF,hlt⟩:=du (zp h);have hcs:=hlo c (zm hc);have gB:(uv ans (l.take i)).length<=i:=zzu (List.length_filter_le _ _) (by rw [zzl];omega);obtain ⟨X,hX⟩:∃ X,X=uv ans (l.take i):=⟨_,rfl⟩;have bN:=aBt (ans:=ans) hc;rw [<- hX] at gB bN ⊢;simp only [↓wR,zT,simprocAttr,h];refine fg [0,1,6,7,8,5] (fun (k:Nat)=>[.vl true 5 ((l).map (ag.val true)),.sl 0 0 ans.length 5,zi i,.sc (.bool (ow (ans.take k) c)),zi k,.sl 1 0 X.length 5]) (fun k=>[some (.row (cellsOf ag true ((ans))) 0 0 63),some (.row (cellsOf ag true ((X))) 0 0 63)]) (fun k=>k<=ans.length) (fun k=>ans.length - k) 0 (zzb _) zX ?_;intro k hk;simp only [↓wR,zT,simprocAttr];rw [bh];refine ⟨fun h2=>?_,fun h2=>?_⟩
  ·obtain ⟨a,sB,dM,hlt2⟩:=du (zp h2);have has:=hao a (zm sB);have hmn:=aBr (c:=c) sB;obtain ⟨g0,g1⟩:=au6 sB;cases hm:ow (ans.take k) c with
   |true=>
    rw [hm,Bool.true_or] at hmn;simp only [↓wR,zT,simprocAttr,h2];refine ⟨zK,.inl ?_⟩;refine ⟨by apply hq;kernel_rfl,?_⟩;exact ⟨k+1,hlt2,zO,by rw [hmn];exact zF⟩
   |false=>
    rw [hm,Bool.false_or] at hmn;by_cases e:(a.type.toNat:Int)=c.type.toNat
    ·have b1:((a.type.toNat:Int) == c.type.toNat)=true:=by simp [e]
     rw [zp e,Bool.true_and] at hmn;simp only [↓wR,zT,simprocAttr,h2];refine ⟨zK,.inl ?_⟩;simp only [↓wR,zT,simprocAttr,hlt2,hc,g0,g1,b1,xu,has,hcs];refine ⟨by apply hq;kernel_rfl,?_⟩;exact ⟨k+1,hlt2,zO,by rw [hmn];exact zF⟩
    ·have b1:((a.type.toNat:Int) == c.type.toNat)=false:=by simp [e]
     rw [zq e,Bool.false_and] at hmn;simp only [↓wR,zT,simprocAttr,h2];refine ⟨zK,.inl ?_⟩;simp only [↓wR,zT,simprocAttr,hlt2,hc,g0,g1,b1];refine ⟨by apply hq;kernel_rfl,?_⟩;exact ⟨k+1,hlt2,zO,by rw [hmn];exact zF⟩
  ·have hk2:ans.take k=ans:=zzp zO;rw [hk2];simp only [↓wR,zT,simprocAttr,h2];have aD:(X.length * 5+5) * 64<=140737488355328:=zO;cases hm:ow ans c with
   |true=>
    rw [hm,if_pos rfl,zzn] at bN
    repeat (first|simp only [↓wR,zT,simprocAttr]|simp (disch:=omega) only [zW])
    exact ⟨i+1,hlt,zO,by rw [bN];exact zF,by rw [bN]⟩
   |false=>
    rw [hm,if_neg (by decide)] at bN
    repeat (first|simp only [↓wR,zT,simprocAttr,hc,aD]|simp (disch:=omega) only [zW])
    exact ⟨i+1,hlt,zO,by rw [bN,za];exact zF,by rw [bN,kr]⟩
 ·have hin:i=l.length:=zO;subst hin;rw [zz7];simp only [↓wR,zT,simprocAttr,h,jx,jo,ja]
def S8 (l ans:List ba):Prop:=(l.length<=16777216 * 4096/\ans.length<=16777216)/\(∀ s ∈ l,aw s.owner)/\∀ s ∈ ans,aw s.owner
theorem abz (fr:Bool) (xs:List ba) (h k st et) (hro:A5 fr st 5 ag.kd et=true):kl ag fr h 0 xs.length (.row (cellsOf ag true xs) k st et)=some xs:=nv ag fr h true xs k st et _ rfl (by cases fr<;>rfl) hro
theorem as4 {ans l:List ba} (hk:S8 l ans):ky PP 114 [.vl true 5 ((l).map (ag.val true)),.sl 0 0 ans.length 5] (bg [some (.row (cellsOf ag true ((ans))) 0 0 63)])
 (fun r st'=>r=(cg ag).val true (uv ans l)/\st'=bg [some (.row (cellsOf ag true ((ans))) 0 0 63),none]):=by
 obtain ⟨⟨h1,h2⟩,h3,h4⟩:=hk;refine ane (as2 ans l h1 h2 h3 h4) (zB rfl) (zB rfl) ?_;obtain ⟨u,hu⟩:∃ u,u=uv ans l:=⟨_,rfl⟩;rw [<- hu];have hd:(cg ag).gv true (bg (xg [1] 0 [some (.row (cellsOf ag true ((ans))) 0 0 63),some (.row (cellsOf ag true ((u))) 0 0 63)])).h (.sl 1 0 u.length 5)=some u:=by have e:xg [1] 0 [some (.row (cellsOf ag true ((ans))) 0 0 63),some (.row (cellsOf ag true ((u))) 0 0 63)]=[none,some (.row (cellsOf ag true ((u))) 0 0 63)]:=rfl;rw [e];simp only [↓wR,zT,simprocAttr,abz]
 exact ir.lax [1] (zB rfl) (.cons (.data (cg ag) true u _ hd) .nil) (.same (.same .nil))
theorem Jt (xs:List ba) (σ:Nat->Option Nat):AV.de.go σ (cellsOf ag true xs)=cellsOf ag true xs:=by
 induction xs with
 |nil=>rfl
 |cons x xs ih=>
  have e:cellsOf ag true (x::xs)=ag.cells true x++cellsOf ag true xs:=rfl;rw [e,jt,zzw,<- jt,<- jt,ih];have h:=Cl ag σ true x;rw [jz] at h;simp only [AV.de,AV.agg.injEq] at h;rw [O2,h]
noncomputable def H6 (args:List AV):M AV:=fun st=>open Classical in
 if h:∃ p:List ba × List ba × Nat,(args=[.vl true 5 ((p.1).map (ag.val true)),.sl p.2.2 0 p.2.1.length 5]/\st.h.get p.2.2=some (.row (cellsOf ag true ((p.2.1))) 0 0 63))/\S8 p.1 p.2.1 then some ((cg ag).val true (uv h.choose.2.1 h.choose.1),st) else none
theorem ado {l ans:List ba} {o:Nat} {st:St} (hg:st.h.get o=some (.row (cellsOf ag true ((ans))) 0 0 63)) (hk:S8 l ans):H6 [.vl true 5 ((l).map (ag.val true)),.sl o 0 ans.length 5] st=some (.vl true 5 ((uv ans l).map (ag.val true)),st):=by
 have h:∃ p:List ba × List ba × Nat,([.vl true 5 ((l).map (ag.val true)),AV.sl o 0 ans.length 5]=[.vl true 5 ((p.1).map (ag.val true)),.sl p.2.2 0 p.2.1.length 5]/\st.h.get p.2.2=some (.row (cellsOf ag true ((p.2.1))) 0 0 63))/\S8 p.1 p.2.1:=⟨(l,ans,o),⟨rfl,hg⟩,hk⟩;unfold H6;rw [dif_pos h];obtain ⟨⟨e1,e2⟩,_⟩:=h.choose_spec;generalize h.choose=p at e1 e2;obtain ⟨l',oJ,o'⟩:=p;simp only at e1 e2;have f1:=(List.cons.inj e1).1;obtain ⟨rfl,_,f3,_⟩:=AV.sl.inj (List.cons.inj (List.cons.inj e1).2).1;have g1:l=l':=by have a1:=(cg ag).K7 true .nil true l (fun _=>rfl);have a2:=(cg ag).K7 true .nil true l' (fun _=>rfl);have f2:(cg ag).val true l=(cg ag).val true l':=f1;rw [f2,a2] at a1;exact (Option.some.inj a1).symm
 have g2:ans=oJ:=by rw [hg] at e2;simp only [Option.some.injEq,bp.row.injEq,and_true] at e2;have a1:=abz false ans .nil 0 0 0 rfl;have a2:=abz false oJ .nil 0 0 0 rfl;rw [e2,f3,a2] at a1;exact (Option.some.inj a1).symm
 subst g1 g2;rfl
theorem aol (args:List AV):Cr PP 114 args (H6 args):=by
 refine aBs (fun st r st' hm=>?_);unfold H6 at hm
 split at hm
 ·rename_i h;obtain ⟨⟨e1,e2⟩,hk⟩:=h.choose_spec;generalize h.choose=p at e1 e2 hk hm;obtain ⟨l,ans,o⟩:=p;simp only [Option.some.injEq,Prod.mk.injEq] at e1 e2 hk hm;obtain ⟨rfl,rfl⟩:=hm;refine ⟨rfl,Cl (cg ag) _ true _,o,cellsOf ag true ans,0,0,_,e2,Jt ans,?_⟩;have ea:AV.de.go (fun q=>idx [o] q 0) args=[.vl true 5 ((l).map (ag.val true)),.sl 0 0 ans.length 5]:=by
   rw [e1];have h1:(AV.de (fun q=>idx [o] q 0) ((cg ag).val true l))=(cg ag).val true l:=Cl _ _ _ _;have h2:idx [o] o 0=some 0:=by simp [idx]
   show [AV.de (fun q=>idx [o] q 0) ((cg ag).val true l),AV.de (fun q=>idx [o] q 0) (.sl o 0 ans.length 5)]=_;rw [h1];simp only [AV.de,h2];rfl
  rw [ea];exact as4 hk
 ·cases hm
noncomputable abbrev au1:zE:=(114,true,H6)
theorem auo {l:List Name} (h:∀ m ∈ l,dk m=0) (hl:l.length<=16):j5 l:=by
 have:∀ l:List Name,(∀ m ∈ l,dk m=0)->gu cd l<=l.length * 256:=by
  intro l
  induction l with
  |nil=>intro _;simp [gu]
  |cons a l ih=>
   intro h;have h1:=mw (h a (by simp));have h2:=ih (fun m hm=>h m (by simp [hm]));simp only [gu,List.foldr_cons,List.length_cons] at h2 ⊢;omega
 have:=this l h;unfold j5;omega
theorem yi (fr h k st et) (n:Nat) (ans:List ba) (s:ba) (hn:n=ans.length+1) (hro:A5 fr st 5 ag.kd et=true):kl ag fr h 0 n (.row (cellsOf ag true ans++[zt s.owner,.sc (.int .u16 s.type.toNat),.sc (.int .u16 s.cls.toNat),.sc (.int .u32 s.i9.toNat),.vl true 4 (s.data.map (bc.val true))]) k st et)=some (ans++[s]):=by rw [<- kr];exact nv ag fr h true (ans++[s]) k st et n (by rw [hn,za];rfl) rfl hro
theorem flat_agg (l:List AV):[AV.agg l].flatMap AV.cells=l:=by simp [AV.cells]
theorem aHn (fr h) (s:ba):gm ag fr h (.vl true 5 [.agg [zt s.owner,.sc (.int .u16 s.type.toNat),.sc (.int .u16 s.cls.toNat),.sc (.int .u32 s.i9.toNat),.vl true 4 (s.data.map (bc.val true))]])=some [s]:=vv ag fr h true [s] 5 rfl rfl
set_option maxHeartbeats 4000000 in
theorem aIy (z:ay) (n:Name) (t:UInt16) (hz:bo z) (hn:aw n):wl PP [akq,af6,ar1,abh,Y4,uf,eg,Rl] 0 (Tryz.f29.body.getD .skip) (c9 PP Tryz.f29.results.toList (fun r st=>(r2 ed (bb .i64)).get true st.h r=some (Ae z n t))) (cp 0 [bf.val false z,aj.val false n,cj.val false t]) (bg []):=by
 have ok:ar PP [akq,af6,ar1,abh,Y4,uf,eg,Rl]:=ar.cons (aq Vl) (ar.cons (aq Nl) (ar.cons (aq Yl) (ar.cons (aq Qj) (ar.cons (aq Oa) (ar.cons (aq oh) (ar.cons (aq gy) (ar.cons (aq Mi) (ar.nil PP))))))));unfold Tryz.f29;simp only [dy,bz];unfold Ae;by_cases he:(ti z n t).2=0;rotate_left
 ·rw [if_pos he];rcases ha:ti z n t with ⟨⟨k,nd,cl⟩,e⟩
  rw [ha] at he;have hb:(e != 0)=true:=by simpa using he
  simp only [↓wR,zT,simprocAttr,Hm,hz,hn,ha,hb]
 obtain ⟨h1,h2,h3,h4⟩:=acx he;obtain ⟨a1,a2,a3⟩:=rz h1;rw [if_neg zO];rcases ha:ti z n t with ⟨⟨k,nd,cl⟩,e⟩
 rw [ha] at he;simp only at he;subst he;simp only [↓wR,zT,simprocAttr,Hm,hz,hn,ha,bne_self_eq_false];refine ct (T:=[akq,af6,ar1,abh,Y4,uf,eg,Rl]) ok mixed Tryz.func65 rfl zK zK zK zK ?_;unfold Tryz.f65;simp only [↓wR,zT,simprocAttr];have cD:fy z t 16 n [] []=fy z t (16 - 0) n [] []:=rfl;refine J6 [0,1,2,6] (fun (x:Name × List Name × List ba × Nat)=>[.ptr 3 0,zn x.1,.sc (.int .u16 t.toNat),zi x.2.2.2]) (fun x=>[(zZ z),some (.row [.sc (.int .i64 0),.sc (.bool false),.sc (.slice none 0 0),.sc (.slice none 0 0),.sc (.slice none 0 0)] 0 2 77),some (.row [.sc (.int .u8 k),zt nd,zt cl] 0 2 32),some (.row [zn z.origin,zs z.ak,.sc (.int .i64 0),.sc (.bool true),.sl 4 0 x.2.2.1.length 5,.sc (.slice none 0 0),.sc (.slice none 0 0),.sl 5 0 x.2.1.length 1] 0 2 120),some (.row (cellsOf ag true (x.2.2.1)) 0 0 63),some (.row (((x.2.1)).map (aj.val false)) 0 0 23)]) (fun x=>(ef z x.1=0/\(x.2.1.length=x.2.2.2/\∀ m ∈ x.2.1,dk m=0))/\(x.2.2.2<=15/\x.2.2.1.length<=x.2.2.2/\∀ s ∈ x.2.2.1,aw s.owner)/\fy z t 16 n [] []=fy z t (16 - x.2.2.2) x.1 x.2.1 x.2.2.1) (fun x=>16 - x.2.2.2) (n,[],[],0) ⟨⟨h1,rfl,fun m hm=>by cases hm⟩,⟨zzb _,zza _,fun m hm=>by cases hm⟩,rfl⟩ zX ?_;clear cD;rintro ⟨n',seen,ans,al⟩ ⟨⟨b1,b2,b3⟩,⟨b4,b5,b6⟩,b7⟩;simp only at b1 b2 b3 b4 b5 b6 b7;obtain ⟨c1,c2,c3⟩:=rz b1;have hn':aw n':=by have:=mw c2;unfold aw;omega
 have hsp:=acm hz hn';have hst:=aa0 t b1;obtain ⟨f,hf⟩:∃ f,16 - al=f+1:=⟨15 - al,zO⟩;have hq:∀ a b c d,ft a b c=d->ft a b c=d:=fun _ _ _ _ h=>h
 rcases dX:iz z n' with ⟨⟨k2,lS,oG⟩,e2⟩
 rw [dX] at hsp;simp only at hsp;have bR:(seen.length+1) * 24<=140737488355328:=zO;have hdec:decide ((ans.length:Int) > 0)=decide (0<ans.length):=by rw [decide_eq_decide];omega
 have lU:gu n9 z.ak<=16777216:=by unfold bo Mk at hz;omega
 rcases hst with ⟨c,s,hc,hs,ht,ho,h⟩|⟨hc,h⟩|⟨hc,h⟩|⟨hc,l,hne,bD,hw,hl,h⟩|⟨hc,s,d,m,ht,h5,kP,ho,kX,hd,hm,pE,hy,h⟩
 ·have hch:fy z t (f+1) n' seen ans=xr 0 (decide (0<ans.length)) ans [s] (vt z ans [s]):=by simp only [fy,h];rfl
  rw [b7,hf,hch];rw [dX] at h;change qm z n' t (xq k2 lS oG)=_ at h;have bV:j5 (dz [s]):=zzu (zzu (Kv hs) (G9 _)) lU
  repeat (first|simp only [↓wR,zT,simprocAttr,bR,pn,hz,hn',dX]|simp (disch:=omega) only [zW])
  refine ⟨zK,.inl ?_⟩;simp only [↓wR,zT,simprocAttr,z8,hz,hn',c1,hsp,h];refine ⟨by apply hq;kernel_rfl,?_⟩;refine ⟨zK,.inl ?_⟩;refine ⟨by apply hq;kernel_rfl,?_⟩;simp only [↓wR,zT,simprocAttr,hdec];refine pf [3,4,7] (agn z hz c1 0 (decide (0<ans.length)) ((cg ag).val true [s]) (Ke (cg ag) true [s]) (fun τ=>Cl (cg ag) τ true [s]) rfl ans (seen++[n']) [s] zO b6 (by simp) (fun x hx=>by rw [zz0] at hx;subst hx;exact (hz.set x hs).data.len) bV) (by decide) (by simp only [↓wR,zT,simprocAttr]) (by simp only [↓wR,zT,simprocAttr]) (zB rfl) (by simp only [↓wR,zT,simprocAttr]) (by simp only [↓wR,zT,simprocAttr,bz]) ⟨zB rfl,zB rfl⟩ ?_;simp only [↓wR,zT,simprocAttr,gq,m7,qe,qj,Bc,aHn]
 ·have hch:fy z t (f+1) n' seen ans=xr 3 true ans [nl z] []:=by simp only [fy,h];rfl
  rw [b7,hf,hch];rw [dX] at h;change qm z n' t (xq k2 lS oG)=_ at h
  repeat (first|simp only [↓wR,zT,simprocAttr,bR,pn,hz,hn',dX]|simp (disch:=omega) only [zW])
  refine ⟨zK,.inl ?_⟩;simp only [↓wR,zT,simprocAttr,z8,hz,hn',c1,hsp,h,D7,If];apply hq;kernel_rfl
 ·have hch:fy z t (f+1) n' seen ans=xr 0 true ans [nl z] []:=by simp only [fy,h];rfl
  rw [b7,hf,hch];rw [dX] at h;change qm z n' t (xq k2 lS oG)=_ at h
  repeat (first|simp only [↓wR,zT,simprocAttr,bR,pn,hz,hn',dX]|simp (disch:=omega) only [zW])
  refine ⟨zK,.inl ?_⟩;simp only [↓wR,zT,simprocAttr,z8,hz,hn',c1,hsp,h,D7,If];apply hq;kernel_rfl
 ·have hch:fy z t (f+1) n' seen ans=xr 0 true (ans++l) [] (vt z (ans++l) l):=by simp only [fy,h];rfl
  rw [b7,hf,hch];rw [dX] at h;change qm z n' t (xq k2 lS oG)=_ at h;have bV:j5 (dz l):=zzu hw lU;have cI:l.length<=16777216:=by have:=hz.len;omega
  have bQ:(ans.length * 5+l.length * 5) * 56<=140737488355328:=zO
  repeat (first|simp only [↓wR,zT,simprocAttr,bR,pn,hz,hn',dX]|simp (disch:=omega) only [zW])
  refine ⟨zK,.inl ?_⟩;simp only [↓wR,zT,simprocAttr,z8,hz,hn',c1,hsp,h,bQ];refine ⟨by apply hq;kernel_rfl,?_⟩;refine ⟨zK,.inl ?_⟩;refine ⟨by apply hq;kernel_rfl,?_⟩;have hao:∀ x ∈ ans++l,aw x.owner:=fun x hx=>by
   rcases zzq.1 hx with hx|hx
   ·exact b6 x hx
   ·rcases (hl x hx).2.1 with e|e
    ·rw [e];exact hn'
    ·exact (hz.set x e).owner
  have rG:∀ x ∈ l,x.data.length<=16777216:=fun x hx=>by obtain ⟨y,hy,eO,_⟩:=(hl x hx).2.2.2;rw [eO];exact (hz.set y hy).data.len
  have bM:(ans++l).length<=16777216:=by have:=hz.len;have:=H5 c1;rw [za];omega
  refine pf [3,10,7] (agn z hz c1 0 true (.sc (.slice none 0 0)) rfl (fun τ=>rfl) rfl (ans++l) (seen++[n']) l bM hao cI rG bV) (by decide) (by simp only [↓wR,zT,simprocAttr]) (by simp only [↓wR,zT,simprocAttr]) (zB rfl) (by simp only [↓wR,zT,simprocAttr]) (by simp only [↓wR,zT,simprocAttr,bz,Fo]) ⟨zB rfl,zB rfl⟩ ?_;simp only [↓wR,zT,simprocAttr,gq,m7,qe,qj,Bc]
 ·have dA:aw m:=by have:=mw pE;unfold aw;omega
  have tN:∀ q ∈ seen++[n'],dk q=0:=fun q qL=>by
   rcases zzq.1 qL with q1|q1
   ·exact b3 q q1
   ·rw [zz0] at q1;rw [q1];exact c2
  have gY:j5 (seen++[n']):=auo tN (by rw [za,zyg];omega);have bW:(ans.length * 5+5) * 56<=140737488355328:=zO;have h0:=h;rw [dX] at h;change qm z n' t (xq k2 lS oG)=_ at h;cases hu:dj m z.origin with
  |false=>
   rw [b7,hf,Qo h0 hu]
   repeat (first|simp only [↓wR,zT,simprocAttr,bR,pn,hz,hn',dX]|simp (disch:=omega) only [zW])
   refine ⟨zK,.inl ?_⟩;simp only [↓wR,zT,simprocAttr,z8,hz,hn',c1,hsp,h,bW,flat_agg];refine ⟨by apply hq;kernel_rfl,?_⟩;refine ⟨zK,.inl ?_⟩;refine ⟨by apply hq;kernel_rfl,?_⟩;refine ⟨zK,.inl ?_⟩;simp only [↓wR,zT,simprocAttr,kp,dA,hz.origin,hu,yi];apply hq;kernel_rfl
  |true=>
   cases bB:vz (seen++[n']) m with
   |true=>
    rw [b7,hf,Qn h0 hu bB]
    repeat (first|simp only [↓wR,zT,simprocAttr,bR,pn,hz,hn',dX]|simp (disch:=omega) only [zW])
    refine ⟨zK,.inl ?_⟩;simp only [↓wR,zT,simprocAttr,z8,hz,hn',c1,hsp,h,bW,flat_agg];refine ⟨by apply hq;kernel_rfl,?_⟩;refine ⟨zK,.inl ?_⟩;refine ⟨by apply hq;kernel_rfl,?_⟩;refine ⟨zK,.inl ?_⟩;simp only [↓wR,zT,simprocAttr,kp,dA,hz.origin,hu,sk,gY,bB,yi];apply hq;kernel_rfl
   |false=>
    rw [b7,hf,V2 h0 hu bB]
    repeat (first|simp only [↓wR,zT,simprocAttr,bR,pn,hz,hn',dX]|simp (disch:=omega) only [zW])
    refine ⟨zK,.inl ?_⟩;simp only [↓wR,zT,simprocAttr,z8,hz,hn',c1,hsp,h,bW,flat_agg];refine ⟨by apply hq;kernel_rfl,?_⟩;refine ⟨zK,.inl ?_⟩;refine ⟨by apply hq;kernel_rfl,?_⟩;refine ⟨zK,.inl ?_⟩;by_cases yJ:al=15
    ·have hf0:f=0:=zO;rw [hf0];have eA:decide (((al:Int)+1) ≥ 16)=true:=zp zO
     repeat (first|simp only [↓wR,zT,simprocAttr,kp,dA,hz.origin,hu,sk,gY,bB,yi,eA]|simp (disch:=omega) only [zW])
     exact ⟨by apply hq;kernel_rfl,rfl⟩
    ·have eA:decide (((al:Int)+1) ≥ 16)=false:=zq zO
     repeat (first|simp only [↓wR,zT,simprocAttr,kp,dA,hz.origin,hu,sk,gY,bB,yi,eA]|simp (disch:=omega) only [zW])
     have hm0:ef z m=0:=by unfold ef;rw [if_neg zO,if_neg zO,if_neg (by rw [hu];decide)]
     have mE:(seen++[n']).length=al+1:=by rw [za,zyg];omega
     have bM:(ans++[s]).length<=al+1:=by rw [za,zyg];omega
     have hao:∀ x ∈ ans++[s],aw x.owner:=fun x hx=>by
      rcases zzq.1 hx with hx|hx
      ·exact b6 x hx
      ·rw [zz0] at hx;subst hx;rcases kX with e|e
       ·rw [e];exact hn'
       ·exact (hz.set x e).owner
     have rQ:f=16 - (al+1):=zO;have hc1:((al+1:Nat):Int)=(al:Int)+1:=zO;refine ⟨by apply hq;kernel_rfl,(m,seen++[n'],ans++[s],al+1),⟨⟨hm0,mE,tN⟩,⟨by show al+1<=15;omega,bM,hao⟩,by rw [rQ]⟩,by show 16 - (al+1)<f+1;omega,?_⟩;simp only [za,zyg,hc1,zzw,List.map_cons,List.map_nil];rw [kr];refine ir.lax [] (zB rfl) (.cons (.same _) (.cons (.data aj false m _ (by simp only [↓wR,zT,simprocAttr])) (.cons (.same _) (.cons (.same _) .nil)))) (bw.refl _ _)
noncomputable def aax (x:ay × Name × UInt16 × Unit):Option AV:=if bo x.1/\aw x.2.1 then some ((r2 ed (bb .i64)).E true (Ae x.1 x.2.1 x.2.2.1)) else none
theorem ag3 (x:ay × Name × UInt16 × Unit) (r:AV) (h:aax x=some r):bj PP 29 ((aC bf (aC aj (aC cj a0))).E x) r:=by obtain ⟨hc,rfl⟩:=zI h;exact az (ar.cons (aq Vl) (ar.cons (aq Nl) (ar.cons (aq Yl) (ar.cons (aq Qj) (ar.cons (aq Oa) (ar.cons (aq oh) (ar.cons (aq gy) (ar.cons (aq Mi) (ar.nil PP))))))))) Tryz.func29 zK zK zK zL (r2 ed (bb .i64)) true (Ae x.1 x.2.1 x.2.2.1) (aIy x.1 x.2.1 x.2.2.1 hc.1 hc.2)
noncomputable abbrev aOf:zE:=(29,true,cx (aC bf (aC aj (aC cj a0))) aax)
theorem aob (F:List Name):cellsOf aj false F=F.map (aj.val false):=by
 induction F with
 |nil=>rfl
 |cons a F ih=>rw [List.map_cons,<- ih];rfl
theorem ab1 {z:ay}:∀ (r pre:List Name) {y:ba},y ∈ qn z pre r->y ∈ z.ak:=by
 intro r
 induction r with
 |nil=>intro pre y h;cases h
 |cons m r ih=>
  intro pre y h;rw [qn] at h;rcases zzq.1 h with h|h
  ·split at h
   ·cases h
   ·exact (List.mem_filter.1 h).1
  ·exact ih _ h
theorem Yt {z:ay} (h:fp z=0) {y:ba} (hy:y ∈ z.ak) (hT:pj y=true):∀ d ∈ y.data,d.names.length=1:=fun d hd=>by
 have lC:=M4 (ze h y hy) d hd;have hn:=(G5 lC).1;have h2:(c8 y.type).names=1:=by unfold pj at hT;simp only [Bool.or_eq_true,decide_eq_true_eq] at hT;unfold c8;rcases hT with e|e|e<;>rw [e]<;>rfl
 rw [h2] at hn;omega
theorem Pc {z:ay} (h:fp z=0) {l:List ba} (hl:∀ s ∈ l,∃ y ∈ z.ak,s.data=y.data/\s.type=y.type):z9 l=true:=by
 unfold z9;rw [zz8];intro s hs;obtain ⟨y,hy,e1,e2⟩:=hl s hs;cases hT:pj s with
 |false=>rfl
 |true=>
  have xW:pj y=true:=by unfold pj at hT ⊢;rw [<- e2];exact hT
  rw [Bool.not_true,Bool.false_or,zz8,e1];intro d hd;exact zp (Yt h hy xW d hd)
theorem aDu (z:ay) (n:Name) (t:UInt16):wl PP [] 0 (mz 3 (Tryz.f66.body.getD .skip)) (tq (fun L st=>(st.nx=4/\∀ o,st.h.get o=(bg [(zZ z),some (.row [.sc (.int .i64 0),.sc (.bool false),.sc (.slice none 0 0),.sc (.slice none 0 0),.sc (.slice none 0 0)] 0 2 77),some (.row [.sc (.int .i64 0),.sc (.bool true),.sc (.slice none 0 0),.sc (.slice none 0 0),.sc (.slice none 0 0)] 0 2 77),some (.row (([n]).map (aj.val false)) 0 0 23)]).h.get o)/\lk L 2 = .sc (.int .u16 t.toNat)/\lk L 3 = .ptr 0 0/\lk L 6 = .ptr 1 0/\lk L 7 = .ptr 2 0/\lk L 8 = .sl 3 0 1 1) Mn) (cp 0 [bf.val false z,aj.val false n,cj.val false t]) (bg []):=by
 unfold Tryz.f66;simp only [dy,bz];simp only [↓wR,zT,simprocAttr,↓gx,↓kc,↓ig,↓ij,↓jk,↓jl,↓mf,↓me,↓ot,ly,mg,mh];intro o;rcases (show o=0\/o=1\/o=2\/o=3\/3<o by omega) with rfl|rfl|rfl|rfl|h
 ·rfl
 ·rfl
 ·rfl
 ·rfl
 ·simp [show o≠0 by omega,show o≠1 by omega,show o≠2 by omega,show o≠3 by omega]
set_option maxHeartbeats 8000000 in
theorem aD6 (z:ay) (n:Name) (t:UInt16) (hz:bo z) (hn:aw n) (he:ef z n=0):wl PP [aCp,aku,aCo,au1,aqp,m8,aj3] 3 (fm 3 (Tryz.f66.body.getD .skip)) (c9 PP Tryz.f66.results.toList (fun r st=>(r1 ed).get true st.h r=some (fy z t 16 n [] []))) [(2,.sc (.int .u16 t.toNat)),(3,.ptr 0 0),(6,.ptr 1 0),(7,.ptr 2 0),(8,.sl 3 0 1 1)] (bg [(zZ z),some (.row [.sc (.int .i64 0),.sc (.bool false),.sc (.slice none 0 0),.sc (.slice none 0 0),.sc (.slice none 0 0)] 0 2 77),some (.row [.sc (.int .i64 0),.sc (.bool true),.sc (.slice none 0 0),.sc (.slice none 0 0),.sc (.slice none 0 0)] 0 2 77),some (.row (([n]).map (aj.val false)) 0 0 23)]):=by
 obtain ⟨oM,a2,a3⟩:=rz he;have hq:∀ a b c d,ft a b c=d->ft a b c=d:=fun _ _ _ _ h=>h
 have hzl:=H5 oM;have lU:gu n9 z.ak<=16777216:=by unfold bo Mk at hz;omega
 unfold Tryz.f66;simp only [↓wR,zT,simprocAttr,↓gx,↓kc,↓ig,↓ij,↓jk,↓jl,↓mf,↓me,↓ot,ly,mg,mh];refine J6 [2,3,6,7,8] (fun (x:List Name × Name × List ba)=>[.sc (.int .u16 t.toNat),.ptr 0 0,.ptr 1 0,.ptr 2 0,.sl 3 0 (x.1.length+1) 1]) (fun x=>[(zZ z),some (.row [.sc (.int .i64 0),.sc (.bool false),.sc (.slice none 0 0),.sc (.slice none 0 0),.sc (.slice none 0 0)] 0 2 77),some (.row [.sc (.int .i64 0),.sc (.bool true),.sl 4 0 x.2.2.length 5,.sc (.slice none 0 0),.sc (.slice none 0 0)] 0 2 77),some (.row ((x.1++[x.2.1]).map (aj.val false)) 0 0 23),some (.row (cellsOf ag true ((x.2.2))) 0 0 63)]) (fun x=>(ef z x.2.1=0/\∀ m ∈ x.1,dk m=0)/\(x.1.length<=15/\x.2.2.length=x.1.length/\∀ s ∈ x.2.2,aw s.owner)/\fy z t 16 n [] []=fy z t (16 - x.1.length) x.2.1 x.1 x.2.2) (fun x=>16 - x.1.length) ([],n,[]) ⟨⟨he,fun m hm=>by cases hm⟩,⟨zzb _,rfl,fun m hm=>by cases hm⟩,rfl⟩ zX ?_;rintro ⟨seen,n',ans⟩ ⟨⟨b1,b2⟩,⟨b3,b4,b5⟩,b6⟩;simp only at b1 b2 b3 b4 b5 b6;obtain ⟨c1,c2,c3⟩:=rz b1;have hn':aw n':=by have:=mw c2;unfold aw;omega
 have hst:=aa0 t b1;have aW:=aw2 oM b1 t;obtain ⟨f,hf⟩:∃ f,16 - seen.length=f+1:=⟨15 - seen.length,zO⟩;obtain ⟨F,hF⟩:∃ F,F=seen++[n']:=⟨_,rfl⟩;have pO:F.length=seen.length+1:=by rw [hF,za,zyg]
 have iH:F[seen.length]? = some n':=by rw [hF,zzd (zza _),Nat.sub_self];rfl
 rw [<- hF,<- pO];obtain ⟨k,hk⟩:∃ k,k=seen.length:=⟨_,rfl⟩;rw [<- hk] at pO iH b3 b4 b6 hf;have uS:∀ m ∈ F,dk m=0:=fun m hm=>by
  rw [hF] at hm;rcases zzq.1 hm with q|q
  ·exact b2 m q
  ·rw [zz0] at q;rw [q];exact c2
 have lG:F.length<=16777216/\∀ m ∈ F,aw m:=⟨zO,fun m hm=>by have:=mw (uS m hm);unfold aw;omega⟩;have hdec:decide ((ans.length:Int) > 0)=decide (0<ans.length):=by rw [decide_eq_decide];omega
 have hw1:IntKind.i64.wrap ((F.length:Int) - 1)=(k:Int):=by rw [pO];rw [show (((k+1:Nat):Int) - 1)=(k:Int) by omega];exact Fb zO zO
 have iY:k<F.length:=zO;have hdr:∀ (xs:List ba) h k st et,kl ag false h 0 xs.length (.row (cellsOf ag true xs) k st et)=some xs:=fun xs h k st et=>nv ag false h true xs k st et _ rfl rfl rfl
 have dZ:∀ h k st et,kl aj false h 0 F.length (.row (F.map (aj.val false)) k st et)=some F:=fun h k st et=>by have:=nv aj false h false F k st et F.length rfl rfl rfl;rw [aob] at this;exact this
 rcases hst with ⟨c,s,hc,hs,ht,ho,h⟩|⟨hc,h⟩|⟨hc,h⟩|⟨hc,l,hne,bD,hw,hl,h⟩|⟨hc,s,d,m,ht,h5,kP,ho,kX,hd,hm,pE,hy,h⟩
 ·have hch:fy z t (f+1) n' seen ans=xr 0 (decide (0<ans.length)) ans [s] (vt z ans [s]):=by simp only [fy,h];rfl
  rw [b6,hf,hch];rw [h] at aW;simp only [↓wR,zT,simprocAttr];refine ⟨zK,.inl ?_⟩;have bV:j5 (dz [s]):=zzu (zzu (Kv hs) (G9 _)) lU;have sK:z9 [s]=true:=Pc oM (fun x hx=>⟨s,hs,by rw [zz0] at hx;rw [hx];exact ⟨rfl,rfl⟩⟩);have kI:(∀ x ∈ [s],x.data.length<=16777216):=fun x hx=>by rw [zz0] at hx;rw [hx];exact (hz.set s hs).data.len
  obtain ⟨N,hN⟩:∃ N,N=dz [s]:=⟨_,rfl⟩;obtain ⟨A,hA⟩:∃ A,A=vr z N:=⟨_,rfl⟩;have sP:A.length<=16777216 * 4096:=by
   have h1:=F7 z N [];have h2:N.length<=16777216:=by rw [hN];exact bV.len
   have h3:N.length * z.ak.length<=16777216 * 2048:=Nat.mul_le_mul h2 hzl;have h4:A.length<=N.length * z.ak.length:=by rw [hA];exact h1
   omega
  have sN:∀ x ∈ A,aw x.owner:=fun x hx=>(hz.set x (ab1 N [] (by rw [hA] at hx;exact hx))).owner
  have hadd:vt z ans [s]=uv ans A:=by rw [hA,hN];rfl
  have bM:ans.length<=16777216:=zO;rw [hadd];rw [<- hN] at bV;simp only [↓wR,zT,simprocAttr,hw1,iY,iH,xo,hz,hn',b1,aW];refine ⟨by apply hq;kernel_rfl,?_⟩;refine ⟨zK,.inl ?_⟩;have qB:∀ o st,st.h.get o=some (.row (cellsOf ag true ((ans))) 0 0 63)->H6 [.vl true 5 (A.map (ag.val true)),.sl o 0 ans.length 5] st=some (.vl true 5 ((uv ans A).map (ag.val true)),st):=fun o st hg=>ado hg ⟨⟨sP,bM⟩,sN,b5⟩
  simp only [↓wR,zT,simprocAttr,aHn,Cf,eq_true kI,sK,<- hN,bV,Li,hz,c1,<- hA,qB,hdec];apply hq;kernel_rfl
 ·have hch:fy z t (f+1) n' seen ans=xr 3 true ans [nl z] []:=by simp only [fy,h];rfl
  rw [b6,hf,hch];rw [h] at aW;simp only [↓wR,zT,simprocAttr];refine ⟨zK,.inl ?_⟩;simp only [↓wR,zT,simprocAttr,hw1,iY,iH,xo,hz,hn',b1,aW,Eg,c1,If,hdr];apply hq;kernel_rfl
 ·have hch:fy z t (f+1) n' seen ans=xr 0 true ans [nl z] []:=by simp only [fy,h];rfl
  rw [b6,hf,hch];rw [h] at aW;simp only [↓wR,zT,simprocAttr];refine ⟨zK,.inl ?_⟩;simp only [↓wR,zT,simprocAttr,hw1,iY,iH,xo,hz,hn',b1,aW,Eg,c1,If,hdr];apply hq;kernel_rfl
 ·have hch:fy z t (f+1) n' seen ans=xr 0 true (ans++l) [] (vt z (ans++l) l):=by simp only [fy,h];rfl
  rw [b6,hf,hch];rw [h] at aW;have bV:j5 (dz l):=zzu hw lU;have cI:l.length<=16777216:=by have:=hz.len;omega
  have bQ:(ans.length * 5+l.length * 5) * 56<=140737488355328:=zO;have sK:z9 l=true:=Pc oM (fun x hx=>(hl x hx).2.2.2);have kI:∀ x ∈ l,x.data.length<=16777216:=fun x hx=>by obtain ⟨y,hy,eO,_⟩:=(hl x hx).2.2.2;rw [eO];exact (hz.set y hy).data.len
  have hao:∀ x ∈ ans++l,aw x.owner:=fun x hx=>by
   rcases zzq.1 hx with hx|hx
   ·exact b5 x hx
   ·rcases (hl x hx).2.1 with e|e
    ·rw [e];exact hn'
    ·exact (hz.set x e).owner
  obtain ⟨N,hN⟩:∃ N,N=dz l:=⟨_,rfl⟩;obtain ⟨A,hA⟩:∃ A,A=vr z N:=⟨_,rfl⟩;have sP:A.length<=16777216 * 4096:=by
   have h1:=F7 z N [];have h2:N.length<=16777216:=by rw [hN];exact bV.len
   have h3:N.length * z.ak.length<=16777216 * 2048:=Nat.mul_le_mul h2 hzl;have h4:A.length<=N.length * z.ak.length:=by rw [hA];exact h1
   omega
  have sN:∀ x ∈ A,aw x.owner:=fun x hx=>(hz.set x (ab1 N [] (by rw [hA] at hx;exact hx))).owner
  obtain ⟨Y,hY⟩:∃ Y,Y=ans++l:=⟨_,rfl⟩;have hadd:vt z (ans++l) l=uv Y A:=by rw [hA,hN,hY];rfl
  have sI:Y.length<=16777216:=by rw [hY,za];have:=hz.len;omega
  have e1:ans.length+l.length=Y.length:=by rw [hY];exact List.length_append.symm
  have e2:cellsOf ag true ans++cellsOf ag true l=cellsOf ag true Y:=by rw [hY];unfold cellsOf;rw [List.flatMap_append]
  rw [hadd,<- hY];rw [<- hN] at bV;rw [<- hY] at hao;have qB:∀ o st,st.h.get o=some (.row (cellsOf ag true ((Y))) 0 0 63)->H6 [.vl true 5 (A.map (ag.val true)),.sl o 0 Y.length 5] st=some (.vl true 5 ((uv Y A).map (ag.val true)),st):=fun o st hg=>ado hg ⟨⟨sP,sI⟩,sN,hao⟩
  simp only [↓wR,zT,simprocAttr];refine ⟨zK,.inl ?_⟩;simp only [↓wR,zT,simprocAttr,hw1,iY,iH,xo,hz,hn',b1,aW,bQ,e1,e2];refine ⟨by apply hq;kernel_rfl,?_⟩;refine ⟨zK,.inl ?_⟩;simp only [↓wR,zT,simprocAttr,Cf,cI,eq_true kI,sK,<- hN,bV,Li,hz,c1,<- hA,qB,hdr];apply hq;kernel_rfl
 ·have dA:aw m:=by have:=mw pE;unfold aw;omega
  have h0:=h;rw [h] at aW;have bW:(ans.length * 5+5) * 56<=140737488355328:=zO;have mZ:(F.length+1) * 24<=140737488355328:=zO;cases hu:dj m z.origin with
  |false=>
   rw [b6,hf,Qo h0 hu];simp only [↓wR,zT,simprocAttr];refine ⟨zK,.inl ?_⟩;simp only [↓wR,zT,simprocAttr,hw1,iY,iH,xo,hz,hn',b1,aW,bW,flat_agg,rp,dA,hz.origin,hu,yi];apply hq;kernel_rfl
  |true=>
   cases bB:vz F m with
   |true=>
    rw [b6,hf,Qn h0 hu (by rw [<- hF];exact bB)];simp only [↓wR,zT,simprocAttr];refine ⟨zK,.inl ?_⟩;simp only [↓wR,zT,simprocAttr,hw1,iY,iH,xo,hz,hn',b1,aW,bW,flat_agg,rp,dA,hz.origin,hu,Cj,lG.1,eq_true lG.2,bB,dZ,yi];apply hq;kernel_rfl
   |false=>
    rw [b6,hf,V2 h0 hu (by rw [<- hF];exact bB),<- hF];by_cases yJ:k=15
    ·have hf0:f=0:=zO;rw [hf0];have eA:decide (((ans.length:Int)+1) ≥ 16)=true:=zp zO;have kJ:decide (((ans.length+1:Nat):Int) ≥ 16)=true:=zp zO;simp only [↓wR,zT,simprocAttr];refine ⟨zK,.inl ?_⟩;simp only [↓wR,zT,simprocAttr,hw1,iY,iH,xo,hz,hn',b1,aW,bW,flat_agg,rp,dA,hz.origin,hu,Cj,lG.1,eq_true lG.2,bB,dZ,yi,eA,kJ];exact ⟨by apply hq;kernel_rfl,rfl⟩
    ·have eA:decide (((ans.length:Int)+1) ≥ 16)=false:=zq zO;have kJ:decide (((ans.length+1:Nat):Int) ≥ 16)=false:=zq zO;simp only [↓wR,zT,simprocAttr];refine ⟨zK,.inl ?_⟩;simp only [↓wR,zT,simprocAttr,hw1,iY,iH,xo,hz,hn',b1,aW,bW,mZ,flat_agg,rp,dA,hz.origin,hu,Cj,lG.1,eq_true lG.2,bB,dZ,yi,eA,kJ];have hm0:ef z m=0:=by unfold ef;rw [if_neg zO,if_neg zO,if_neg (by rw [hu];decide)]
     have bM:(ans++[s]).length=F.length:=by rw [za,zyg];omega
     have hao:∀ x ∈ ans++[s],aw x.owner:=fun x hx=>by
      rcases zzq.1 hx with hx|hx
      ·exact b5 x hx
      ·rw [zz0] at hx;subst hx;rcases kX with e|e
       ·rw [e];exact hn'
       ·exact (hz.set x e).owner
     have rQ:f=16 - F.length:=zO;refine ⟨by apply hq;kernel_rfl,(F,m,ans++[s]),⟨⟨hm0,uS⟩,⟨by show F.length<=15;omega,bM,hao⟩,by show fy z t f m F (ans++[s])=fy z t (16 - F.length) m F (ans++[s]);rw [rQ]⟩,by show 16 - F.length<16 - seen.length;omega,?_⟩;simp only [za,zyg];rw [kr];exact ir.lax [] (zB rfl) (dx.refl _ _) (.same (.same (.same (.row (dx.app (dx.refl _ _) (.cons (.data aj false m _ (by simp only [↓wR,zT,simprocAttr])) .nil)) (.same .nil)))))
theorem aza:ar PP [aCp,aku,aCo,au1,aqp,m8,aj3]:=ar.cons (aq at2) (ar.cons (aq afp) (ar.cons (aq aq5) (ar.cons aol (ar.cons (aq amd) (ar.cons (aq ye) (ar.cons (aq Uk) (ar.nil PP)))))))
set_option maxHeartbeats 4000000 in
theorem aox {B:fi} (aG:B.k6) (hp:B.be=0) (aN:B.n0<=B.w.heap.size) {z:ay} {n:Name} {t:UInt16} (hz:bo z) (hn:aw n) (he:ef z n=0) {g:Gh} {ac:Act} {w:World}
 (hh:gj B (103:Nat) (cp 0 [bf.val false z,aj.val false n,cj.val false t]) (bg []) g ac w):((Tryz.f66.body.getD .skip)).wpIn (fu none) 0 PP (Fin B (103:Nat) (c9 PP Tryz.f66.results.toList (fun r st=>(r1 ed).get true st.h r=some (fy z t 16 n [] [])))) ac w:=by
 refine wk (ar.nil PP) zK aG zO aN (Q:=tq (fun L st=>(st.nx=4/\∀ o,st.h.get o=(bg [(zZ z),some (.row [.sc (.int .i64 0),.sc (.bool false),.sc (.slice none 0 0),.sc (.slice none 0 0),.sc (.slice none 0 0)] 0 2 77),some (.row [.sc (.int .i64 0),.sc (.bool true),.sc (.slice none 0 0),.sc (.slice none 0 0),.sc (.slice none 0 0)] 0 2 77),some (.row (([n]).map (aj.val false)) 0 0 23)]).h.get o)/\lk L 2 = .sc (.int .u16 t.toNat)/\lk L 3 = .ptr 0 0/\lk L 6 = .ptr 1 0/\lk L 7 = .ptr 2 0/\lk L 8 = .sl 3 0 1 1) Mn) 2 (Tryz.f66.body.getD .skip) zK zK ?_ _ _ g ac w (by rw [hp];exact aDu z n t) hh;rintro e L1 gp g1 a1 w1 hq dW;cases e with
 |ret=>exact hq.elim
 |exit id=>exact hq.elim
 |normal=>
 obtain ⟨⟨bN,er⟩,l2,l3,l6,l7,l8⟩:=hq;have cL:gj B (103:Nat) [(2,.sc (.int .u16 t.toNat)),(3,.ptr 0 0),(6,.ptr 1 0),(7,.ptr 2 0),(8,.sl 3 0 1 1)] (bg [(zZ z),some (.row [.sc (.int .i64 0),.sc (.bool false),.sc (.slice none 0 0),.sc (.slice none 0 0),.sc (.slice none 0 0)] 0 2 77),some (.row [.sc (.int .i64 0),.sc (.bool true),.sc (.slice none 0 0),.sc (.slice none 0 0),.sc (.slice none 0 0)] 0 2 77),some (.row (([n]).map (aj.val false)) 0 0 23)]) g1 a1 w1:=by
  refine dW.less dW.sl.1 (fun u=>?_) bN.symm (fun o=>(er o).symm);simp only [og,avq];by_cases u2 : 2=u
  ·subst u2;exact .inl l2.symm
  by_cases u3 : 3=u
  ·subst u3;exact .inl l3.symm
  by_cases u6 : 6=u
  ·subst u6;exact .inl l6.symm
  by_cases u7 : 7=u
  ·subst u7;exact .inl l7.symm
  by_cases u8 : 8=u
  ·subst u8;exact .inl l8.symm
  ·rw [if_neg u2,if_neg u3,if_neg u6,if_neg u7,if_neg u8];exact .inr rfl
 show (fm 3 (Tryz.f66.body.getD .skip)).wpIn (fu none) 0 PP _ a1 w1;exact avp aza zK aG 3 (by decide) zO aN zK (fun e L' st' g' a' w' hq bT=>⟨e,L',st',g',rfl,hq,bT.cur,bT.sl,bT.Cc⟩) (show 3<=(bg [(zZ z),some (.row [.sc (.int .i64 0),.sc (.bool false),.sc (.slice none 0 0),.sc (.slice none 0 0),.sc (.slice none 0 0)] 0 2 77),some (.row [.sc (.int .i64 0),.sc (.bool true),.sc (.slice none 0 0),.sc (.slice none 0 0),.sc (.slice none 0 0)] 0 2 77),some (.row (([n]).map (aj.val false)) 0 0 23)]).nx from zB rfl) (aD6 z n t hz hn he) cL
noncomputable def np {α:Type} (a b : α):Bool:=@decide (a=b) (Classical.propDecidable _)
theorem Hv {α:Type} (a : α):np a a=true:=by unfold np;exact @zp _ (Classical.propDecidable _) rfl
theorem mb {α:Type} {a b : α} (h:a≠b):np a b=false:=by unfold np;exact @zq _ (Classical.propDecidable _) h
theorem Hz {α:Type} {a b : α} (h:a=b):np a b=true:=by rw [h];exact Hv b
theorem zk {α:Type} {a b : α} (h:np a b=true):a=b:=by unfold np at h;exact @of_decide_eq_true _ (Classical.propDecidable _) h
theorem vx {α:Type} {a b : α} (h:np a b=false):a≠b:=fun q=>by rw [q,Hv] at h;cases h
theorem Dm {α:Type} {l m:List α} {i:Nat} {c d : α} (h:l.take i=m.take i) (hc:l[i]? = some c) (hd:m[i]? = some d) (e:c=d):l.take (i+1)=m.take (i+1):=by obtain ⟨h1,rfl⟩:=zg.1 hc;obtain ⟨h2,rfl⟩:=zg.1 hd;rw [zz5 h1,zz5 h2,h,e]
theorem Fz {α:Type} {l m:List α} {i:Nat} (h:l.take i=m.take i) (hi:¬ i<l.length) (hl:l.length=m.length):l=m:=by rwa [zzp zO,zzp zO] at h
theorem A0 {α:Type} {l m:List α} {i:Nat} {c d : α} (hc:l[i]? = some c) (hd:m[i]? = some d) (e:c≠d):l≠m:=fun q=>by rw [q,hd] at hc;cases hc;exact e rfl
theorem Fw {α:Type} {l m:List α} (h:(l.length:Int)≠m.length):l≠m:=fun q=>h (by rw [q])
theorem F0 {α:Type} {l m:List α} {i:Nat} (hl:l.length=m.length) (hi:i<l.length):∃ d,m[i]? = some d:=⟨m[i],zh zO⟩
theorem al8 (a b:Name) (ha:a.length<=16777216):wl PP [] 0 (Tryz.f51.body.getD .skip) (c9 PP Tryz.f51.results.toList (fun r st=>(r1 bk).get true st.h r=some (np a b))) (cp 0 [aj.val false a,aj.val false b]) (bg []):=by
 have hq:∀ a b c d,ft a b c=d->ft a b c=d:=fun _ _ _ _ h=>h
 unfold Tryz.f51;simp only [bz];simp only [↓wR,zT,simprocAttr];rw [dh];refine ⟨fun ⟨h,e⟩=>?_,fun ⟨h,e⟩=>?_⟩
 ·simp only [↓wR,zT,simprocAttr,h,mb (Fw e)]
 have hl:a.length=b.length:=zO;simp only [↓wR,zT,simprocAttr,h];refine dq [0,1,5] (fun (i:Nat)=>[zn a,zn b,zi i]) (fun _=>[]) (fun i=>i<=a.length/\a.take i=b.take i) (fun i=>a.length - i) 0 ⟨zzb _,rfl⟩ zS zS ?_;rintro i ⟨hi,hx⟩;simp only [↓wR,zT,simprocAttr];rw [bh];refine ⟨fun h2=>?_,fun h2=>?_⟩
 ·obtain ⟨c,hc,aF,hlt⟩:=du (zp h2);obtain ⟨d,hd⟩:=F0 hl hlt;simp only [↓wR,zT,simprocAttr,h2];refine ⟨zK,.inl ?_⟩;simp only [↓wR,zT,simprocAttr,hc,hd];refine ⟨by apply hq;kernel_rfl,?_⟩;by_cases e2:c=d
  ·repeat (first|simp only [↓wR,zT,simprocAttr,zp e2]|simp (disch:=omega) only [zW])
   exact ⟨i+1,⟨hlt,Dm hx hc hd e2⟩,zO,zF⟩
  ·simp only [↓wR,zT,simprocAttr,zq e2,mb (A0 hc hd e2)]
 ·simp only [↓wR,zT,simprocAttr,h2,Hz (Fz hx zO hl)]
noncomputable def Al (x:Name × Name × Unit):Option AV:=if x.1.length<=16777216 then some ((r1 bk).E true (np x.1 x.2.1)) else none
theorem El (x:Name × Name × Unit) (r:AV) (h:Al x=some r):bj PP 51 ((aC aj (aC aj a0)).E x) r:=by obtain ⟨hc,rfl⟩:=zI h;exact az (ar.nil PP) Tryz.func51 zK zK zK zL (r1 bk) true (np x.1 x.2.1) (al8 x.1 x.2.1 hc)
noncomputable abbrev adq:zE:=(51,true,cx (aC aj (aC aj a0)) Al)
theorem anj (a b:Name) (ha:a.length<=16777216):wl PP [adq] 0 (Tryz.f16.body.getD .skip) (c9 PP Tryz.f16.results.toList (fun r st=>(r1 bk).get true st.h r=some (np a b))) (cp 0 [aj.val false a,aj.val false b]) (bg []):=by unfold Tryz.f16;simp only [bz];simp only [↓wR,zT,simprocAttr,Al,ha]
noncomputable def xd (x:Name × Name × Unit):Option AV:=if x.1.length<=16777216 then some ((r1 bk).E true (np x.1 x.2.1)) else none
theorem Ey (x:Name × Name × Unit) (r:AV) (h:xd x=some r):bj PP 16 ((aC aj (aC aj a0)).E x) r:=by obtain ⟨hc,rfl⟩:=zI h;exact az (ar.cons (aq El) (ar.nil PP)) Tryz.func16 zK zK zK zL (r1 bk) true (np x.1 x.2.1) (anj x.1 x.2.1 hc)
noncomputable abbrev Qg:zE:=(16,true,cx (aC aj (aC aj a0)) xd)
theorem al1 (a b:List UInt8):wl PP [] 0 (Tryz.f110.body.getD .skip) (c9 PP Tryz.f110.results.toList (fun r st=>(r1 bk).get true st.h r=some (np a b))) (cp 0 [(cg ca).val false a,(cg ca).val false b]) (bg []):=by
 unfold Tryz.f110;simp only [l5];simp only [↓wR,zT,simprocAttr]
 congr 1
 by_cases e:a=b
 ·rw [Hz e,e];exact zp rfl
 ·rw [mb e];exact zq fun q=>e (by injection q with q;simpa using q)
noncomputable def Ku (x:List UInt8 × List UInt8 × Unit):Option AV:=some ((r1 bk).E true (np x.1 x.2.1))
theorem Xt (x:List UInt8 × List UInt8 × Unit) (r:AV) (h:Ku x=some r):bj PP 110 ((aC (cg ca) (aC (cg ca) a0)).E x) r:=by cases h;exact az (ar.nil PP) Tryz.func110 zK zK zK zL (r1 bk) true (np x.1 x.2.1) (al1 x.1 x.2.1)
noncomputable abbrev at3:zE:=(110,true,cx (aC (cg ca) (aC (cg ca) a0)) Ku)
theorem Hi {a b:cq} (h:¬ (a.names=b.names/\a.nums=b.nums/\a.texts=b.texts/\a.raw=b.raw)):a≠b:=fun q=>h (by rw [q];exact ⟨rfl,rfl,rfl,rfl⟩)
theorem aFj {a b:cq} (h1:a.names=b.names) (h2:a.nums=b.nums) (h3:a.texts=b.texts) (h4:a.raw=b.raw):a=b:=by cases a;cases b;simp_all
set_option maxHeartbeats 4000000 in
theorem ahb (a b:cq) (ha:da a):wl PP [adq,Qg,at3] 0 (Tryz.f63.body.getD .skip) (c9 PP Tryz.f63.results.toList (fun r st=>(r1 bk).get true st.h r=some (np a b))) (cp 0 [bc.val false a,bc.val false b]) (bg []):=by
 have iU:=ha.lens;have hq:∀ a b c d,ft a b c=d->ft a b c=d:=fun _ _ _ _ h=>h
 unfold Tryz.f63;simp only [iy];simp only [↓wR,zT,simprocAttr];rw [dh];refine ⟨fun ⟨h1,e1⟩=>?_,fun ⟨h1,e1⟩=>?_⟩
 ·simp only [↓wR,zT,simprocAttr,h1,mb (Hi fun q=>Fw e1 q.1)]
 simp only [↓wR,zT,simprocAttr,h1];rw [dh];refine ⟨fun ⟨h2,e2⟩=>?_,fun ⟨h2,e2⟩=>?_⟩
 ·simp only [↓wR,zT,simprocAttr,h2,mb (Hi fun q=>Fw e2 q.2.1)]
 simp only [↓wR,zT,simprocAttr,h2,Al,iU.2.2.1];cases h3:np a.texts b.texts with
 |false=>simp only [↓wR,zT,simprocAttr,mb (Hi fun q=>vx h3 q.2.2.1)]
 |true=>
 simp only [↓wR,zT,simprocAttr,Ku];cases h4:np a.raw b.raw with
 |false=>simp only [↓wR,zT,simprocAttr,mb (Hi fun q=>vx h4 q.2.2.2)]
 |true=>
 have eT:a.names.length=b.names.length:=zO;have hl2:a.nums.length=b.nums.length:=zO;simp only [↓wR,zT,simprocAttr];refine dq [2,3,5] (fun (i:Nat)=>[.ptr 0 0,.ptr 1 0,zi i]) (fun _=>[some (.row [zv a.names,zu a.nums,zn a.texts,zw a.raw] 0 2 116),some (.row [zv b.names,zu b.nums,zn b.texts,zw b.raw] 0 2 116)]) (fun i=>i<=a.names.length/\a.names.take i=b.names.take i) (fun i=>a.names.length - i) 0 ⟨zzb _,rfl⟩ zS zS ?_;rintro i ⟨hi,hx⟩;simp only [↓wR,zT,simprocAttr];rw [bh];refine ⟨fun h5=>?_,fun h5=>?_⟩
 ·obtain ⟨c,hc,aF,hlt⟩:=du (zp h5);obtain ⟨d,hd⟩:=F0 eT hlt;have hcl:c.length<=16777216:=by have:=(ha.name c (zm hc));have:=(ju c 0).2;unfold aw at *;omega
  simp only [↓wR,zT,simprocAttr,h5];refine ⟨zK,.inl ?_⟩;simp only [↓wR,zT,simprocAttr,hc,hd,xd,hcl];refine ⟨by apply hq;kernel_rfl,?_⟩;cases e6:np c d with
  |true=>
   repeat (first|simp only [↓wR,zT,simprocAttr]|simp (disch:=omega) only [zW])
   exact ⟨i+1,⟨hlt,Dm hx hc hd (zk e6)⟩,zO,zF⟩
  |false=>simp only [↓wR,zT,simprocAttr,mb (Hi fun q=>A0 hc hd (vx e6) q.1)]
 have mU:=Fz hx zO eT;simp only [↓wR,zT,simprocAttr,h5];refine dq [2,3,6] (fun (i:Nat)=>[.ptr 0 0,.ptr 1 0,zi i]) (fun _=>[some (.row [zv a.names,zu a.nums,zn a.texts,zw a.raw] 0 2 116),some (.row [zv b.names,zu b.nums,zn b.texts,zw b.raw] 0 2 116)]) (fun i=>i<=a.nums.length/\a.nums.take i=b.nums.take i) (fun i=>a.nums.length - i) 0 ⟨zzb _,rfl⟩ zS zS ?_;clear hi hx h5;rintro i ⟨hi,hx⟩;simp only [↓wR,zT,simprocAttr];rw [bh];refine ⟨fun h5=>?_,fun h5=>?_⟩
 ·obtain ⟨c,hc,aF,hlt⟩:=du (zp h5);obtain ⟨d,hd⟩:=F0 hl2 hlt;simp only [↓wR,zT,simprocAttr,h5];refine ⟨zK,.inl ?_⟩;simp only [↓wR,zT,simprocAttr,hc,hd];refine ⟨by apply hq;kernel_rfl,?_⟩;rw [dh];refine ⟨fun ⟨h6,e6⟩=>?_,fun ⟨h6,e6⟩=>?_⟩
  ·simp only [↓wR,zT,simprocAttr,h6,mb (Hi fun q=>A0 hc hd (fun q=>e6 (by rw [q])) q.2.1)]
  ·repeat (first|simp only [↓wR,zT,simprocAttr,h6]|simp (disch:=omega) only [zW])
   exact ⟨i+1,⟨hlt,Dm hx hc hd (UInt32.toNat_inj.1 zO)⟩,zO,zF⟩
 ·simp only [↓wR,zT,simprocAttr,h5,Hz (aFj mU (Fz hx zO hl2) (zk h3) (zk h4))]
noncomputable def C7 (x:cq × cq × Unit):Option AV:=if da x.1 then some ((r1 bk).E true (np x.1 x.2.1)) else none
theorem aah (x:cq × cq × Unit) (r:AV) (h:C7 x=some r):bj PP 63 ((aC bc (aC bc a0)).E x) r:=by obtain ⟨hc,rfl⟩:=zI h;exact az (ar.cons (aq El) (ar.cons (aq Ey) (ar.cons (aq Xt) (ar.nil PP)))) Tryz.func63 zK zK zK zL (r1 bk) true (np x.1 x.2.1) (ahb x.1 x.2.1 hc)
noncomputable abbrev aw3:zE:=(63,true,cx (aC bc (aC bc a0)) C7)
theorem Ln {a b:ba} (h:¬ (a.owner=b.owner/\a.type=b.type/\a.cls=b.cls/\a.i9=b.i9/\a.data=b.data)):a≠b:=fun q=>h (by rw [q];exact ⟨rfl,rfl,rfl,rfl,rfl⟩)
theorem aHv {a b:ba} (h1:a.owner=b.owner) (h2:a.type=b.type) (h3:a.cls=b.cls) (h4:a.i9=b.i9) (h5:a.data=b.data):a=b:=by cases a;cases b;simp_all
set_option maxHeartbeats 4000000 in
theorem aon (a b:ba) (ha:db a):wl PP [Qg,aw3] 0 (Tryz.f27.body.getD .skip) (c9 PP Tryz.f27.results.toList (fun r st=>(r1 bk).get true st.h r=some (np a b))) (cp 0 [ag.val false a,ag.val false b]) (bg []):=by
 have dT:a.owner.length<=16777216:=by have:=ha.owner;have:=(ju a.owner 0).2;unfold aw at *;omega
 have kI:=ha.data.len;have hq:∀ a b c d,ft a b c=d->ft a b c=d:=fun _ _ _ _ h=>h
 unfold Tryz.f27;simp only [jz];simp only [↓wR,zT,simprocAttr,xd,dT];cases h1:np a.owner b.owner with
 |false=>simp only [↓wR,zT,simprocAttr,mb (Ln fun q=>vx h1 q.1)]
 |true=>
 simp only [↓wR,zT,simprocAttr];rw [dh];refine ⟨fun ⟨h2,e2⟩=>?_,fun ⟨h2,e2⟩=>?_⟩
 ·simp only [↓wR,zT,simprocAttr,h2,mb (Ln fun q=>e2 (by rw [q.2.1]))]
 simp only [↓wR,zT,simprocAttr,h2];rw [dh];refine ⟨fun ⟨h3,e3⟩=>?_,fun ⟨h3,e3⟩=>?_⟩
 ·simp only [↓wR,zT,simprocAttr,h3,mb (Ln fun q=>e3 (by rw [q.2.2.1]))]
 simp only [↓wR,zT,simprocAttr,h3];rw [dh];refine ⟨fun ⟨h4,e4⟩=>?_,fun ⟨h4,e4⟩=>?_⟩
 ·simp only [↓wR,zT,simprocAttr,h4,mb (Ln fun q=>e4 (by rw [q.2.2.2.1]))]
 simp only [↓wR,zT,simprocAttr,h4];rw [dh];refine ⟨fun ⟨h5,e5⟩=>?_,fun ⟨h5,e5⟩=>?_⟩
 ·simp only [↓wR,zT,simprocAttr,h5,mb (Ln fun q=>Fw e5 q.2.2.2.2)]
 have eT:a.data.length=b.data.length:=zO;simp only [↓wR,zT,simprocAttr,h5];refine dq [2,3,5] (fun (i:Nat)=>[.ptr 0 0,.ptr 1 0,zi i]) (fun _=>[(zY a),(zY b)]) (fun i=>i<=a.data.length/\a.data.take i=b.data.take i) (fun i=>a.data.length - i) 0 ⟨zzb _,rfl⟩ zS zS ?_;rintro i ⟨hi,hx⟩;simp only [↓wR,zT,simprocAttr];rw [bh];refine ⟨fun h6=>?_,fun h6=>?_⟩
 ·obtain ⟨c,hc,aF,hlt⟩:=du (zp h6);obtain ⟨d,hd⟩:=F0 eT hlt;have hcs:=ha.data.mem c (zm hc);simp only [↓wR,zT,simprocAttr,h6];refine ⟨zK,.inl ?_⟩;simp only [↓wR,zT,simprocAttr,hc,hd,C7,hcs];refine ⟨by apply hq;kernel_rfl,?_⟩;cases e7:np c d with
  |true=>
   repeat (first|simp only [↓wR,zT,simprocAttr]|simp (disch:=omega) only [zW])
   exact ⟨i+1,⟨hlt,Dm hx hc hd (zk e7)⟩,zO,zF⟩
  |false=>simp only [↓wR,zT,simprocAttr,mb (Ln fun q=>A0 hc hd (vx e7) q.2.2.2.2)]
 ·simp only [↓wR,zT,simprocAttr,h6,Hz (aHv (zk h1) (UInt16.toNat_inj.1 zO) (UInt16.toNat_inj.1 zO) (UInt32.toNat_inj.1 zO) (Fz hx zO eT))]
noncomputable def Gb (x:ba × ba × Unit):Option AV:=if db x.1 then some ((r1 bk).E true (np x.1 x.2.1)) else none
theorem afv (x:ba × ba × Unit) (r:AV) (h:Gb x=some r):bj PP 27 ((aC ag (aC ag a0)).E x) r:=by obtain ⟨hc,rfl⟩:=zI h;exact az (ar.cons (aq Ey) (ar.cons (aq aah) (ar.nil PP))) Tryz.func27 zK zK zK zL (r1 bk) true (np x.1 x.2.1) (aon x.1 x.2.1 hc)
noncomputable abbrev aCl:zE:=(27,true,cx (aC ag (aC ag a0)) Gb)
theorem ajf (a b:List ba) (ha:xf a):wl PP [aCl] 0 (Tryz.f26.body.getD .skip) (c9 PP Tryz.f26.results.toList (fun r st=>(r1 bk).get true st.h r=some (np a b))) (cp 0 [(cg ag).val false a,(cg ag).val false b]) (bg []):=by
 have bM:=ha.1;have hq:∀ a b c d,ft a b c=d->ft a b c=d:=fun _ _ _ _ h=>h
 unfold Tryz.f26;simp only [l5];simp only [↓wR,zT,simprocAttr];rw [dh];refine ⟨fun ⟨h,e⟩=>?_,fun ⟨h,e⟩=>?_⟩
 ·simp only [↓wR,zT,simprocAttr,h,mb (Fw e)]
 have hl:a.length=b.length:=zO;simp only [↓wR,zT,simprocAttr,h];refine dq [0,1,5] (fun (i:Nat)=>[zs a,zs b,zi i]) (fun _=>[]) (fun i=>i<=a.length/\a.take i=b.take i) (fun i=>a.length - i) 0 ⟨zzb _,rfl⟩ zS zS ?_;rintro i ⟨hi,hx⟩;simp only [↓wR,zT,simprocAttr];rw [bh];refine ⟨fun h2=>?_,fun h2=>?_⟩
 ·obtain ⟨c,hc,aF,hlt⟩:=du (zp h2);obtain ⟨d,hd⟩:=F0 hl hlt;have hcs:=ha.2 c (zm hc);simp only [↓wR,zT,simprocAttr,h2];refine ⟨zK,.inl ?_⟩;simp only [↓wR,zT,simprocAttr,hc,hd,Gb,hcs];refine ⟨by apply hq;kernel_rfl,?_⟩;cases e7:np c d with
  |true=>
   repeat (first|simp only [↓wR,zT,simprocAttr]|simp (disch:=omega) only [zW])
   exact ⟨i+1,⟨hlt,Dm hx hc hd (zk e7)⟩,zO,zF⟩
  |false=>simp only [↓wR,zT,simprocAttr,mb (A0 hc hd (vx e7))]
 ·simp only [↓wR,zT,simprocAttr,h2,Hz (Fz hx zO hl)]
noncomputable def uq (x:List ba × List ba × Unit):Option AV:=if xf x.1 then some ((r1 bk).E true (np x.1 x.2.1)) else none
theorem Le (x:List ba × List ba × Unit) (r:AV) (h:uq x=some r):bj PP 26 ((aC (cg ag) (aC (cg ag) a0)).E x) r:=by obtain ⟨hc,rfl⟩:=zI h;exact az (ar.cons (aq afv) (ar.nil PP)) Tryz.func26 zK zK zK zL (r1 bk) true (np x.1 x.2.1) (ajf x.1 x.2.1 hc)
noncomputable abbrev adf:zE:=(26,true,cx (aC (cg ag) (aC (cg ag) a0)) uq)
theorem Ig {a b:mi} (h:¬ (a.tl=b.tl/\a.aa=b.aa/\a.answer=b.answer/\a.authority=b.authority/\a.ic=b.ic)):a≠b:=fun q=>h (by rw [q];exact ⟨rfl,rfl,rfl,rfl,rfl⟩)
theorem azv {a b:mi} (h1:a.tl=b.tl) (h2:a.aa=b.aa) (h3:a.answer=b.answer) (h4:a.authority=b.authority) (h5:a.ic=b.ic):a=b:=by cases a;cases b;simp_all
def V5 (r:mi):Prop:=xf r.answer/\(xf r.authority/\xf r.ic)
instance (r:mi):Decidable (V5 r):=inferInstanceAs (Decidable (_/\_))
theorem ae7 (a b:mi) (ha:V5 a):wl PP [adf] 0 (Tryz.f31.body.getD .skip) (c9 PP Tryz.f31.results.toList (fun r st=>(r1 bk).get true st.h r=some (np a b))) (cp 0 [ed.val false a,ed.val false b]) (bg []):=by
 obtain ⟨m1,m2,m3⟩:=ha;unfold Tryz.f31;simp only [Hu];simp only [↓wR,zT,simprocAttr];rw [cf];refine ⟨fun ⟨h1,e1⟩=>?_,fun ⟨h1,e1⟩=>?_⟩;rotate_left
 ·simp only [↓wR,zT,simprocAttr,h1,mb (Ig fun q=>e1 q.1)]
 simp only [↓wR,zT,simprocAttr,h1];rw [cw];refine ⟨fun h2=>?_,fun h2=>?_⟩;rotate_left
 ·have e2:a.aa≠b.aa:=by simpa using h2
  simp only [↓wR,zT,simprocAttr,h2,mb (a:=a) (b:=b) (Ig fun q=>e2 q.2.1)]
 have e2:a.aa=b.aa:=by simpa using h2
 simp only [↓wR,zT,simprocAttr,h2,uq,m1];cases h3:np a.answer b.answer with
 |false=>simp only [↓wR,zT,simprocAttr,mb (Ig fun q=>vx h3 q.2.2.1)]
 |true=>
 simp only [↓wR,zT,simprocAttr,uq,m2];cases h4:np a.authority b.authority with
 |false=>simp only [↓wR,zT,simprocAttr,mb (Ig fun q=>vx h4 q.2.2.2.1)]
 |true=>
 simp only [↓wR,zT,simprocAttr,uq,m3];cases h5:np a.ic b.ic with
 |false=>simp only [↓wR,zT,simprocAttr,mb (Ig fun q=>vx h5 q.2.2.2.2)]
 |true=>simp only [↓wR,zT,simprocAttr,Hz (azv e1 e2 (zk h3) (zk h4) (zk h5))]
noncomputable def ya (x:mi × mi × Unit):Option AV:=if V5 x.1 then some ((r1 bk).E true (np x.1 x.2.1)) else none
theorem Jc (x:mi × mi × Unit) (r:AV) (h:ya x=some r):bj PP 31 ((aC ed (aC ed a0)).E x) r:=by obtain ⟨hc,rfl⟩:=zI h;exact az (ar.cons (aq Le) (ar.nil PP)) Tryz.func31 zK zK zK zL (r1 bk) true (np x.1 x.2.1) (ae7 x.1 x.2.1 hc)
noncomputable abbrev Hh:zE:=(31,true,cx (aC ed (aC ed a0)) ya)
noncomputable def K8 (x:ay × Name × UInt16 × Unit):Option AV:=if (bo x.1/\aw x.2.1)/\ef x.1 x.2.1=0 then some ((r1 ed).E true (fy x.1 x.2.2.1 16 x.2.1 [] [])) else none
theorem amq (x:ay × Name × UInt16 × Unit) (r:AV) (h:K8 x=some r):bj PP 66 ((aC bf (aC aj (aC cj a0))).E x) r:=by obtain ⟨hc,rfl⟩:=zI h;exact Bt (body:=(Tryz.f66.body.getD .skip)) Tryz.func66 zK zK zL (r1 ed) true _ (fun B g a w aG hp hO aN hh=>aox aG hp aN hc.1.1 hc.1.2 hc.2 hh)
noncomputable abbrev aGh:zE:=(66,true,cx (aC bf (aC aj (aC cj a0))) K8)
theorem aBy (z:ay) (n:Name) (t:UInt16) (hz:bo z) (hn:aw n):wl PP [aFy,aGh] 0 (Tryz.f30.body.getD .skip) (c9 PP Tryz.f30.results.toList (fun r st=>(r2 ed (bb .i64)).get true st.h r=some (Ae z n t))) (cp 0 [bf.val false z,aj.val false n,cj.val false t]) (bg []):=by
 unfold Tryz.f30;simp only [dy,bz];unfold Ae;rw [asv];simp only [↓wR,zT,simprocAttr,Ie,hz,hn];rw [dh];refine ⟨fun ⟨h,e⟩=>?_,fun ⟨h,e⟩=>?_⟩
 ·rw [if_pos e];simp only [↓wR,zT,simprocAttr,h]
  try rfl
 ·have e0:Dg z n t=0:=zO;have ha:ef z n=0:=by
   unfold Dg at e0;by_cases q:ef z n=0
   ·exact q
   ·rw [if_pos q] at e0;exact e0
  rw [if_neg (show ¬ Dg z n t≠0 from fun q=>q e0)];obtain ⟨Y,hY⟩:∃ Y,Y=fy z t 16 n [] []:=⟨_,rfl⟩;rw [<- hY];simp only [↓wR,zT,simprocAttr,h,K8,hz,hn,ha,<- hY]
  try rfl
noncomputable def Rt (x:ay × Name × UInt16 × Unit):Option AV:=if bo x.1/\aw x.2.1 then some ((r2 ed (bb .i64)).E true (Ae x.1 x.2.1 x.2.2.1)) else none
theorem arf (x:ay × Name × UInt16 × Unit) (r:AV) (h:Rt x=some r):bj PP 30 ((aC bf (aC aj (aC cj a0))).E x) r:=by obtain ⟨hc,rfl⟩:=zI h;exact az (ar.cons (aq aj5) (ar.cons (aq amq) (ar.nil PP))) Tryz.func30 zK zK zK zL (r2 ed (bb .i64)) true (Ae x.1 x.2.1 x.2.2.1) (aBy x.1 x.2.1 x.2.2.1 hc.1 hc.2)
noncomputable abbrev aDb:zE:=(30,true,cx (aC bf (aC aj (aC cj a0))) Rt)
theorem adp {s y:ba} {n:Name} (hy:n9 y<=8388608) (ho:s.owner=n\/n9 s<=8388608) (hd:s.data=y.data) (hn:cd n<=4194304):db s:=by
 rcases ho with h|h
 ·unfold db n9;unfold n9 at hy;rw [h,hd];omega
 ·unfold db;omega
theorem Yj {z:ay} (hz:gu n9 z.ak<=8388608) {s:ba} (hs:s ∈ z.ak):n9 s<=8388608:=by have h1:n9 s<gu n9 z.ak:=E8 hs;omega
theorem O6 {z:ay} (hz:bo z) (h:fp z=0):db (nl z):=by obtain ⟨s,hs⟩:=Pn h;have h1:=hz.set s (G4 hs).1;unfold nl;rw [hs];exact h1
theorem ay5 {z:ay} (hg:G2 z):∀ (r pre:List Name),(qn z pre r).length<=r.length * 2:=by
 intro r
 induction r with
 |nil=>intro pre;simp [qn]
 |cons n r ih=>
  intro pre;have h1:=ih (pre++[n]);have h2:(z.ak.filter (sj n)).length<=2:=by
   rw [als hg,za];have a1:(iq 1 (fl z n)).length<=1:=by rw [Cb (E7 hg n) (by decide)];cases List.find? _ _<;>simp
   have a2:(iq 28 (fl z n)).length<=1:=by rw [Cb (E7 hg n) (by decide)];cases List.find? _ _<;>simp
   omega
  rw [qn,za,List.length_cons]
  split
  ·simp;omega
  ·omega
theorem avz {l:List ba} (h:∀ s ∈ l,s.data.length<=20/\(pj s=true->∀ d ∈ s.data,d.names.length=1)):(dz l).length<=20 * l.length:=by
 induction l with
 |nil=>exact zza _
 |cons s l ih=>
  have hc:dz (s::l)=lr s++dz l:=by simp [dz]
  have h1:=ih (fun x hx=>h x (by simp [hx]));obtain ⟨h2,h3⟩:=h s (by simp);have h4:(lr s).length<=20:=by
   unfold lr;cases hT:pj s with
   |false=>exact zzb _
   |true=>
    have h5:=h3 hT;have:∀ l:List cq,(∀ d ∈ l,d.names.length=1)->(ib l).length=l.length:=by
     intro l
     induction l with
     |nil=>intro _;rfl
     |cons d l ih=>
      intro h;have e:ib (d::l)=d.names++ib l:=by simp [ib]
      rw [e,za,h d (by simp),ih (fun x hx=>h x (by simp [hx])),List.length_cons];omega
    show (ib s.data).length<=20;rw [this _ h5];exact h2
  rw [hc,za,List.length_cons];omega
structure ajy (r:mi):Prop where
 ans:(∀ s ∈ r.answer,db s)/\r.answer.length<=8192
 arz:(∀ s ∈ r.authority,db s)/\r.authority.length<=8192
 add:(∀ s ∈ r.ic,db s)/\r.ic.length<=8192
theorem ajy.mid {r:mi} (h:ajy r):V5 r:=⟨⟨zzu h.ans.2 (by decide),h.ans.1⟩,⟨zzu h.arz.2 (by decide),h.arz.1⟩,⟨zzu h.add.2 (by decide),h.add.1⟩⟩
theorem tv:(∀ s ∈ ([]:List ba),db s)/\([]:List ba).length<=8192:=⟨fun s hs=>(by cases hs),zzb _⟩
theorem ajt {z:ay} (hz:bo z) (he:fp z=0) (hf:z.ak.length<=40/\∀ x ∈ z.ak,x.data.length<=20) {ans l:List ba} (hl:l.length<=40) (h:∀ s ∈ l,∃ y ∈ z.ak,s.data=y.data/\s.type=y.type):(∀ s ∈ vt z ans l,db s)/\(vt z ans l).length<=8192:=by
 have h1:(dz l).length<=20 * l.length:=avz (fun s hs=>by obtain ⟨y,hy,e1,e2⟩:=h s hs;rw [e1];refine ⟨hf.2 y hy,fun hT=>Yt he hy ?_⟩;unfold pj at hT ⊢;rw [<- e2];exact hT)
 have h2:=ay5 (Co he) (dz l) [];have h3:(vt z ans l).length<=(qn z [] (dz l)).length:=List.length_filter_le _ _;exact ⟨fun s hs=>hz.set s (ab1 _ _ (List.mem_filter.1 hs).1),zO⟩
theorem axh {z:ay} {t:UInt16} (hw:gu n9 z.ak<=8388608) (hz:bo z) (he:fp z=0) (hf:z.ak.length<=40/\∀ x ∈ z.ak,x.data.length<=20):∀ (k:Nat) (n:Name) (seen:List Name) (ans:List ba),ef z n=0->ans.length+k<=100->(∀ s ∈ ans,db s)->ajy (fy z t k n seen ans):=by
 intro k
 induction k with
 |zero=>intro n seen ans _ hl ha;exact ⟨⟨ha,by show ans.length<=_;omega⟩,tv,tv⟩
 |succ k ih=>
  intro n seen ans h hl ha;have bV:=mw (rz h).2.1;have hA:(∀ s ∈ ans,db s)/\ans.length<=8192:=⟨ha,zO⟩;have one:∀ x,db x->(∀ s ∈ [x],db s)/\[x].length<=8192:=fun x hx=>⟨fun s hs=>by rw [zz0] at hs;rw [hs];exact hx,by rw [zyg];decide⟩
  rcases aa0 t h with ⟨c,s,hc,hs,ht,ho,e⟩|⟨hc,e⟩|⟨hc,e⟩|⟨hc,l,hne,bD,AO,iU,e⟩|⟨hc,s,d,m,ht,h5,kP,ho,kX,hd,hm,pE,hy,e⟩
  ·have hv:fy z t (k+1) n seen ans=xr 0 (decide (0<ans.length)) ans [s] (vt z ans [s]):=by simp only [fy,e];rfl
   rw [hv];exact ⟨hA,one s (hz.set s hs),ajt hz he hf (by rw [zyg];decide) (fun x hx=>⟨s,hs,by rw [zz0] at hx;rw [hx];exact ⟨rfl,rfl⟩⟩)⟩
  ·have hv:fy z t (k+1) n seen ans=xr 3 true ans [nl z] []:=by simp only [fy,e];rfl
   rw [hv];exact ⟨hA,one _ (O6 hz he),tv⟩
  ·have hv:fy z t (k+1) n seen ans=xr 0 true ans [nl z] []:=by simp only [fy,e];rfl
   rw [hv];exact ⟨hA,one _ (O6 hz he),tv⟩
  ·have hv:fy z t (k+1) n seen ans=xr 0 true (ans++l) [] (vt z (ans++l) l):=by simp only [fy,e];rfl
   rw [hv];have rC:∀ s ∈ l,db s:=fun s hs=>by obtain ⟨_,p2,_,y,hy,eO,_⟩:=iU s hs;exact adp (Yj hw hy) (p2.imp id (Yj hw)) eO zO
   refine ⟨⟨fun s hs=>(zzq.1 hs).elim (ha s) (rC s),?_⟩,tv,ajt hz he hf (zzu bD hf.1) (fun x hx=>(iU x hx).2.2.2)⟩;show (ans++l).length<=_;rw [za];have:=hf.1;omega
  ·obtain ⟨y,vQ,eO,_⟩:=hy;have qF:db s:=adp (Yj hw vQ) (kX.imp id (Yj hw)) eO zO;have qI:∀ x ∈ ans++[s],db x:=fun x hx=>(zzq.1 hx).elim (ha x) (fun q=>by rw [zz0] at q;rw [q];exact qF)
   have mE:(ans++[s]).length+k<=100:=by rw [za,zyg];omega
   cases hu:dj m z.origin with
   |false=>
    rw [Qo e hu];exact ⟨⟨qI,by show (ans++[s]).length<=_;omega⟩,tv,tv⟩
   |true=>
    cases bB:vz (seen++[n]) m with
    |true=>
     rw [Qn e hu bB];exact ⟨⟨qI,by show (ans++[s]).length<=_;omega⟩,tv,tv⟩
    |false=>
     rw [V2 e hu bB];have hm0:ef z m=0:=by unfold ef;rw [if_neg zO,if_neg zO,if_neg (by rw [hu];decide)]
     exact ih _ _ _ hm0 mE qI
theorem aGa {z:ay} {n:Name} {t:UInt16} (hw:gu n9 z.ak<=8388608) (hz:bo z) (hf:z.ak.length<=40/\∀ x ∈ z.ak,x.data.length<=20):ajy (Ae z n t).1:=by
 unfold Ae
 split
 ·exact ⟨tv,tv,tv⟩
 ·rename_i h;have h1:=acx (by omega:(ti z n t).2=0);exact axh hw hz (rz h1.1).1 hf 16 n [] [] h1.1 (by simp) (fun s hs=>by cases hs)
theorem ap2 {a b:ay} (h:¬ (a.origin=b.origin/\a.ak=b.ak)):a≠b:=fun q=>h (by rw [q];exact ⟨rfl,rfl⟩)
theorem aDr {a b:ay} (h1:a.origin=b.origin) (h2:a.ak=b.ak):a=b:=by cases a;cases b;simp_all
theorem alr (a b:ay) (ha:bo a):wl PP [Qg,adf] 0 (Tryz.f18.body.getD .skip) (c9 PP Tryz.f18.results.toList (fun r st=>(r1 bk).get true st.h r=some (np a b))) (cp 0 [bf.val false a,bf.val false b]) (bg []):=by
 have h1:=ml ha.origin;unfold Tryz.f18;simp only [dy];simp only [↓wR,zT,simprocAttr,xd,h1];cases h3:np a.origin b.origin with
 |false=>simp only [↓wR,zT,simprocAttr,mb (ap2 fun q=>vx h3 q.1)]
 |true=>
 simp only [↓wR,zT,simprocAttr,uq,ha.mid];cases h4:np a.ak b.ak with
 |false=>simp only [↓wR,zT,simprocAttr,mb (ap2 fun q=>vx h4 q.2)]
 |true=>simp only [↓wR,zT,simprocAttr,Hz (aDr (zk h3) (zk h4))]
noncomputable def Db (x:ay × ay × Unit):Option AV:=if bo x.1 then some ((r1 bk).E true (np x.1 x.2.1)) else none
theorem abn (x:ay × ay × Unit) (r:AV) (h:Db x=some r):bj PP 18 ((aC bf (aC bf a0)).E x) r:=by obtain ⟨hc,rfl⟩:=zI h;exact az (ar.cons (aq Ey) (ar.cons (aq Le) (ar.nil PP))) Tryz.func18 zK zK zK zL (r1 bk) true (np x.1 x.2.1) (alr x.1 x.2.1 hc)
noncomputable abbrev ab7:zE:=(18,true,cx (aC bf (aC bf a0)) Db)
theorem ayk {z:ay} (h:Qr z=true):z.ak.length<=40/\∀ x ∈ z.ak,x.data.length<=20:=by unfold Qr abb at h;rw [zzh,zz8,decide_eq_true_eq] at h;refine ⟨zO,fun x hx=>?_⟩;have:=h.1 x hx;simp at this;omega
end Go.Proofs.YtjagjbceegbaiaaGreat
end
namespace Go.Vm
variable [TK]
noncomputable section
inductive aBp:bp->bp->Prop
 |rfl (x:bp):aBp x x
 |perm (es es':List (Value × AV)) (h:es.Perm es') (hl:loose es=true):aBp (.map es) (.map es')
structure Lit where
 i:Nat
 d:TypeDesc
 e:Value × AV
abbrev aJ7:=Nat->Option (Bool × (List AV->M AV))
def isFalse (b:Option Bool):Bool:=match b with|some false=>true|_=>false
abbrev XIR:=Ex × Option Ex × SL × St
abbrev RX:=List AV->St->Option (Ex × St)
structure XIF where
 ok:Bool
 nt:Nat
 run:aJ7->Nat->Nat->RX->List AV->St->Option XIR
end
variable [TK]
noncomputable section
def Sl:List UInt8->List UInt8->Bool
 | [],[]=>true
 |a::l,b::m=>Nat.beq a.toNat b.toNat && Sl l m
 |_,_=>false
theorem Y0:∀ {l m:List UInt8},Sl l m=true->l=m
 | [],[],_=>rfl
 |a::l,b::m,h=>by simp only [Sl,zzh] at h;rw [UInt8.toNat_inj.1 (zzg h.1),Y0 h.2]
 | [],_::_,h=>by cases h
 |_::_,[],h=>by cases h
def eqV (a b:Value):Bool:=
 match a,b with
 |.int k n,.int k' n'=>decide (k=k') && decide (n=n')
 |.bool a,.bool b=>a == b
 |.string s,.string t=>Sl s.data.toList t.data.toList
 |.slice none 0 0,.slice none 0 0=>true
 |.pointer none,.pointer none=>true
 |.map none,.map none=>true
 |.nilIface,.nilIface=>true
 |_,_=>false
theorem aGp {a b:Value} (h:eqV a b=true):a=b:=by
 unfold eqV at h
 split at h
 ·simp only [zzh,decide_eq_true_eq] at h;rw [h.1,h.2]
 ·rw [eq_of_beq h]
 ·rename_i s t;have:=Y0 h;obtain ⟨⟨s⟩⟩:=s;obtain ⟨⟨t⟩⟩:=t;cases this;rfl
 ·rfl
 ·rfl
 ·rfl
 ·rfl
 ·cases h
def qw (a b:AV):Bool:=
 match a,b with
 |.sc v,.sc u=>eqV v u
 |.agg l,.agg m=>eqL l m
 |.iw l,.iw m=>eqL l m
 |.vl loc sz l,.vl lT bC m=>(loc == lT) && (Nat.beq sz bC && eqL l m)
 |.sl o f n z,.sl o' f' n' z'=>(Nat.beq o o' && Nat.beq f f') && (Nat.beq n n' && Nat.beq z z')
 |.ez,.ez=>true
 |.ptr o f,.ptr o' f'=>Nat.beq o o' && Nat.beq f f'
 |.mp o,.mp o'=>Nat.beq o o'
 |.bad,.bad=>true
 |_,_=>false
where eqL:List AV->List AV->Bool
 | [],[]=>true
 |a::l,b::m=>qw a b && eqL l m
 |_,_=>false
mutual
theorem aEw:∀ {a b:AV},qw a b=true->a=b
 |.sc v,b,h=>by
  cases b with
  |sc u=>rw [aGp (a:=v) (b:=u) (by simpa [qw] using h)]
  |_=>simp [qw] at h
 |.agg l,b,h=>by
  cases b with
  |agg m=>rw [Of (l:=l) (m:=m) (by simpa [qw] using h)]
  |_=>simp [qw] at h
 |.iw l,b,h=>by
  cases b with
  |iw m=>rw [Of (l:=l) (m:=m) (by simpa [qw] using h)]
  |_=>simp [qw] at h
 |.vl loc sz l,b,h=>by
  cases b with
  |vl lT bC m=>
   simp only [qw,zzh] at h;rw [eq_of_beq h.1,zzg h.2.1,Of (l:=l) (m:=m) h.2.2]
  |_=>simp [qw] at h
 |.sl o f n z,b,h=>by
  cases b with
  |sl o' f' n' z'=>
   simp only [qw,zzh] at h;rw [zzg h.1.1,zzg h.1.2,zzg h.2.1,zzg h.2.2]
  |_=>simp [qw] at h
 |.ez,b,h=>by
  cases b with
  |ez=>rfl
  |_=>simp [qw] at h
 |.ptr o f,b,h=>by
  cases b with
  |ptr o' f'=>
   simp only [qw,zzh] at h;rw [zzg h.1,zzg h.2]
  |_=>simp [qw] at h
 |.mp o,b,h=>by
  cases b with
  |mp o'=>
   simp only [qw] at h;rw [zzg h]
  |_=>simp [qw] at h
 |.bad,b,h=>by
  cases b with
  |bad=>rfl
  |_=>simp [qw] at h
 |.fe _,b,h=>by cases b<;>simp [qw] at h
 |.fn ..,b,h=>by cases b<;>simp [qw] at h
 |.tt ..,b,h=>by cases b<;>simp [qw] at h
 |.yl _,b,h=>by cases b<;>simp [qw] at h
theorem Of:∀ {l m:List AV},qw.eqL l m=true->l=m
 | [],[],_=>rfl
 |a::l,b::m,h=>by simp only [qw.eqL,zzh] at h;rw [aEw h.1,Of h.2]
 | [],_::_,h=>by simp [qw.eqL] at h
 |_::_,[],h=>by simp [qw.eqL] at h
end
structure DP where
 left:List Nat
 L:SL
 st:St
structure aKi (t:DP) (L:SL) (st:St):Prop where
 nx:t.st.nx=st.nx
 L:∀ k,lk t.L k=lk L k
 obj:∀ o x,t.st.h.get o=some x->∃ y,st.h.get o=some y/\aBp x y
end
variable [TK]
noncomputable section
theorem F9 {P:Program} [KP P] (w:World):∀ (ns:List Int) (a:Addr) (i:Nat) (acc:ByteArray),(∀ (j:Nat) x,ns[j]? = some x->(load (a.add (i+j))).run P w = .ok (.int .u8 x) w) ->
 (Extern.Bytes.loadBytes (a.add i) ns.length acc).run P w = .ok ⟨acc.data++(ns.map fun n=>UInt8.ofNat n.toNat).toArray⟩ w
 | [],a,i,acc,_=>by simp [Extern.Bytes.loadBytes]
 |x::l,a,i,acc,h=>by
  have h0:=h 0 x rfl;rw [Nat.add_zero] at h0;have e:(a.add i).add 1=a.add (i+1):=by
   unfold Addr.add;by_cases hj:i=0
   ·subst hj;simp
   ·simp [hj];omega
  have ih:=F9 (P:=P) w l a (i+1) (acc.push x.toNat.toUInt8) (fun j y hy=>by have:=h (j+1) y (by simpa using hy);rw [show i+1+j=i+(j+1) from by omega];exact this)
  simp only [List.length_cons,Extern.Bytes.loadBytes,Sem.run_bind,h0,Result.andThen];rw [e,ih]
  congr 1
  apply ByteArray.ext;simp [ByteArray.push,Nat.toUInt8]
theorem aac {l:List Int} {l':List Value} (h:l'=l.map (Value.int .u8)) (j:Nat) (x:Int) (hx:l[j]? = some x):l'[j]? = some (.int .u8 x):=by rw [h,zzj,hx];rfl
theorem Gi {P:Program} [KP P] {g st gp w} {a:AV} {v:Value} {l:List AV} {bs:List UInt8} (aB:Ok g st.h w) (hr:Rel g w a v) (h:cellsIn 1 a st=some (l,gp)) (hb:bytesOf l=some bs) :
 (Extern.Bytes.bytesOf v).run P w = .ok ⟨bs.toArray⟩ w:=by
 obtain ⟨_,_,n,news,bK,hrl⟩:=Ag (P:=P) aB hr h;obtain ⟨ns,e1,e2⟩:=Hf _ _ _ hrl hb;obtain ⟨r1,r2⟩:=bK.run w rfl;cases v with
 |slice p len cap=>
  have hn:n=len:=by simp [Builtin.lenOf] at r1;exact r1.symm
  subst hn;cases p with
  |none=>
   have:news=[]:=by simpa [Builtin.firstCells] using r2
   subst this;have:ns=[]:=by simpa using e1.symm
   subst this;subst e2;rfl
  |some a=>
   simp only [Builtin.firstCells,Nat.mul_one] at r2;unfold loadCells at r2;obtain ⟨l',q1,q2,q3⟩:=loadCellsFrom_ok a n 0 #[] _ _ r2;have hl':l'=news:=by simpa using q2.symm
   subst hl';have hlen:ns.length=n:=by rw [<- q1,e1,zzo]
   have:=F9 (P:=P) w ns a 0 .empty (fun j x hx=>by exact q3 j _ (aac e1 j x hx))
   rw [hlen] at this;have e0:a.add 0=a:=by simp [Addr.add]
   rw [e0] at this;show (Extern.Bytes.loadBytes a n .empty).run P w=_;rw [this,e2]
   congr 2
   simp [ByteArray.empty,ByteArray.emptyWithCapacity];rfl
 |string s=>
  have hn:n=s.size:=by simp [Builtin.lenOf] at r1;exact r1.symm
  subst hn;simp only [Builtin.firstCells,Sem.run_pure,Result.ok.injEq,and_true] at r2;have h1:=congrArg Array.toList r2;rw [e1] at h1;show Result.ok s w=_
  congr 1
  apply ByteArray.ext;apply Array.ext';rw [e2];have h2:=congrArg (List.map fun v:Value=>match v with|.int _ n=>UInt8.ofNat n.toNat|_=>0) h1;simp only [List.map_map,Array.toList_map] at h2;have h3:(s.extract 0 s.size).data.toList=s.data.toList:=by simp
  rw [h3] at h2;have h4:(List.map ((fun v:Value=>match v with|.int _ n=>UInt8.ofNat n.toNat|_=>0) ∘ fun b:UInt8=>Value.int .u8 (b.toNat:Int)) s.data.toList)=s.data.toList:=by rw [show ((fun v:Value=>match v with|.int _ n=>UInt8.ofNat n.toNat|_=>0) ∘ fun b:UInt8=>Value.int .u8 (b.toNat:Int))=id from by funext b;simp];simp
  rw [h4] at h2;rw [h2];simp
 |_=>simp [Builtin.lenOf,stuck] at r1
def aIt (args:List AV):M AV:=
 match args with
 | [a]=>.pure a
 |_=>.fail
def mr (args:List AV):M AV:=
 match args with
 | [a,b]=>(cellsIn 1 a).bind fun x=>(cellsIn 1 b).bind fun y=>
  match bytesOf x with
  |some x=>
   match bytesOf y with
   |some y=>.pure (.sc (goInt (Lib.compareBytes x y)))
   |none=>.fail
  |none=>.fail
 |_=>.fail
def fk {α:Type} (m:M α):Prop:=∀ st v gp,m st=some (v,gp)->gp.h=st.h/\gp.nx=st.nx
theorem fk.pure {α:Type} (a : α):fk (M.pure a):=fun st v gp h=>by cases h;exact ⟨rfl,rfl⟩
theorem fk.fail {α:Type}:fk (M.fail:M α):=fun st v gp h=>by cases h
theorem fk.bind {α β:Type} {m:M α} {f : α->M β} (hm:fk m) (h:∀ x,fk (f x)):fk (m.bind f):=fun st v gp hb=>by obtain ⟨x,s1,h1,h2⟩:=bind_some hb;have h3:=hm _ _ _ h1;have h4:=h x _ _ _ h2;exact ⟨h4.1.trans h3.1,h4.2.trans h3.2⟩
theorem fk.er (id:Nat):fk (Vm.er id):=fun zC _v sW h=>(i6 h).2
theorem fk.cond {α:Type} {b:Bool} {x y:M α} (hx:fk x) (hy:fk y):fk (bif b then x else y):=by cases b<;>assumption
theorem fk.cellsIn (sz:Nat) (v:AV):fk (Vm.cellsIn sz v):=by
 unfold Vm.cellsIn Il
 repeat' (first|exact fk.pure _|exact fk.fail|apply fk.cond|(refine fk.bind (fk.er _) fun x=>?_)|split)
theorem D5 (args:List AV):fk (mr args):=by
 unfold mr;split
 ·exact fk.bind (fk.cellsIn _ _) fun x=>fk.bind (fk.cellsIn _ _) fun y=>by
   split
   ·split
    ·exact fk.pure _
    ·exact fk.fail
   ·exact fk.fail
 ·exact fk.fail
theorem Ia {P:Program} [KP P] {f:Nat} {fn:Func} (hf:P.funcs[f]? = some fn) (h1:(fn.name == "runtime.NumGoroutine")=false) (h2:fn.body.isNone=true) (h3:Extern.findNext fn=none) (h4:Extern.find fn=some Extern.BytealgCompare.compare) (args:List AV) :
 agd P f args (mr args):=by
 intro g st w vs r st' aB bU aY hrel hm;refine .inl ?_;have hst:=D5 _ _ _ _ hm;unfold mr at hm
 split at hm
 ·rename_i a c;obtain ⟨x,s1,e1,hm⟩:=bind_some hm;obtain ⟨y,s2,e2,hm⟩:=bind_some hm;cases hx:bytesOf x with
  |none=>rw [hx] at hm;cases hm
  |some bx=>
  cases hy:bytesOf y with
  |none=>rw [hx,hy] at hm;cases hm
  |some yb=>
  rw [hx,hy] at hm;cases hm;have hh:=fk.cellsIn _ _ _ _ _ e1
  match vs,hrel with
  | [v,u],hrel=>
   have r1:=Gi (P:=P) aB hrel.head e1 hx;have r2:=Gi (P:=P) (st:=s1) (by rw [hh.1];exact aB) hrel.tail.head e2 hy;refine ⟨goInt (Lib.compareBytes bx yb),w,g,?_,?_,?_,.sc _⟩
   ·rw [run_callFunc_extern hf h1 h2 h3 h4];have:(Extern.BytealgCompare.compare #[v,u]).run P w = .ok (goInt (Lib.compareBytes bx yb)) w:=by
     change Sem.run P (do pure (goInt (Extern.BytealgCompare.cmp (<- Extern.Bytes.bytesOf v) (<- Extern.Bytes.bytesOf u)))) w=_;simp only [Sem.run_bind,r1,r2,Result.andThen,Sem.run_pure];rw [Lib.cmp_eq]
    show ((Extern.BytealgCompare.compare #[v,u]).run P w).andThen _=_;rw [this];rfl
   ·rw [hst.1,hst.2];exact .refl _ _ _ _ _
   ·rw [hst.1];exact aB
  | [],hrel=>have:=hrel.1;simp at this
  | [v],hrel=>have:=hrel.1;simp at this
  |_::_::_::_,hrel=>have:=hrel.1;simp at this
 ·cases hm
end
end Go.Vm
section
namespace Go.Proofs.YtjagjbceegbaiaaGreat
open Go.Vm
def vp:ByteArray:=⟨#[108,101,110,116]⟩
def yr (k:Nat):List AV:=List.replicate k (.sc (.string vp))++List.replicate (3 - k) (.sc (.string ⟨#[]⟩))
theorem aoh {k:Nat} (h:k<=3):AV.names.go (yr k)=[]:=by rcases (show k=0\/k=1\/k=2\/k=3 by omega) with rfl|rfl|rfl|rfl<;>rfl
theorem awo {k:Nat} (h:k<=3) (τ:Nat->Option Nat):(yr k).map (AV.de τ)=yr k:=by rcases (show k=0\/k=1\/k=2\/k=3 by omega) with rfl|rfl|rfl|rfl<;>rfl
theorem aHw (n:Name):wl PP [] 0 (mz 1 (Tryz.f40.body.getD .skip)) (tq (fun L st=>L=[(2,.sc (.slice none 0 0)),(0,zn n)]/\st=bg []) Mn) (cp 0 [aj.val false n]) (bg []):=by unfold Tryz.f40;simp only [bz];simp only [↓wR,zT,simprocAttr,↓gx,↓kc,↓ig,↓ij,↓jk,↓jl,↓mf,↓me,↓ot,ly,mg,mh]
theorem aF0 (n:Name) (hn:aw n):opsL PP [] (jh (ff 1 (Tryz.f40.body.getD .skip))) ((jh (ff 1 (Tryz.f40.body.getD .skip))).toList.take 3) (fun L st=>L=[(7,zi ((n.length:Int)+3)),(6,.sc (.int .i64 n.length)),(5,zn n),(2,.sc (.slice none 0 0)),(0,zn n)]/\st=bg []) [(2,.sc (.slice none 0 0)),(0,zn n)] (bg []):=by have hl:=ml hn;unfold Tryz.f40;have hw:IntKind.i64.wrap ((n.length:Int)+3)=(n.length:Int)+3:=Fb zO zO;simp only [↓wR,zT,simprocAttr,↓gx,↓kc,↓ig,↓ij,↓jk,↓jl,↓mf,↓me,↓ot,ly,mg,mh,List.take_succ_cons,List.take_zero,hw]
theorem aGb (n:Name) (hn:aw n):wl PP [] 0 (mz 2 (fm 2 (Tryz.f40.body.getD .skip))) (tq (fun L st=>lk L 3 = .sl 0 0 (n.length+3) 1/\lk L 0 = zn n/\st.h.get 0=some (.row (n.map (ai.val false)++List.replicate 3 (.sc (.string vp))) 0 0 9)) Mn) [(0,zn n),(3,.sl 0 0 (n.length+3) 1)] (bg [some (.row (List.replicate (n.length+3) (.sc (.string ⟨#[]⟩))) 0 0 9)]):=by
 have hl:=ml hn;unfold Tryz.f40;have xA:(if n.length<=n.length+3 then n.length else n.length+3)=n.length:=if_pos zO;have hdr:List.drop n.length (AV.sc (Value.string ⟨#[]⟩) :: .sc (.string ⟨#[]⟩) :: .sc (.string ⟨#[]⟩)::List.replicate n.length (.sc (.string ⟨#[]⟩)))=[.sc (.string ⟨#[]⟩),.sc (.string ⟨#[]⟩),.sc (.string ⟨#[]⟩)]:=by have e:(AV.sc (Value.string ⟨#[]⟩) :: .sc (.string ⟨#[]⟩) :: .sc (.string ⟨#[]⟩)::List.replicate n.length (.sc (.string ⟨#[]⟩)))=List.replicate (n.length+3) (AV.sc (Value.string ⟨#[]⟩)):=rfl;rw [e,List.drop_replicate,Nat.add_sub_cancel_left];rfl
 have hle:n.length<=n.length+1+1+1:=zO;simp only [↓wR,zT,simprocAttr,↓gx,↓kc,↓ig,↓ij,↓jk,↓jl,↓mf,↓me,↓ot,ly,mg,mh,xA,zz7,hdr,hle];refine dq [0,3,4] (fun (k:Nat)=>[zn n,.sl 0 0 (n.length+3) 1,zi ((n.length+k:Nat))]) (fun k=>[some (.row (n.map (ai.val false)++yr k) 0 0 9)]) (fun k=>k<=3) (fun k=>3 - k) 0 (by decide) zS (by simp only [↓wR,zT,simprocAttr,yr]<;>rfl) ?_;intro k hk;have so:k<3->(yr k).set k (.sc (.string vp))=yr (k+1):=fun h=>by rcases (show k=0\/k=1\/k=2 by omega) with rfl|rfl|rfl<;>rfl
 have hcl:(yr k).length=3:=by unfold yr;simp;omega
 have cU:k<3->List.take (n.length+k) (n.map (ai.val false)++yr k)++[.sc (.string ⟨#[108,101,110,116]⟩)]++List.drop (n.length+k+1) (n.map (ai.val false)++yr k)=n.map (ai.val false)++yr (k+1):=fun h=>by rw [<- so h,zzc];have:=(List.set_eq_take_append_cons_drop (l:=n.map (ai.val false)++yr k) (i:=n.length+k) (a:=AV.sc (.string vp)));rw [if_pos (by rw [za,zzo,hcl];omega)] at this;refine Eq.trans this.symm ?_;rw [List.set_append,if_neg (by rw [zzo];omega),zzo,Nat.add_sub_cancel_left]
 simp only [↓wR,zT,simprocAttr];rw [bh];refine ⟨fun h=>?_,fun h=>?_⟩
 ·have h3:k<3:=zO;have hs2:=cU h3;have hb:n.length+k+1<=n.length+(yr k).length:=zO;have hlt:n.length+k<n.length+1+1+1:=zO;have hN:=aoh (show k+1<=3 by omega);have hR:=awo (show k+1<=3 by omega);have hcast:((n.length+k:Nat):Int)+1=((n.length+(k+1):Nat):Int):=zO
  repeat (first|simp only [↓wR,zT,simprocAttr,h,hlt,hb,hs2,hN,hR,hcast]|simp (disch:=omega) only [zW])
  exact ⟨k+1,zO,zO,rfl,rfl⟩
 ·have hk3:k=3:=zO;subst hk3;simp only [↓wR,zT,simprocAttr,h,↓gx,↓kc,↓ig,↓ij,↓jk,↓jl,↓mf,↓me,↓ot,ly,mg,mh];rfl
noncomputable def gi (r i:Nat):Oper:=(jh (ff r (Tryz.f40.body.getD .skip))).toList.getD i ⟨none,.move (.tmp 0),0, "",#[],none⟩
theorem awn (n:Name) (hn:aw n):gw PP [] (gi 1 3) (dv [(7,zi ((n.length:Int)+3)),(6,.sc (.int .i64 n.length)),(5,zn n),(2,.sc (.slice none 0 0)),(0,zn n)]) (bg [])=some (.sl 0 0 (n.length+3) 1,{ h:=(bg [some (.row (List.replicate (n.length+3) (.sc (.string ⟨#[]⟩))) 0 0 9)]).h,nx:=1,rl:=[],wl:=[0] }):=by have hl:=ml hn;unfold gi Tryz.f40;have c1:(0:Int)<=(n.length:Int)+3:=zO;have c2:((n.length:Int)+3).toNat=n.length+3:=zO;have c3:((n.length:Int)+3) * 16<=140737488355328:=zO;have c4:(n.length:Int)+3<=140737488355328:=zO;have c5:ByteArray.empty=⟨#[]⟩:=rfl;simp only [↓wR,zT,simprocAttr,↓gx,↓kc,↓ig,↓ij,↓jk,↓jl,↓mf,↓me,↓ot,ly,mg,mh,List.getD_cons_succ,List.getD_cons_zero,c1,c2,c3,c4,c5,Int.le_refl]
theorem Us:(jh (ff 1 (Tryz.f40.body.getD .skip))).toList=(jh (ff 1 (Tryz.f40.body.getD .skip))).toList.take 3++[gi 1 3,gi 1 4]:=zK
theorem Vo:(jh (ff 4 (Tryz.f40.body.getD .skip))).toList=[gi 4 0]++[gi 4 1,gi 4 2]++[gi 4 3,gi 4 4]:=zK
theorem Gc:(gi 1 3).op = .makeSlice 22 (.tmp 7) (.tmp 7)/\(gi 1 3).dst=some 8/\(gi 1 3).guard=none:=⟨zK,zK,zK⟩
theorem Jd:(gi 1 4).op = .assign (.tmp 8)/\(gi 1 4).dst=some 3/\(gi 1 4).guard=none:=⟨zK,zK,zK⟩
theorem Jo:(gi 4 0).op = .move (.tmp 3)/\(gi 4 0).dst=some 23/\(gi 4 0).guard=none:=⟨zK,zK,zK⟩
theorem Jj:(gi 4 1).op = .move (.tmp 0)/\(gi 4 1).dst=some 24/\(gi 4 1).guard=none:=⟨zK,zK,zK⟩
theorem Qe:(∃ ats,(gi 4 2).op = .call { callee:=.builtin .len,args:=#[.tmp 24],argTypes:=ats })/\(gi 4 2).dst=some 25/\(gi 4 2).guard=none:=⟨⟨#[22],zK⟩,zK,zK⟩
theorem Kg:(gi 4 3).op = .slice 22 (.tmp 23) none (some (.tmp 25)) none/\(gi 4 3).dst=some 26/\(gi 4 3).guard=none:=⟨zK,zK,zK⟩
theorem Jv:(gi 4 4).op = .assign (.tmp 26)/\(gi 4 4).dst=some 2/\(gi 4 4).guard=none:=⟨zK,zK,zK⟩
theorem aB4 (n:Name) (hn:aw n) (L:SL) (st:St) (h:lk L 24 = zn n):gw PP [] (gi 4 2) (dv L) st=some (.sc (.int .i64 n.length),st):=by have hl:=ml hn;unfold gi Tryz.f40;simp only [↓wR,zT,simprocAttr,↓gx,↓kc,↓ig,↓ij,↓jk,↓jl,↓mf,↓me,↓ot,ly,mg,mh,List.getD_cons_succ,List.getD_cons_zero,h]
theorem aru (n:Name) (hn:aw n) (L:SL) (st:St) (yI:lk L 23 = .sl 0 0 (n.length+3) 1) (sQ:lk L 25 = .sc (.int .i64 n.length)):gw PP [] (gi 4 3) (dv L) st=some (.sl 0 0 n.length 1,st):=by have hl:=ml hn;have hle:n.length<=n.length+3:=zO;unfold gi Tryz.f40;simp only [↓wR,zT,simprocAttr,↓gx,↓kc,↓ig,↓ij,↓jk,↓jl,↓mf,↓me,↓ot,ly,mg,mh,List.getD_cons_succ,List.getD_cons_zero,yI,sQ,hle,Nat.sub_zero]
theorem anw (n:Name) (L:SL) (sQ:lk L 25 = .sc (.int .i64 n.length)):bounds (dv L) (n.length+3) none (some (.tmp 25)) none=some (0,n.length,false):=by have hle:n.length<=n.length+3:=zO;unfold bounds Gy;simp only [↓wR,zT,simprocAttr,sQ,hle]
def Ly (n:Name):List Value:=n.map Value.string++List.replicate 3 (.string vp)
def Ai (b:Nat) (n:Name):Value:=.slice (some ⟨b,0,none⟩) n.length (n.length+3)
def alg (n:Name) (cs:Array Value):Prop:=∀ (i:Nat) v,(Ly n)[i]? = some v->cs[i]? = some v
def uc (n:Name) (b:Nat) (w:World):Prop:=∃ cs,w.heap[b]? = some (.cells cs 9 (0,0))/\alg n cs
theorem aae (r i:Nat) {ρ:Operand->AV} (h:∀ f args ats,(gi r i).op ≠ .call { callee:=.value f,args:=args,argTypes:=ats }):gw PP [] (gi r i) ρ=mono (Dz PP (gi r i) ρ):=by
 unfold gw
 split
 ·rename_i q;exact (h _ _ _ q).elim
 ·rfl
theorem alx (n:Name) {i:Nat} {v:Value} (h:(Ly n)[i]? = some v):(n.map (ai.val false)++List.replicate 3 (AV.sc (.string vp)))[i]? = some (.sc v):=by
 have e:n.map (ai.val false)++List.replicate 3 (AV.sc (.string vp))=(Ly n).map AV.sc:=by unfold Ly;rw [zzw,List.map_map];rfl
 rw [e,zzj,h];rfl
theorem aum {B:fi} (aG:B.k6) (hp:B.be=0) (aN:B.n0<=B.w.heap.size) (hb0:B.b0=B.w.heap.size) {n:Name} (hn:aw n) {g:Gh} {ac:Act} {w:World}
 (hh:gj B (27:Nat) (cp 0 [aj.val false n]) (bg []) g ac w):((Tryz.f40.body.getD .skip)).wpIn (fu none) 0 PP (fun ex a' w'=>ex = .ret/\∃ L st g' b cs,gj B (27:Nat) L st g' a' w'/\a'.tmps.getD 2 undef=Ai b n/\B.w.heap.size<=b/\w'.heap[b]? = some (.cells cs 9 (0,0))/\alg n cs) ac w:=by
 have hl:=ml hn;refine wk (ar.nil PP) zK aG zO aN (Q:=tq (fun L st=>L=[(2,.sc (.slice none 0 0)),(0,zn n)]/\st=bg []) Mn) 0 (Tryz.f40.body.getD .skip) zK zK ?_ _ _ g ac w (by rw [hp];exact aHw n) hh;rintro e L1 gp g1 a1 w1 hq dW;cases e with
 |ret=>exact hq.elim
 |exit id=>exact hq.elim
 |normal=>
 obtain ⟨rfl,rfl⟩:=hq;show (fm 1 (Tryz.f40.body.getD .skip)).wpIn (fu none) 0 PP _ a1 w1;refine Kc (Ar zK) (wpIn_seq ?_);have fP:ff 1 (Tryz.f40.body.getD .skip) = .region (idC (ff 1 (Tryz.f40.body.getD .skip))) (jh (ff 1 (Tryz.f40.body.getD .skip))) false:=zK;rw [fP];refine Fm ?_;rw [Us];have hgd:mq (27:Nat) (jh (ff 1 (Tryz.f40.body.getD .skip)))=true:=zK;have dB:ri (27:Nat) (jh (ff 1 (Tryz.f40.body.getD .skip)))=true:=zK;have hm:∀ o ∈ (jh (ff 1 (Tryz.f40.body.getD .skip))).toList.take 3++[gi 1 3,gi 1 4],o ∈ jh (ff 1 (Tryz.f40.body.getD .skip)):=fun o ho=>by rw [<- Us] at ho;exact Array.mem_toList_iff.1 ho
 refine azz (ar.nil PP) aG hgd dB (fun o ho=>hm o (zzq.2 (.inl ho))) (aF0 n hn) dW ?_;rintro L2 zU g2 a2 w2 ⟨rfl,rfl⟩ cL;have hmk:=awn n hn;rw [aae 1 3 (fun f args ats q=>by rw [Gc.1] at q;cases q)] at hmk;have kB:=(u4 hmk).1;have qY:o8 PP 22 (dv [(7,zi ((n.length:Int)+3)),(6,.sc (.int .i64 n.length)),(5,zn n),(2,.sc (.slice none 0 0)),(0,zn n)] (.tmp 7)) (dv [(7,zi ((n.length:Int)+3)),(6,.sc (.int .i64 n.length)),(5,zn n),(2,.sc (.slice none 0 0)),(0,zn n)] (.tmp 7)) (bg [])=some (.sl 0 0 (n.length+3) 1,{ h:=(bg [some (.row (List.replicate (n.length+3) (.sc (.string ⟨#[]⟩))) 0 0 9)]).h,nx:=1,rl:=[],wl:=[0] }):=by unfold Dz at kB;rw [Gc.1] at kB;exact kB
 refine wq (ar.nil PP) aG hgd dB (hm _ (by simp)) Gc.2.2 hmk cL (au5 (n:=(n.length:Int)+3) (m:=(n.length:Int)+3) Gc.1 (cL.sl.eval _) (cL.sl.eval _) qY rfl rfl) ?_;intro g3 w3 fD;rw [Gc.2.1] at fD ⊢;have e7:(((n.length:Int)+3).toNat)=n.length+3:=zO;rw [e7] at fD ⊢;obtain ⟨b,hb⟩:∃ b,b=w2.heap.size:=⟨_,rfl⟩;rw [<- hb] at fD ⊢;obtain ⟨a3,uK⟩:∃ a3,a3=a2.put (some 8) (.slice (some ⟨b,0,none⟩) (n.length+3) (n.length+3)):=⟨_,rfl⟩;have h8:a3.tmps.getD 8 undef = .slice (some ⟨b,0,none⟩) (n.length+3) (n.length+3):=by rw [uK];have hs:=cL.sl.1.size;exact (Ab (fun d e=>by cases e;rw [hs];decide)).trans (if_pos rfl)
 rw [<- uK] at fD ⊢;have has:mono (Dz PP (gi 1 4) (dv (kn (some 8) (.sl 0 0 (n.length+3) 1) [(7,zi ((n.length:Int)+3)),(6,.sc (.int .i64 n.length)),(5,zn n),(2,.sc (.slice none 0 0)),(0,zn n)]))) { h:=(bg [some (.row (List.replicate (n.length+3) (.sc (.string ⟨#[]⟩))) 0 0 9)]).h,nx:=1,rl:=[],wl:=[0] }=some (.sl 0 0 (n.length+3) 1,{ h:=(bg [some (.row (List.replicate (n.length+3) (.sc (.string ⟨#[]⟩))) 0 0 9)]).h,nx:=1,rl:=[],wl:=[0] }):=by unfold Dz;rw [Jd.1];exact Kb _ _
 refine wq (ar.nil PP) aG hgd dB (hm _ (by simp)) Jd.2.2 has fD (J0 (.inr Jd.1) (show a3.eval (.tmp 8)=_ from h8)) ?_;intro g4 w4 eI;rw [Jd.2.1] at eI ⊢;refine alp ?_;obtain ⟨a4,uJ⟩:∃ a4,a4=a3.put (some 3) (.slice (some ⟨b,0,none⟩) (n.length+3) (n.length+3)):=⟨_,rfl⟩;have h3:a4.tmps.getD 3 undef = .slice (some ⟨b,0,none⟩) (n.length+3) (n.length+3):=by rw [uJ];have hs:=fD.sl.1.size;exact (Ab (fun d e=>by cases e;rw [hs];decide)).trans (if_pos rfl)
 rw [<- uJ] at eI ⊢;have eV:gj B (s6 27 [3] a4.tmps) [(0,zn n),(3,.sl 0 0 (n.length+3) 1)] (bg [some (.row (List.replicate (n.length+3) (.sc (.string ⟨#[]⟩))) 0 0 9)]) g4 a4 w4:=by
  refine eI.less (S0 [3] eI.sl.1) (fun t=>?_) rfl (fun _=>rfl);simp only [kn,og,avq];by_cases t3 : 3=t
  ·subst t3;exact .inl rfl
  by_cases t0 : 0=t
  ·subst t0;exact .inl rfl
  ·rw [if_neg t0,if_neg t3];exact .inr rfl
 refine wk (ar.nil PP) zK aG zO aN (nt:=s6 27 [3] a4.tmps) (Q:=tq (fun L st=>lk L 3 = .sl 0 0 (n.length+3) 1/\lk L 0 = zn n/\st.h.get 0=some (.row (n.map (ai.val false)++List.replicate 3 (.sc (.string vp))) 0 0 9)) Mn) 1 (fm 2 (Tryz.f40.body.getD .skip)) zK (Gp (x:=#[]) zK) ?_ _ _ _ a4 w4 (by rw [hp];exact aGb n hn) eV;rintro e L6 lO g6 a6 w6 hq rM;cases e with
 |ret=>exact hq.elim
 |exit id=>exact hq.elim
 |normal=>
 obtain ⟨q3,q0,qo⟩:=hq;have rY:fm (1+1) (fm 2 (Tryz.f40.body.getD .skip))=fm 4 (Tryz.f40.body.getD .skip):=zK;rw [rY];show (fm 4 (Tryz.f40.body.getD .skip)).wpIn (fu none) 0 PP _ a6 w6;have f3:a6.tmps.getD 3 undef = .slice (some ⟨b,0,none⟩) (n.length+3) (n.length+3):=(B3 rM.sl.1 (by decide)).trans h3;refine Kc (Ar zK) (wpIn_seq ?_);have mJ:ff 4 (Tryz.f40.body.getD .skip) = .region (idC (ff 4 (Tryz.f40.body.getD .skip))) (jh (ff 4 (Tryz.f40.body.getD .skip))) false:=zK;rw [mJ];refine Fm ?_;rw [Vo];have gA:mq (s6 27 [3] a4.tmps) (jh (ff 4 (Tryz.f40.body.getD .skip)))=true:=zK;have gD:ri (s6 27 [3] a4.tmps) (jh (ff 4 (Tryz.f40.body.getD .skip)))=true:=zK;have hm4:∀ o ∈ [gi 4 0]++[gi 4 1,gi 4 2]++[gi 4 3,gi 4 4],o ∈ jh (ff 4 (Tryz.f40.body.getD .skip)):=fun o ho=>by rw [<- Vo] at ho;exact Array.mem_toList_iff.1 ho
 have hsz:∀ {L st g w} {a:Act},gj B (s6 27 [3] a4.tmps) L st g a w->a.tmps.size=27:=fun h=>h.sl.1.size
 refine wq (ar.nil PP) aG gA gD (hm4 _ (by simp)) Jo.2.2 (r:=lk L6 3) (st':=lO) (by unfold Dz;rw [Jo.1];exact Kb _ _) rM (J0 (.inl Jo.1) (show a6.eval (.tmp 3)=_ from f3)) ?_;intro g7 w7 fY;rw [Jo.2.1] at fY ⊢;obtain ⟨a7,uI⟩:∃ a7,a7=a6.put (some 23) (.slice (some ⟨b,0,none⟩) (n.length+3) (n.length+3)):=⟨_,rfl⟩;have s7:a7.tmps.getD 23 undef = .slice (some ⟨b,0,none⟩) (n.length+3) (n.length+3):=by rw [uI];have hs:=hsz rM;exact (Ab (fun d e=>by cases e;rw [hs];decide)).trans (if_pos rfl)
 rw [<- uI] at fY ⊢;refine wq (ar.nil PP) aG gA gD (hm4 _ (by simp)) Jj.2.2 (r:=lk L6 0) (st':=lO) (by unfold Dz;rw [Jj.1];exact Kb _ _) fY (J0 (.inl Jj.1) (show a7.eval (.tmp 0)=a7.tmps.getD 0 undef from rfl)) ?_;intro g8 w8 kG;rw [Jj.2.1] at kG ⊢;obtain ⟨a8,uH⟩:∃ a8,a8=a7.put (some 24) (a7.tmps.getD 0 undef):=⟨_,rfl⟩;have s8:a8.tmps.getD 23 undef = .slice (some ⟨b,0,none⟩) (n.length+3) (n.length+3):=by rw [uH];have hs:=hsz fY;exact ((Ab (fun d e=>by cases e;rw [hs];decide)).trans (if_neg (by decide))).trans s7
 rw [<- uH] at kG ⊢;have hlen:=aB4 n hn (kn (some 24) (lk L6 0) (kn (some 23) (lk L6 3) L6)) lO (by simp only [kn,og];exact q0);rw [aae 4 2 (fun f args ats q=>by obtain ⟨x,hx⟩:=Qe.1;rw [hx] at q;cases q)] at hlen;refine wq (ar.nil PP) aG gA gD (hm4 _ (by simp)) Qe.2.2 hlen kG (aCf kG.cur.ok (kG.cur.free (aG.tu _ _)) kG.sl.eval hlen (by intro q;cases q)) ?_;intro g9 w9 lA;rw [Qe.2.1] at lA ⊢;obtain ⟨a9,uG⟩:∃ a9,a9=a8.put (some 25) (.int .i64 n.length):=⟨_,rfl⟩;have s9:a9.tmps.getD 23 undef = .slice (some ⟨b,0,none⟩) (n.length+3) (n.length+3):=by rw [uG];have hs:=hsz kG;exact ((Ab (fun d e=>by cases e;rw [hs];decide)).trans (if_neg (by decide))).trans s8
 rw [<- uG] at lA ⊢;obtain ⟨L9,pL⟩:∃ L9,L9=kn (some 25) (.sc (.int .i64 n.length)) (kn (some 24) (lk L6 0) (kn (some 23) (lk L6 3) L6)):=⟨_,rfl⟩;have vO:lk L9 23 = .sl 0 0 (n.length+3) 1:=by rw [pL];simp only [kn,og];exact q3
 have tI:lk L9 25 = .sc (.int .i64 n.length):=by rw [pL];simp only [kn,og];rfl
 have k3:lk L9 3 = .sl 0 0 (n.length+3) 1:=by rw [pL];simp only [kn,og];exact q3
 rw [<- pL] at lA;have mD:=aru n hn L9 lO vO tI;rw [aae 4 3 (fun f args ats q=>by rw [Kg.1] at q;cases q)] at mD;refine wq (ar.nil PP) aG gA gD (hm4 _ (by simp)) Kg.2.2 mD lA (atc (e:=9) (sz:=1) Kg.1 lA.sl.eval (show a9.eval (.tmp 23)=_ from s9) (zza _) zO (anw n L9 tI) zK zK) ?_;intro yN tB cC;rw [Kg.2.1] at cC ⊢;obtain ⟨kR,oA⟩:∃ kR,kR=a9.put (some 26) (.slice (some ⟨b,0,none⟩) n.length (n.length+3)):=⟨_,rfl⟩;have vH:kR.tmps.getD 26 undef = .slice (some ⟨b,0,none⟩) n.length (n.length+3):=by rw [oA];have hs:=hsz lA;exact (Ab (fun d e=>by cases e;rw [hs];decide)).trans (if_pos rfl)
 rw [<- oA] at cC ⊢;refine wq (ar.nil PP) aG gA gD (hm4 _ (by simp)) Jv.2.2 (r:=.sl 0 0 n.length 1) (st':=lO) (by unfold Dz;rw [Jv.1];exact Kb _ _) cC (J0 (.inr Jv.1) (show kR.eval (.tmp 26)=_ from vH)) ?_;intro yM lL eX;rw [Jv.2.1] at eX ⊢;refine alp ?_;have xM:fm (4+1) (Tryz.f40.body.getD .skip) = .ret:=zK;rw [xM];obtain ⟨gG,nZ⟩:∃ gG,gG=kR.put (some 2) (.slice (some ⟨b,0,none⟩) n.length (n.length+3)):=⟨_,rfl⟩;have vG:gG.tmps.getD 2 undef = .slice (some ⟨b,0,none⟩) n.length (n.length+3):=by rw [nZ];have hs:=hsz cC;exact (Ab (fun d e=>by cases e;rw [hs];decide)).trans (if_pos rfl)
 rw [<- nZ] at eX ⊢;have l3:lk (kn (some 2) (.sl 0 0 n.length 1) (kn (some 26) (.sl 0 0 n.length 1) L9)) 3 = .sl 0 0 (n.length+3) 1:=by simp only [kn,og];exact k3
 obtain ⟨b',cap,cs,e1,e2,e3,e4⟩:=eX.aJ5 zO l3 qo;have f11:gG.tmps.getD 3 undef = .slice (some ⟨b,0,none⟩) (n.length+3) (n.length+3):=(B3 eX.sl.1 (by decide)).trans h3;rw [f11] at e1;cases e1;refine wpIn_ret ⟨rfl,_,_,yM,b,cs,eX.less (Qf eX.sl.1 rfl) (fun _=>.inl rfl) rfl (fun _=>rfl),vG,by rw [<- hb0];exact e2,e3,fun i v hv=>?_⟩;obtain ⟨c,c1,c2⟩:=e4 i _ (alx n hv);rw [c1,c2.exact rfl]
theorem Jz {n:Name} (hn:aw n) {K:Nat->Nat->Prop} {w:World} {v:Value} (hK:∀ b j,K b j->b<w.heap.size) (hrel:cb (gK w.heap.size K) w [aj.val false n] [v]) :
 Calls PP 40 #[v] w (fun e w'=>∃ b,e = .returned (Ai b n)/\qk w w'/\w.heap.size<=b/\uc n b w'):=by
 refine (aog (body:=(Tryz.f40.body.getD .skip)) (t:=2) (V:=fun b=>Ai b n) (et:=9) (Good:=fun _ cs=>alg n cs) Tryz.func40 zK zK zL (fun B g a w aG hp hO aN hb0 hh=>aum aG hp aN hb0 hn hh) hK hrel).mono ?_;rintro e w' ⟨b,cs,rfl,q,hb,hc,hg⟩;exact ⟨b,rfl,q,hb,cs,hc,hg⟩
end Go.Proofs.YtjagjbceegbaiaaGreat
end
section
namespace Go.Proofs.YtjagjbceegbaiaaGreat
open Go.Vm Go.RowKit
theorem aei (l:Name):(l.map (ai.val false)).flatMap AV.cells=l.map (ai.val false):=by
 induction l with
 |nil=>rfl
 |cons a l ih=>rw [List.map_cons,List.flatMap_cons,ih];rfl
theorem V9 {b0:Nat} {K:Nat->Nat->Prop} {n:Name} {b:Nat} {w:World} (h:uc n b w) (hK:∀ j,K b j) {k cap:Nat} (hk:k<=3) (hc:n.length+k<=cap) :
 Rel (gK b0 K) w (aj.val false (n++List.replicate k vp)) (.slice (some ⟨b,0,none⟩) (n.length+k) cap):=by
 obtain ⟨cs,h1,h2⟩:=h;have hlen:(n++List.replicate k vp).length=n.length+k:=by simp
 have e:((n++List.replicate k vp).map (ai.val false)).length=n.length+k:=by rw [zzo];exact hlen
 have key:∀ (j:Nat) a,((n++List.replicate k vp).map (ai.val false))[j]? = some a->∃ v,(Ly n)[j]? = some v/\a = .sc v:=by
  intro j a hj;rw [zzj,zzk] at hj;obtain ⟨s,hs,rfl⟩:=hj;refine ⟨.string s,?_,rfl⟩;unfold Ly;by_cases hjn:j<n.length
  ·rw [zzi hjn] at hs;rw [zzi (by rw [zzo];exact hjn),zzj,hs];rfl
  ·rw [zzd zO] at hs;rw [zzd (by rw [zzo];omega),zzo];have hb:=(zg.1 hs).1;simp only [List.length_replicate] at hb;rw [List.getElem?_replicate_of_lt hb] at hs;cases hs;exact List.getElem?_replicate_of_lt zO
 rw [bz];have:=Rel.vl (g:=gK b0 K) (w:=w) false 1 ((n++List.replicate k vp).map (ai.val false)) b 0 cap (fun j=>cs.getD j undef) (fun x hx=>by obtain ⟨s,_,rfl⟩:=zyj.1 hx;rfl) (fun q=>by cases q) (by rw [e];exact hc) (fun j a hj=>?_) (fun j a hj=>?_) (fun q=>by cases q)
 ·rw [e] at this;exact this
 ·rw [aei] at hj;obtain ⟨v,hv,_⟩:=key j a hj;refine ⟨by rw [Nat.zero_add];exact hK j,?_⟩;have:=(zz1.1 (h2 j v hv)).1;rw [Nat.zero_add];exact cell_of h1 this
 ·rw [aei] at hj;obtain ⟨v,hv,rfl⟩:=key j a hj;rw [zze,h2 j v hv];exact .sc _
theorem uc.stay {n:Name} {b:Nat} {w w':World} (h:uc n b w) (q:w'.heap[b]? = w.heap[b]?):uc n b w':=by obtain ⟨cs,h1,h2⟩:=h;exact ⟨cs,q.trans h1,h2⟩
theorem uc.lt {n:Name} {b:Nat} {w:World} (h:uc n b w):b<w.heap.size:=by obtain ⟨cs,h1,h2⟩:=h;exact cr h1
theorem ayg {n:Name} {b c:Nat} {w:World} {cap cap':Nat} (hn:n.length+3<=16777216) (hb:uc n b w) (hc:uc n c w) (h1:n.length+3<=cap) (h2:n.length+3<=cap') :
 Calls PP 51 #[.slice (some ⟨b,0,none⟩) (n.length+3) cap,.slice (some ⟨c,0,none⟩) (n.length+3) cap'] w (fun e w'=>e = .returned (.bool true)/\qk w w'):=by
 have hp:=El (n++List.replicate 3 vp,n++List.replicate 3 vp,()) _ (if_pos (by simpa using hn));refine (hp.calls zK (K:=fun b _=>b<w.heap.size) (w:=w) (fun _ _ h=>h) (vs:=[.slice (some ⟨b,0,none⟩) (n.length+3) cap,.slice (some ⟨c,0,none⟩) (n.length+3) cap']) ⟨rfl,fun i a v ha hv=>?_⟩).mono ?_
 ·match i,ha,hv with
  |0,ha,hv=>cases ha;cases hv;exact V9 hb (fun _=>hb.lt) (zza _) h1
  |1,ha,hv=>cases ha;cases hv;exact V9 hc (fun _=>hc.lt) (zza _) h2
  |i+2,ha,hv=>cases ha
 ·rintro e w' ⟨v,rfl,q,hr⟩;rw [Hv] at hr;exact ⟨by rw [hr.exact rfl],q⟩
theorem ah4:Tryz.f52.ntmps=23:=rfl
set_option maxHeartbeats 3200000 in
theorem Y3 {n:Name} {b:Nat} (hs:aw n) (hn:n.length+3<=16777216) {K:Nat->Nat->Prop} {w:World} {v:Value} (hat:uc n b w) (hK:∀ b j,K b j->b<w.heap.size) (hrel:cb (gK w.heap.size K) w [aj.val false n] [v]) :
 Calls PP 52 #[Ai b n,v] w (fun e w'=>e = .returned (.bool true)/\qk w w'):=by
 obtain ⟨ad,cap,rfl⟩:∃ ad cap,v = .slice ad n.length cap:=by
  have h:=hrel.head;rw [bz] at h;obtain ⟨l,hl⟩:∃ l,l=n.map (ai.val false):=⟨_,rfl⟩;have e:n.length=l.length:=by rw [hl,zzo]
  rw [<- hl] at h;rw [e];cases h with
  |vl _ _ _ b off cap=>exact ⟨_,_,rfl⟩
  |lx=>exact ⟨_,_,rfl⟩
  |vo=>exact ⟨_,_,rfl⟩
 unfold Ai;have z1:(0:Int)<=(n.length:Int)+3:=zO;have z2:(n.length:Int)+3<=((n.length+3:Nat):Int):=zO;have z3:((n.length:Int)+3).toNat=n.length+3:=zO;have z4:¬ (n.length:Int)+3<0:=zO;have z5:(n.length:Int)+3<=(n.length:Int)+3:=Int.le_refl _;have z6:IntKind.i64.wrap ((n.length:Int)+3)=(n.length:Int)+3:=Fb zO zO
 go_enter Tryz.func52,ah4
 go_wp2
 have hrel':cb (gK w.drew.heap.size K) w.drew [aj.val false n] [.slice ad n.length cap]:=cb.aro (w:=w) (b0:=w.heap.size) (K:=K) (fun _ h _=>h) (fun _ _ h=>h) (fun _ _ _=>rfl) hrel;have iX:=Jz hs (w:=w.drew) hK hrel';unfold Ai at iX
 go_region_held3 (fun w'=>True) (trivial) (first
  |(go_at_call 40;refine iX.mono ?_;rintro e w' ⟨c,rfl,q,hc,hat'⟩)
  |(go_at_call 51;refine (ayg hn (hat.stay (q.heap b hat.lt)) hat' (zza _) (zza _)).mono ?_;rintro e w2 ⟨rfl,q2⟩))
 all_goals go_wp2
 all_goals go_ret
 all_goals exact ⟨rfl,⟨zzu q.size q2.size,fun b h=>(q2.heap b (zyc h q.size)).trans (q.heap b h),q2.os.trans q.os,q2.tape.trans q.tape,q2.output.trans q.output⟩⟩
theorem ami:Tryz.f9.ntmps=5:=rfl
theorem ab0 {n:Name} (hn:aw n) {K:Nat->Nat->Prop} {w:World} {v:Value} (hK:∀ b j,K b j->b<w.heap.size) (hrel:cb (gK w.heap.size K) w [aj.val false n] [v]) :
 Calls PP 9 #[v] w (fun e w'=>∃ b,e = .returned (Ai b n)/\qk w w'/\w.heap.size<=b/\uc n b w'):=by
 go_enter Tryz.func9,ami
 go_wp2
 refine (Jz hn hK hrel).mono ?_;rintro e w' ⟨b,rfl,q,hb,hat⟩
 go_wp2
 go_ret
 exact ⟨b,rfl,q,hb,hat⟩
theorem am9:Tryz.f19.ntmps=8:=rfl
theorem aa1 {n:Name} {b:Nat} (hs:aw n) (hn:n.length+3<=16777216) {K:Nat->Nat->Prop} {w:World} {v:Value} (hat:uc n b w) (hK:∀ b j,K b j->b<w.heap.size) (hrel:cb (gK w.heap.size K) w [aj.val false n] [v]) :
 Calls PP 19 #[Ai b n,v] w (fun e w'=>e = .returned (.bool true)/\qk w w'):=by
 go_enter Tryz.func19,am9
 go_wp2
 refine (Y3 hs hn hat hK hrel).mono ?_;rintro e w' ⟨rfl,q⟩
 go_wp2
 go_ret
 exact ⟨rfl,q⟩
end Go.Proofs.YtjagjbceegbaiaaGreat
end
section
namespace Go.Proofs.YtjagjbceegbaiaaGreat
open Go.Vm
theorem aJu (z:ay) (n:Name) (t:UInt16) (hz:bo z) (hn:aw n):wl PP [aGf] 0 (mz 2 (Tryz.f5.body.getD .skip)) (tq (fun L st=>(z.ak.length<=40/\∀ x ∈ z.ak,x.data.length<=20)/\(aP bf (aC aj (aC cj a0))).get st.h [lk L 3,lk L 1,lk L 2]=some (z,n,t,())) (c9 PP Tryz.f5.results.toList (fun r st=>(r1 bk).get true st.h r=some true))) (cp 0 [bf.val false z,aj.val false n,cj.val false t]) (bg []):=by
 unfold Tryz.f5;simp only [dy,bz];simp only [↓wR,zT,simprocAttr,↓gx,↓kc,↓ig,↓ij,↓jk,↓jl,↓mf,↓me,↓ot,ly,mg,mh,Zh,hz];cases h1:Qr z with
 |false=>
  simp only [↓wR,zT,simprocAttr,↓gx,↓kc,↓ig,↓ij,↓jk,↓jl,↓mf,↓me,↓ot,ly,mg,mh]
  try rfl
 |true=>
  have hf:=ayk h1;simp only [↓wR,zT,simprocAttr,↓gx,↓kc,↓ig,↓ij,↓jk,↓jl,↓mf,↓me,↓ot,ly,mg,mh];exact hf
theorem aI5 (z:ay) (n:Name) (t:UInt16) (hz:bo z):opsL PP [ahs] (jh (ff 2 (Tryz.f5.body.getD .skip))) ((jh (ff 2 (Tryz.f5.body.getD .skip))).toList.take 3) (fun L st=>(aP bf (aC aj (aC cj (aC bf (aC aj a0))))).get st.h [lk L 3,lk L 1,lk L 2,lk L 19,lk L 20]=some (z,n,t,z,n,())) [(3,.fe [zn z.origin,zs z.ak]),(1,zn n),(2,.sc (.int .u16 (t).toNat))] (bg []):=by unfold Tryz.f5;simp only [↓wR,zT,simprocAttr,↓gx,↓kc,↓ig,↓ij,↓jk,↓jl,↓mf,↓me,↓ot,ly,mg,mh,List.take_succ_cons,List.take_zero,Fv,hz]
theorem aJc (z:ay) (n:Name) (t:UInt16) (v:Value):opsL PP [] (jh (ff 2 (Tryz.f5.body.getD .skip))) ((jh (ff 2 (Tryz.f5.body.getD .skip))).toList.drop 4) (fun L st=>(aP bf (aC aj (aC cj (aP bf a0)))).get st.h [lk L 3,lk L 1,lk L 2,lk L 7]=some (z,n,t,z,())/\lk L 8 = .sc v) [(3,.fe [zn z.origin,zs z.ak]),(1,zn n),(2,.sc (.int .u16 (t).toNat)),(19,bf.val false z),(21,.sc v)] (bg []):=by unfold Tryz.f5;simp only [↓wR,zT,simprocAttr,↓gx,↓kc,↓ig,↓ij,↓jk,↓jl,↓mf,↓me,↓ot,ly,mg,mh,List.drop_succ_cons,List.drop_zero,dy]
theorem aJw (z:ay) (n:Name) (t:UInt16) (hz:bo z) (hn:aw n):wl PP [aOf] 0 (mz 1 (fm 3 (Tryz.f5.body.getD .skip))) (tq (fun L st=>(∃ o k,lk L 9 = .ptr o 0/\st.h.get o=some (.row (ed.cells true ((Ae z n t).1)) (k) 2 77))/\(aP bf (aC aj (aC cj (aP bf (aC aj (aP ed (aC (bb .i64) a0))))))).get st.h [lk L 3,lk L 1,lk L 2,lk L 7,lk L 8,lk L 9,lk L 10]=some (z,n,t,z,n,(Ae z n t).1,(Ae z n t).2,())) Mn) [(3,.fe [zn z.origin,zs z.ak]),(1,zn n),(2,.sc (.int .u16 (t).toNat)),(7,.fe [zn z.origin,zs z.ak]),(8,zn n)] (bg []):=by obtain ⟨P,hP⟩:∃ P,P=Ae z n t:=⟨_,rfl⟩;rw [<- hP];unfold Tryz.f5;simp only [↓wR,zT,simprocAttr,↓gx,↓kc,↓ig,↓ij,↓jk,↓jl,↓mf,↓me,↓ot,ly,mg,mh,aax,hz,hn,<- hP];exact ⟨0,0,rfl,rfl⟩
theorem aJ4 (z:ay) (n:Name) (t:UInt16) (P:mi) (e:Int) (hz:bo z) (hn:aw n) (hP:Ae z n t=(P,e)):wl PP [aOf,aDb] 0 (mz 2 (fm 4 (Tryz.f5.body.getD .skip))) (tq (fun L st=>(∃ o k,lk L 11 = .ptr o 0/\st.h.get o=some (.row (ed.cells true (P)) (k) 2 77))/\(∃ o k,lk L 13 = .ptr o 0/\st.h.get o=some (.row (ed.cells true (P)) (k) 2 77))/\(aP bf (aC aj (aC cj (aP bf (aC aj (aP ed (aC (bb .i64) (aP ed (aC (bb .i64) (aP ed (aC (bb .i64) a0))))))))))).get st.h [lk L 3,lk L 1,lk L 2,lk L 7,lk L 8,lk L 9,lk L 10,lk L 11,lk L 12,lk L 13,lk L 14]=some (z,n,t,z,n,P,e,P,e,P,e,())) Mn) [(3,.fe [zn z.origin,zs z.ak]),(1,zn n),(2,.sc (.int .u16 (t).toNat)),(7,.fe [zn z.origin,zs z.ak]),(8,zn n),(9,.fe [.sc (.int .i64 (P).tl),.sc (.bool (P).aa),.vl false 5 ((P).answer.map (ag.val false)),.vl false 5 ((P).authority.map (ag.val false)),.vl false 5 ((P).ic.map (ag.val false))]),(10,.sc (.int .i64 e))] (bg []):=by unfold Tryz.f5;simp only [↓wR,zT,simprocAttr,↓gx,↓kc,↓ig,↓ij,↓jk,↓jl,↓mf,↓me,↓ot,ly,mg,mh,aax,Rt,hz,hn,hP];exact ⟨⟨0,0,rfl,rfl⟩,1,0,rfl,rfl⟩
theorem aJx (P:mi) (e:Int) (hm:V5 P):wl PP [Hh] 0 (mz 1 (fm 6 (Tryz.f5.body.getD .skip))) (tq (fun L st=>True) Mn) [(9,.fe [.sc (.int .i64 (P).tl),.sc (.bool (P).aa),.vl false 5 ((P).answer.map (ag.val false)),.vl false 5 ((P).authority.map (ag.val false)),.vl false 5 ((P).ic.map (ag.val false))]),(10,.sc (.int .i64 e)),(11,.fe [.sc (.int .i64 (P).tl),.sc (.bool (P).aa),.vl false 5 ((P).answer.map (ag.val false)),.vl false 5 ((P).authority.map (ag.val false)),.vl false 5 ((P).ic.map (ag.val false))]),(12,.sc (.int .i64 e)),(13,.fe [.sc (.int .i64 (P).tl),.sc (.bool (P).aa),.vl false 5 ((P).answer.map (ag.val false)),.vl false 5 ((P).authority.map (ag.val false)),.vl false 5 ((P).ic.map (ag.val false))]),(14,.sc (.int .i64 e))] (bg []):=by unfold Tryz.f5;simp only [↓wR,zT,simprocAttr,↓gx,↓kc,↓ig,↓ij,↓jk,↓jl,↓mf,↓me,↓ot,ly,mg,mh,ya,hm,bne_self_eq_false,Hv]
theorem aIq (c0 c1 c2 c3 c4:Value):opsL PP [] (jh (ff 7 (Tryz.f5.body.getD .skip))) ((jh (ff 7 (Tryz.f5.body.getD .skip))).toList.take 1) (fun L st=>lk L 63 = .agg [.sc c0,.sc c1,.sc c2,.sc c3,.sc c4]) [(9,.fe [.sc c0,.sc c1,.sc c2,.sc c3,.sc c4])] (bg []):=by unfold Tryz.f5;simp only [↓wR,zT,simprocAttr,↓gx,↓kc,↓ig,↓ij,↓jk,↓jl,↓mf,↓me,↓ot,ly,mg,mh,List.take_succ_cons,List.take_zero]
noncomputable def ar9 (i:Nat):Oper:=(jh (ff 8 (Tryz.f5.body.getD .skip))).toList.getD i ⟨none,.move (.tmp 0),0, "",#[],none⟩
theorem aI3 (z:ay) (n:Name) (P:mi) (v:Value) (hz:bo z) (hm:V5 P):opsL PP [Hh,ab7] (jh (ff 8 (Tryz.f5.body.getD .skip))) ((jh (ff 8 (Tryz.f5.body.getD .skip))).toList.take 11) (fun L st=>lk L 73 = .sc (.bool true)/\lk L 74 = .sc v/\(aC aj a0).get st.h [lk L 75]=some (n,())) [(3,.fe [zn z.origin,zs z.ak]),(7,.fe [zn z.origin,zs z.ak]),(11,.fe [.sc (.int .i64 (P).tl),.sc (.bool (P).aa),.vl false 5 ((P).answer.map (ag.val false)),.vl false 5 ((P).authority.map (ag.val false)),.vl false 5 ((P).ic.map (ag.val false))]),(13,.fe [.sc (.int .i64 (P).tl),.sc (.bool (P).aa),.vl false 5 ((P).answer.map (ag.val false)),.vl false 5 ((P).authority.map (ag.val false)),.vl false 5 ((P).ic.map (ag.val false))]),(8,.sc v),(1,zn n)] (bg []):=by unfold Tryz.f5;simp only [↓wR,zT,simprocAttr,↓gx,↓kc,↓ig,↓ij,↓jk,↓jl,↓mf,↓me,↓ot,ly,mg,mh,List.take_succ_cons,List.take_zero,ya,hm,Db,hz,Hv]
theorem aI7:opsL PP [] (jh (ff 8 (Tryz.f5.body.getD .skip))) ((jh (ff 8 (Tryz.f5.body.getD .skip))).toList.drop 12) (fun L st=>lk L 6 = .sc (.bool true)) [(73,.sc (.bool true)),(76,.sc (.bool true))] (bg []):=by unfold Tryz.f5;simp only [↓wR,zT,simprocAttr,↓gx,↓kc,↓ig,↓ij,↓jk,↓jl,↓mf,↓me,↓ot,ly,mg,mh,List.drop_succ_cons,List.drop_zero]
theorem agk:(jh (ff 8 (Tryz.f5.body.getD .skip))).toList=(jh (ff 8 (Tryz.f5.body.getD .skip))).toList.take 11++ar9 11::(jh (ff 8 (Tryz.f5.body.getD .skip))).toList.drop 12:=zK
theorem alk:(ar9 11).guard=some (8,true)/\Ga { ar9 11 with guard:=none }=some (some 76,19,[74,75]):=⟨zK,zK⟩
theorem aF2:(c9 PP Tryz.f5.results.toList (fun r st=>(r1 bk).get true st.h r=some true)) .ret [(6,.sc (.bool true))] (bg []):=by unfold Tryz.f5;simp only [↓wR,zT,simprocAttr]
theorem aEo:ar PP [aGf]:=ar.cons (aq awj) (ar.nil PP)
theorem aEt:ar PP [ahs]:=ar.cons (aq afo) (ar.nil PP)
theorem aDw:ar PP [aOf]:=ar.cons (aq ag3) (ar.nil PP)
theorem aE0:ar PP [aOf,aDb]:=ar.cons (aq ag3) (ar.cons (aq arf) (ar.nil PP))
theorem aE6:ar PP [Hh]:=ar.cons (aq Jc) (ar.nil PP)
theorem aD1:ar PP [Hh,ab7]:=ar.cons (aq Jc) (ar.cons (aq abn) (ar.nil PP))
theorem aqa {cs:Array Value} (h:cs.size=5):∃ a b c d e,cs.toList=[a,b,c,d,e]:=by
 have h2:cs.toList.length=5:=by simpa using h
 match hc:cs.toList,h2 with
 | [a,b,c,d,e],_=>exact ⟨a,b,c,d,e,rfl⟩
theorem at5 {cs:Array Value} {a b c d e:Value} (h:cs.toList=[a,b,c,d,e]):cs[2]? = some c/\cs[3]? = some d/\cs[4]? = some e:=by refine ⟨?_,?_,?_⟩<;>rw [<- zz2,h]<;>rfl
theorem aIz {g:Gh} {w:World} {b:Nat} {cs:Array Value} {e:TypeId} {v c0 c1 c2 c3 c4:Value} (h:w.heap[b]? = some (.cells cs e (0,0))) (hc:cs.toList=[c0,c1,c2,c3,c4]) (hv:v = .pointer (some ⟨b,0,none⟩)) (hK:∀ j,g.K b j):Rel g w (.fe [.sc c0,.sc c1,.sc c2,.sc c3,.sc c4]) v:=by rw [hv];have:=aEy (g:=g) h hK;rw [hc] at this;exact this
theorem amm {B:fi} {nt L st g a w} (hh:gj B nt L st g a w) {t:Nat} {c0 c1 c2 c3 c4:Value} (h:lk L t=(.agg [.sc c0,.sc c1,.sc c2,.sc c3,.sc c4])):a.tmps.getD t undef = .agg #[c0,c1,c2,c3,c4]:=by have:=hh.sl.2 t;rw [h] at this;exact this.exact rfl
set_option maxHeartbeats 8000000 in
theorem azx {B:fi} (aG:B.k6) (hp:B.be=0) (hO:∀ b,¬ B.O b) (aN:B.n0<=B.w.heap.size) {z:ay} {n:Name} {t:UInt16} (hz:bo z) (hw:gu n9 z.ak<=8388608) (hn:aw n) (hlen:n.length+3<=16777216) {g:Gh} {ac:Act} {w:World}
 (hh:gj B (78:Nat) (cp 0 [bf.val false z,aj.val false n,cj.val false t]) (bg []) g ac w):((Tryz.f5.body.getD .skip)).wpIn (fu none) 0 PP (Fin B (78:Nat) (c9 PP Tryz.f5.results.toList (fun r st=>(r1 bk).get true st.h r=some true))) ac w:=by
 refine wk aEo zK aG zO aN (Q:=tq (fun L st=>(z.ak.length<=40/\∀ x ∈ z.ak,x.data.length<=20)/\(aP bf (aC aj (aC cj a0))).get st.h [lk L 3,lk L 1,lk L 2]=some (z,n,t,())) (c9 PP Tryz.f5.results.toList (fun r st=>(r1 bk).get true st.h r=some true))) 1 (Tryz.f5.body.getD .skip) zK zK ?_ _ _ g ac w (by rw [hp];exact aJu z n t hz hn) hh;rintro e L0 st0 g0 aA w0 hq lB;cases e with
 |ret=>exact ⟨.ret,L0,st0,g0,rfl,hq,lB.cur,lB.sl,lB.Cc⟩
 |exit id=>exact hq.elim
 |normal=>
 obtain ⟨rR,er⟩:=hq;have wF:=lB.read (aP bf (aC aj (aC cj a0))) [3,1,2] er;have qX:qx (78:Nat) aA.tmps:=Qf lB.sl.1 rfl;show (fm 2 (Tryz.f5.body.getD .skip)).wpIn (fu none) 0 PP _ aA w0;refine Kc (Ar zK) (wpIn_seq ?_);have fP:ff 2 (Tryz.f5.body.getD .skip) = .region (idC (ff 2 (Tryz.f5.body.getD .skip))) (jh (ff 2 (Tryz.f5.body.getD .skip))) false:=zK;rw [fP];refine Fm ?_;have mA:(jh (ff 2 (Tryz.f5.body.getD .skip))).toList=(jh (ff 2 (Tryz.f5.body.getD .skip))).toList.take 3++(jh (ff 2 (Tryz.f5.body.getD .skip))).toList.getD 3 ⟨none,.move (.tmp 0),0, "",#[],none⟩::(jh (ff 2 (Tryz.f5.body.getD .skip))).toList.drop 4:=zK;have hgd:mq (78:Nat) (jh (ff 2 (Tryz.f5.body.getD .skip)))=true:=zK;have dB:ri (78:Nat) (jh (ff 2 (Tryz.f5.body.getD .skip)))=true:=zK;have hm:∀ o ∈ (jh (ff 2 (Tryz.f5.body.getD .skip))).toList.take 3++(jh (ff 2 (Tryz.f5.body.getD .skip))).toList.getD 3 ⟨none,.move (.tmp 0),0, "",#[],none⟩::(jh (ff 2 (Tryz.f5.body.getD .skip))).toList.drop 4,o ∈ (jh (ff 2 (Tryz.f5.body.getD .skip))):=fun o ho=>by rw [<- mA] at ho;exact Array.mem_toList_iff.1 ho
 rw [mA];refine axf aEt (zl w0 aA.defers) hgd dB (fun o ho=>hm o (zzq.2 (.inl ho))) (hm _ (by simp)) (f:=9) (args:=[20]) (d:=some 21) zK zK (aI5 z n t hz) (Ck qX (aty wF)) ?_;intro L1 gp g1 a1 w1 nO dW;have hr1:=dW.read (aP bf (aC aj (aC cj (aC bf (aC aj a0))))) [3,1,2,19,20] nO;have M1:rn (fun _=>False) w0 aA.defers a1.defers w1:=(rn.start _ w0 aA.defers).later dW;refine (ab0 hn (K:=vj w1) (fun _ _ h=>h) (v:=a1.tmps.getD 20 undef) ⟨rfl,fun i a v ha hv=>?_⟩).mono ?_
 ·match i,ha,hv with
  |0,ha,hv=>cases ha;cases hv;exact hr1.2 4 _ _ rfl rfl
  |i+1,ha,hv=>cases ha
 rintro e w2 ⟨b,rfl,q2,hb2,eZ⟩;refine ⟨_,rfl,fun a2 dM hs2 aJ nS=>?_⟩;have M2:rn (fun _=>False) w0 aA.defers a2.defers w2:=by rw [dM];exact M1.sv (q2.sv _ 0 false)
 have zM:rn (fun _=>False) w1 a1.defers a1.defers w2:=(rn.start _ w1 a1.defers).sv (q2.sv _ 0 false);have hZ:=cb.low zM (fun _ _ h=>h) hr1;have qW:qx (78:Nat) a2.tmps:=⟨by rw [hs2];exact dW.sl.1.size,fun p hp=>by cases hp⟩;refine akt (ar.nil PP) (zl w2 a2.defers) hgd dB (fun o ho=>hm o (zzq.2 (.inr (List.mem_cons_of_mem _ ho)))) (aJc z n t (Ai b n)) (Ck qW (aam (fun p hp=>?_))) ?_
 ·simp only [zya,List.not_mem_nil,or_false] at hp;rcases hp with rfl|rfl|rfl|rfl|rfl
  ·show Rel _ _ _ (a2.tmps.getD 3 undef);rw [aJ 3 (by decide)];exact hZ.2 0 _ _ rfl rfl
  ·show Rel _ _ _ (a2.tmps.getD 1 undef);rw [aJ 1 (by decide)];exact hZ.2 1 _ _ rfl rfl
  ·show Rel _ _ _ (a2.tmps.getD 2 undef);rw [aJ 2 (by decide)];exact hZ.2 2 _ _ rfl rfl
  ·show Rel _ _ _ (a2.tmps.getD 19 undef);rw [aJ 19 (by decide)];exact hZ.2 3 _ _ rfl rfl
  ·exact Ya (nS 21 rfl)
 rintro L3 lQ g3 a3 w3 ⟨nN,h8⟩ fD;show (fm 3 (Tryz.f5.body.getD .skip)).wpIn (fu none) 0 PP _ a3 w3;have M3:rn (fun _=>False) w0 aA.defers a3.defers w3:=M2.later fD;have e8:a3.tmps.getD 8 undef=Ai b n:=fD.exact h8;have dO:uc n b w3:=eZ.stay (fD.cur.base.frame b eZ.lt (fun h=>h));have hb3:=dO.lt;have gZ:=fD.read (aP bf (aC aj (aC cj (aP bf a0)))) [3,1,2,7] nN;have hr3:cb (gK w3.heap.size (vj w3)) w3 [.fe [zn z.origin,zs z.ak],zn n,.sc (.int .u16 (t).toNat),.fe [zn z.origin,zs z.ak],zn n] (([3,1,2,7,8]).map fun t=>a3.tmps.getD t undef):=by
  refine ⟨rfl,fun i x v hx hv=>?_⟩
  match i,hx,hv with
  |0,hx,hv=>exact gZ.2 0 x v hx hv
  |1,hx,hv=>exact gZ.2 1 x v hx hv
  |2,hx,hv=>exact gZ.2 2 x v hx hv
  |3,hx,hv=>exact gZ.2 3 x v hx hv
  |4,hx,hv=>
   cases hx;cases hv;show Rel _ _ _ (a3.tmps.getD 8 undef);rw [e8];have:=V9 (b0:=w3.heap.size) (K:=vj w3) dO (fun _=>hb3) (k:=0) (cap:=n.length+3) (by decide) zO;rw [show n++List.replicate 0 vp=n from zzn n] at this;exact this
  |i+5,hx,hv=>cases hx
 have qV:=S0 [3,1,2,7,8] fD.sl.1;obtain ⟨P,hP⟩:∃ P,P=(Ae z n t).1:=⟨_,rfl⟩;obtain ⟨ee,pF⟩:∃ ee,ee=(Ae z n t).2:=⟨_,rfl⟩;have hfr:ajy P:=by rw [hP];exact aGa hw hz rR
 refine wk aDw zK (zl w3 a3.defers) (zzb _) (zza _) (nt:=s6 78 [3,1,2,7,8] a3.tmps) (Q:=tq (fun L st=>(∃ o k,lk L 9 = .ptr o 0/\st.h.get o=some (.row (ed.cells true (P)) (k) 2 77))/\(aP bf (aC aj (aC cj (aP bf (aC aj (aP ed (aC (bb .i64) a0))))))).get st.h [lk L 3,lk L 1,lk L 2,lk L 7,lk L 8,lk L 9,lk L 10]=some (z,n,t,z,n,P,ee,())) Mn) 0 (fm 3 (Tryz.f5.body.getD .skip)) zK (Gp (x:=#[]) zK) ?_ _ _ _ a3 w3 (by rw [hP,pF];exact aJw z n t hz hn) (Ck qV (aty hr3));rintro e L4 zR g4 a4 w4 hq eI;cases e with
 |ret=>exact hq.elim
 |exit id=>exact hq.elim
 |normal=>
 obtain ⟨⟨o9,k9,h9,mG⟩,nM⟩:=hq;obtain ⟨b9,yT,e9,AU,kF,iQ⟩:=eI.box h9 mG;have hr4:=eI.read (aP bf (aC aj (aC cj (aP bf (aC aj (aP ed (aC (bb .i64) a0))))))) [3,1,2,7,8,9,10] nM;have qU:=S0 [3,1,2,7,8,9,10] eI.sl.1;have rY:fm (0+1) (fm 3 (Tryz.f5.body.getD .skip))=fm 4 (Tryz.f5.body.getD .skip):=zK;rw [rY];show (fm 4 (Tryz.f5.body.getD .skip)).wpIn (fu none) 0 PP _ a4 w4;refine wk aE0 zK (zl w4 a4.defers) (zzb _) (zza _) (nt:=s6 78 [3,1,2,7,8,9,10] a4.tmps) (Q:=tq (fun L st=>(∃ o k,lk L 11 = .ptr o 0/\st.h.get o=some (.row (ed.cells true (P)) (k) 2 77))/\(∃ o k,lk L 13 = .ptr o 0/\st.h.get o=some (.row (ed.cells true (P)) (k) 2 77))/\(aP bf (aC aj (aC cj (aP bf (aC aj (aP ed (aC (bb .i64) (aP ed (aC (bb .i64) (aP ed (aC (bb .i64) a0))))))))))).get st.h [lk L 3,lk L 1,lk L 2,lk L 7,lk L 8,lk L 9,lk L 10,lk L 11,lk L 12,lk L 13,lk L 14]=some (z,n,t,z,n,P,ee,P,ee,P,ee,())) Mn) 1 (fm 4 (Tryz.f5.body.getD .skip)) zK (Gp (x:=#[]) zK) ?_ _ _ _ a4 w4 (aJ4 z n t P ee hz hn (by rw [hP,pF])) (Ck qU (aty hr4));rintro e L5 zQ g5 a5 w5 hq eV;cases e with
 |ret=>exact hq.elim
 |exit id=>exact hq.elim
 |normal=>
 obtain ⟨⟨AG,AL,h11,jU⟩,⟨AE,AK,yK,jT⟩,nL⟩:=hq;have kV:=eV.read (aP bf (aC aj (aC cj (aP bf (aC aj (aP ed (aC (bb .i64) (aP ed (aC (bb .i64) (aP ed (aC (bb .i64) a0))))))))))) [3,1,2,7,8,9,10,11,12,13,14] nL;have qT:=S0 [3,1,2,7,8,9,10,11,12,13,14] eV.sl.1;have xL:fm (1+1) (fm 4 (Tryz.f5.body.getD .skip))=fm 6 (Tryz.f5.body.getD .skip):=zK;rw [xL];show (fm 6 (Tryz.f5.body.getD .skip)).wpIn (fu none) 0 PP _ a5 w5;refine wk aE6 zK (zl w5 a5.defers) (zzb _) (zza _) (nt:=s6 78 [3,1,2,7,8,9,10,11,12,13,14] a5.tmps) (Q:=tq (fun L st=>True) Mn) 0 (fm 6 (Tryz.f5.body.getD .skip)) zK (Gp (x:=#[]) zK) ?_ _ _ _ a5 w5 (aJx P ee hfr.mid) (Ck qT (aam (fun p hp=>?_)));rotate_left
 ·simp only [zya,List.not_mem_nil,or_false] at hp;rcases hp with rfl|rfl|rfl|rfl|rfl|rfl
  ·exact kV.2 5 _ _ rfl rfl
  ·exact kV.2 6 _ _ rfl rfl
  ·exact kV.2 7 _ _ rfl rfl
  ·exact kV.2 8 _ _ rfl rfl
  ·exact kV.2 9 _ _ rfl rfl
  ·exact kV.2 10 _ _ rfl rfl
 rintro e L7 zP g7 a7 w7 hq fY;cases e with
 |ret=>exact hq.elim
 |exit id=>exact hq.elim
 |normal=>
 have xK:fm (0+1) (fm 6 (Tryz.f5.body.getD .skip))=fm 7 (Tryz.f5.body.getD .skip):=zK;rw [xK];show (fm 7 (Tryz.f5.body.getD .skip)).wpIn (fu none) 0 PP _ a7 w7;have wC:w3.heap.size<=w4.heap.size:=eI.cur.base.size;have mF:w4.heap.size<=w5.heap.size:=eV.cur.base.size;have wD:w0.heap.size<=w3.heap.size:=M3.size;obtain ⟨S,hS⟩:∃ S:Nat->Prop,S=fun b=>(w3.heap.size<=b/\b<w4.heap.size)\/w5.heap.size<=b:=⟨_,rfl⟩
 obtain ⟨K',hK⟩:∃ K':Nat->Nat->Prop,K'=fun b _=>b<w3.heap.size\/(w4.heap.size<=b/\b<w5.heap.size):=⟨_,rfl⟩
 have pI:∀ b,S b↔(w3.heap.size<=b/\b<w4.heap.size)\/w5.heap.size<=b:=fun b=>by rw [hS]
 have pN:∀ b j,K' b j↔b<w3.heap.size\/(w4.heap.size<=b/\b<w5.heap.size):=fun b j=>by rw [hK]
 have pJ:∀ b,b<w3.heap.size->¬ S b:=fun b h q=>by rcases (pI b).1 q with q|q<;>omega
 have xX:∀ b,b<w0.heap.size->¬ S b:=fun b h=>pJ b zO
 have uQ:∀ b j,K' b j->b<w5.heap.size/\¬ S b:=fun b j h=>by
  rcases (pN b j).1 h with h|h
  ·exact ⟨zO,pJ b h⟩
  ·exact ⟨h.2,fun q=>by rcases (pI b).1 q with q|q<;>omega⟩
 have uR:∀ b j,K' b j->b<w5.heap.size:=fun b j h=>(uQ b j h).1
 have T7:rn S w0 aA.defers a7.defers w7:=(((M3.wide (fun b _ h=>h.elim)).later eI).later eV).later fY;have uZ:rn S w3 a3.defers a5.defers w5:=((rn.start S w3 a3.defers).later eI).later eV;have N3:rn S w3 a3.defers a7.defers w7:=uZ.later fY;have N5:rn S w5 a5.defers a7.defers w7:=(rn.start S w5 a5.defers).later fY;have tE:ji S (0+0) true w4 w7:=(eV.quiet S 0 true).trans (fY.quiet S 0 true);have pZ:cb (gK w5.heap.size K') w5 [.fe [zn z.origin,zs z.ak],zn n,.fe [zn z.origin,zs z.ak],.fe [.sc (.int .i64 (P).tl),.sc (.bool (P).aa),.vl false 5 ((P).answer.map (ag.val false)),.vl false 5 ((P).authority.map (ag.val false)),.vl false 5 ((P).ic.map (ag.val false))],.fe [.sc (.int .i64 (P).tl),.sc (.bool (P).aa),.vl false 5 ((P).answer.map (ag.val false)),.vl false 5 ((P).authority.map (ag.val false)),.vl false 5 ((P).ic.map (ag.val false))]] (([3,1,7,11,13]:List Nat).map (fun t=>a5.tmps.getD t undef)):=by
  have xB:([3,1,2,7,8]).map (fun t=>a5.tmps.getD t undef)=([3,1,2,7,8]).map (fun t=>a3.tmps.getD t undef):=(Vv eV.sl.1 (by decide)).trans (Vv eI.sl.1 (by decide));have aY:cb (gK w5.heap.size K') w5 [.fe [zn z.origin,zs z.ak],zn n,.sc (.int .u16 (t).toNat),.fe [zn z.origin,zs z.ak],zn n] (([3,1,2,7,8]).map (fun t=>a5.tmps.getD t undef)):=by rw [xB];exact cb.aJv uZ pJ (fun b j h=>(pN b j).2 (.inl h)) hr3
  refine ⟨rfl,fun i x v hx hv=>?_⟩
  match i,hx,hv with
  |0,hx,hv=>exact aY.2 0 x v hx hv
  |1,hx,hv=>exact aY.2 1 x v hx hv
  |2,hx,hv=>exact aY.2 3 x v hx hv
  |3,hx,hv=>cases hx;cases hv;exact eV.aHd ed h11 jU mF uR (fun b j h1 h2=>(pN b j).2 (.inr ⟨h1,h2⟩))
  |4,hx,hv=>cases hx;cases hv;exact eV.aHd ed yK jT mF uR (fun b j h1 h2=>(pN b j).2 (.inr ⟨h1,h2⟩))
  |i+5,hx,hv=>cases hx
 have uE:yT.size=5:=by have:=iQ.1;rw [zz9] at this;exact this.trans rfl
 obtain ⟨c0,c1,c2,c3,c4,hcs⟩:=aqa uE;have pB:=eI.aC2 ed iQ;rw [hcs] at pB;have sJ:∀ b,w3.heap.size<=b->(∀ j,vj w4 b j)->S b:=fun b h hk=>(pI b).2 (.inl ⟨h,hk 0⟩)
 have Ta:mc S 8192 w4 5 (Ea S 16777216 16777216 16777216) c2:=abq sJ hfr.ans.1 hfr.ans.2 (pB.2 2 _ _ rfl rfl);have Tb:mc S 8192 w4 5 (Ea S 16777216 16777216 16777216) c3:=abq sJ hfr.arz.1 hfr.arz.2 (pB.2 3 _ _ rfl rfl);have Tc:mc S 8192 w4 5 (Ea S 16777216 16777216 16777216) c4:=abq sJ hfr.add.1 hfr.add.2 (pB.2 4 _ _ rfl rfl);obtain ⟨BA,fX,qE,jQ⟩:=aA7 tE kF Wa (by decide);obtain ⟨d0,d1,d2,d3,d4,kL⟩:=aqa (qE.trans uE);obtain ⟨i2,i3,i4⟩:=at5 hcs;obtain ⟨j2,j3,j4⟩:=at5 kL;have t2:d2=c2:=Option.some.inj (j2.symm.trans (jQ 2 _ i2 Ta.slice));have t3:d3=c3:=Option.some.inj (j3.symm.trans (jQ 3 _ i3 Tb.slice));have t4:d4=c4:=Option.some.inj (j4.symm.trans (jQ 4 _ i4 Tc.slice));rw [t2,t3,t4] at kL;have qR:qx (s6 78 [3,1,2,7,8,9,10,11,12,13,14] a5.tmps) a7.tmps:=fY.sl.1;have v9:a7.tmps.getD 9 undef = .pointer (some ⟨b9,0,none⟩):=((B3 fY.sl.1 (by decide)).trans (B3 eV.sl.1 (by decide))).trans e9;have v8:a5.tmps.getD 8 undef=Ai b n:=((B3 eV.sl.1 (by decide)).trans (B3 eI.sl.1 (by decide))).trans e8;refine ayq (ar.nil PP) (zl w7 a7.defers) (nt:=s6 78 [3,1,2,7,8,9,10,11,12,13,14] a5.tmps) (n:=1) zK zK (Gp (x:=#[]) zK) (d:=some 64) (f:=32) (args:=[63]) zK zK (aIq d0 d1 c2 c3 c4) (Ck qR (aam (fun p hp=>by rw [zz0] at hp;subst hp;exact aIz fX kL v9 (fun j=>cr fX)))) ?_;intro BK vE yN kR tB h63 cC;have kS:=tE.trans (cC.quiet S 0 true);show Calls PP _ #[kR.tmps.getD 63 undef] tB _;rw [amm cC h63];refine (afq (N:=8192) (Nn:=16777216) (Nd:=16777216) (M:=16777216+(0+0+0)) (by decide) (by decide) (fun b hb=>(pI b).2 (.inr (zzu (N5.later cC).size hb))) (wx (by decide) kS Ta) (wx (by decide) kS Tb) (wx (by decide) kS Tc)).mono ?_;rintro e lL ⟨vK,rfl,jY⟩;refine ⟨vK,rfl,fun gG kK fT _=>?_⟩;have zH:rn S w0 aA.defers gG.defers lL:=by rw [kK];exact (T7.later cC).sv jY
 have zJ:rn S w5 a5.defers gG.defers lL:=by rw [kK];exact (N5.later cC).sv jY
 have sX:rn S w3 a3.defers gG.defers lL:=by rw [kK];exact (N3.later cC).sv jY
 have rS:([3,1,7,11,13]:List Nat).map (fun t=>gG.tmps.getD t undef)=([3,1,7,11,13]:List Nat).map (fun t=>a5.tmps.getD t undef):=Vv fT (by decide);have cJ:=cb.win zJ uQ pZ;rw [<- rS] at cJ;have y8:gG.tmps.getD 8 undef=Ai b n:=(B3 fT (by decide)).trans v8;refine Kc (Ar zK) (wpIn_seq ?_);have mI:ff 8 (Tryz.f5.body.getD .skip) = .region (idC (ff 8 (Tryz.f5.body.getD .skip))) (jh (ff 8 (Tryz.f5.body.getD .skip))) false:=zK;rw [mI];refine Fm ?_;rw [agk];have nP:mq (s6 78 [3,1,2,7,8,9,10,11,12,13,14] a5.tmps) (jh (ff 8 (Tryz.f5.body.getD .skip)))=true:=zK;have nT:ri (s6 78 [3,1,2,7,8,9,10,11,12,13,14] a5.tmps) (jh (ff 8 (Tryz.f5.body.getD .skip)))=true:=zK;have qZ:∀ o ∈ (jh (ff 8 (Tryz.f5.body.getD .skip))).toList.take 11++ar9 11::(jh (ff 8 (Tryz.f5.body.getD .skip))).toList.drop 12,o ∈ (jh (ff 8 (Tryz.f5.body.getD .skip))):=fun o ho=>by rw [<- agk] at ho;exact Array.mem_toList_iff.1 ho
 refine ar0 aD1 (zl lL gG.defers) nP nT (fun o ho=>qZ o (zzq.2 (.inl ho))) (qZ _ (by simp)) alk.2 zK (aI3 z n P (Ai b n) hz hfr.mid) (Ck fT (aam (fun p hp=>?_))) (fun L st h=>ay8 alk.1 zK h.1) ?_
 ·simp only [zya,List.not_mem_nil,or_false] at hp;rcases hp with rfl|rfl|rfl|rfl|rfl|rfl
  ·exact cJ.2 0 _ _ rfl rfl
  ·exact cJ.2 2 _ _ rfl rfl
  ·exact cJ.2 3 _ _ rfl rfl
  ·exact cJ.2 4 _ _ rfl rfl
  ·exact Ya y8
  ·exact cJ.2 1 _ _ rfl rfl
 rintro BJ vD AX uY pR ⟨yH,yG,yF⟩ eW;have nW:uc n b pR:=dO.stay ((sX.later eW).low b hb3 (pJ b hb3));show Calls PP _ #[uY.tmps.getD 74 undef,uY.tmps.getD 75 undef] pR _;rw [eW.exact yG];refine (aa1 hn hlen nW (K:=vj pR) (fun _ _ h=>h) (eW.read (aC aj a0) [75] yF)).mono ?_;rintro e tA ⟨rfl,vM⟩;refine ⟨_,rfl,fun sV rZ qJ mV rW=>?_⟩;have mR:qx (s6 78 [3,1,2,7,8,9,10,11,12,13,14] a5.tmps) sV.tmps:=aw6 eW.sl.1 qJ mV (by decide);have zG:rn S w0 aA.defers sV.defers tA:=by rw [rZ];exact (zH.later eW).sv (vM.sv S 0 false)
 refine akt (ar.nil PP) (zl tA sV.defers) nP nT (fun o ho=>qZ o (zzq.2 (.inr (List.mem_cons_of_mem _ ho)))) aI7 (Ck mR (aam (fun p hp=>?_))) ?_
 ·simp only [zya,List.not_mem_nil,or_false] at hp;rcases hp with rfl|rfl
  ·exact Ya ((mV 73 (by decide)).trans (eW.exact yH))
  ·exact Ya (rW 76 rfl)
 intro BI vC AW zA vB h6 kH;have xJ:fm (8+1) (Tryz.f5.body.getD .skip) = .ret:=zK;show (fm (8+1) (Tryz.f5.body.getD .skip)).wpIn (fu none) 0 PP _ zA vB;rw [xJ];exact wpIn_ret (rn.fin hp aG aN lB (zG.later kH) xX hO (Qf kH.sl.1 rfl) (kH.exact h6) (e:=.ret) aF2)
noncomputable def arF (x:ay × Name × UInt16 × Unit):Option AV:=open Classical in if (bo x.1/\gu n9 x.1.ak<=8388608)/\aw x.2.1/\x.2.1.length+3<=16777216 then some ((r1 bk).E true true) else none
theorem aD3 (x:ay × Name × UInt16 × Unit) (r:AV) (h:arF x=some r):bj PP 5 ((aC bf (aC aj (aC cj a0))).E x) r:=by obtain ⟨hc,rfl⟩:=zI h;exact Bt (body:=(Tryz.f5.body.getD .skip)) Tryz.func5 zK zK zL (r1 bk) true true (fun B g a w aG hp hO aN hh=>azx aG hp hO aN hc.1.1 hc.1.2 hc.2.1 hc.2.2 hh)
end Go.Proofs.YtjagjbceegbaiaaGreat
end
section
namespace Go.Proofs.YtjagjbceegbaiaaGreat
open Go.Vm
noncomputable section
def muP {α β:Type} (μ : α->Nat) (ν : β->Nat) (p : α × β):Nat:=μ p.1 + ν p.2
def Gm {α:Type} (μ : α->Nat) (l:List α):Nat:=vw μ l+1
def U0 {α:Type} (_ : α):Nat:=1
def muI {α β:Type} (f : β -> α) (μ : α->Nat) (y : β):Nat:=μ (f y)+1
def aap (P:Program) (t:TypeId):List Field:=match P.underlying t with|some (.struct fs)=>fs.toList|_=>[]
def aGx (l:List Field):Nat:=match l with|f::_=>f.offset | []=>0
def tyH (l:List Field):TypeId:=match l with|f::_=>f.type | []=>0
def aDp (l:List Field):Bool:=match l with|_::_=>true | []=>false
def aJ3 (l:List Field):Bool:=match l with | [_]=>true|_=>false
theorem V1 {P:Program} {l:List Field} {off:Nat} {t:TypeId} {α:Type} {C:dp α} {μ : α->Nat} (hl:aJ3 l=true) (ho:aGx l=off) (ht:tyH l=t) (hs:P.cellsOf t=C.sz) (h:Rd P t C μ):RdF P l off C μ:=by
 match l,hl with
 | [f],_=>subst ht;exact fun {H}=>aEe ho hs h
theorem wj {P:Program} {l:List Field} {off:Nat} {t:TypeId} {α β:Type} {A:dp α} {B:dp β} {μ : α->Nat} {ν : β->Nat} (hl:aDp l=true) (ho:aGx l=off) (ht:tyH l=t) (hs:P.cellsOf t=A.sz) (h:Rd P t A μ) (hr:RdF P l.tail (off+A.sz) B ν):RdF P l off (jq A B) (muP μ ν):=by
 match l,hl with
 |f::fs,_=>subst ht;exact fun {H}=>aAz ho hs h hr
theorem Nc {P:Program} {t:TypeId} {α β:Type} {C:dp α} {μ : α->Nat} {f : β -> α} {i : α -> β} {h1:∀ y,i (f y)=y} {h2:∀ x,f (i x)=x} (ht:aDp (aap P t)=true) (hc:P.cellsOf t=C.sz) (h:RdF P (aap P t) 0 C μ):Rd P t (x7 C f i h1 h2) (muI f μ):=by
 unfold aap at ht h;cases hu:P.underlying t with
 |none=>rw [hu] at ht;cases ht
 |some d=>
  rw [hu] at ht h;cases d with
  |struct fs=>exact fun {H}=>aGe (avv hu hc h)
  |_=>cases ht
theorem Bq {P:Program} {t e:TypeId} {α:Type} {C:dp α} {μ : α->Nat} (ht:P.underlying t=some (.slice e)) (hsz:P.cellsOf e=C.sz) (cG : 0<C.sz) (he:Rd P e C μ):Rd P t (cg C) (Gm μ):=aDy ht hsz cG he
def Tk (s:ByteArray):Nat:=s.size+1
theorem rdS:Rd PP 9 ai Tk:=aF1 zK
def sg:Name->Nat:=Gm Tk
theorem Z0:Rd PP 23 aj sg:=Bq (e:=9) zK zK (by decide) rdS
theorem aFk:Rd PP 22 aj sg:=Bq (e:=9) zK zK (by decide) rdS
theorem aFr:Rd PP 51 (cg aj) (Gm sg):=Bq (e:=23) zK zK (by decide) Z0
theorem aGv:Rd PP 113 (cg cz) (Gm U0):=Bq (e:=60) zK zK (by decide) (ayp zK)
theorem aI0:Rd PP 114 (cg ca) (Gm U0):=Bq (e:=5) zK zK (by decide) (aIg zK)
def Ma (d:cq):Nat:=Gm sg d.names+(Gm U0 d.nums+(sg d.texts+Gm U0 d.raw))+1
theorem aH7:Rd PP 116 bc Ma:=
 Nc zK zK (wj zK zK zK zK aFr (wj zK zK zK zK aGv (wj zK zK zK zK aFk (V1 zK zK zK zK aI0))))
theorem aD7:Rd PP 61 (cg bc) (Gm Ma):=Bq (e:=116) zK zK (by decide) aH7
theorem ayc:Rd PP 50 cj U0:=ayu zK
theorem aE3:Rd PP 59 cj U0:=ayu zK
theorem aJa:Rd PP 60 cz U0:=ayp zK
def Tg (s:ba):Nat:=sg s.owner+(1+(1+(1+Gm Ma s.data)))+1
theorem aIj:Rd PP 63 ag Tg:=
 Nc zK zK (wj zK zK zK zK Z0 (wj zK zK zK zK ayc (wj zK zK zK zK aE3 (wj zK zK zK zK aJa (V1 zK zK zK zK aD7)))))
theorem aIb:Rd PP 24 (cg ag) (Gm Tg):=Bq (e:=63) zK zK (by decide) aIj
def Qy (z:ay):Nat:=sg z.origin+Gm Tg z.ak+1
theorem aF8:Rd PP 26 bf Qy:=
 Nc zK zK (wj zK zK zK zK Z0 (V1 zK zK zK zK aIb))
theorem Mp (n:Name):cd n=sg n:=by
 suffices h:∀ (n:Name) (k:Nat),n.foldl (fun k s=>k+(s.size+1)) k=k+vw Tk n by have:=h n 1;simp only [cd,sg,Gm];omega
 intro n
 induction n with
 |nil=>intro k;rfl
 |cons a n ih=>intro k;rw [List.foldl_cons,ih];simp only [vw,Tk];omega
theorem Si {α:Type} {f μ : α->Nat} {c:Nat} {l:List α} (h:∀ x,f x+1<=c * μ x):gu f l<=c * vw μ l:=by
 induction l with
 |nil=>simp [gu,vw]
 |cons a l ih=>
  have:=h a;simp only [gu,List.foldr_cons,vw,Nat.mul_add] at ih ⊢;omega
theorem ap5 {α:Type} (l:List α):vw U0 l=l.length:=by
 induction l with
 |nil=>rfl
 |cons a l ih=>simp only [vw,ih,U0,List.length_cons];omega
theorem aFo (d:cq):Ce d+1<=3 * Ma d:=by have h1:=Si (f:=cd) (μ:=sg) (c:=2) (l:=d.names) (fun n=>by rw [Mp];simp only [sg,Gm];omega);have h2:=Si (f:=ByteArray.size) (μ:=Tk) (c:=1) (l:=d.texts) (fun n=>by unfold Tk;omega);have h3:=ap5 d.nums;have h4:=ap5 d.raw;simp only [Ce,Ma,sg,Gm] at *;omega
theorem aId (s:ba):n9 s+1<=4 * Tg s:=by have h1:=Si (f:=Ce) (μ:=Ma) (c:=3) (l:=s.data) aFo;have h2:=Mp s.owner;simp only [n9,Tg,sg,Gm] at *;omega
theorem ap1 (z:ay):Mk z<=4 * Qy z:=by have h1:=Si (f:=n9) (μ:=Tg) (c:=4) (l:=z.ak) aId;have h2:=Mp z.origin;simp only [Mk,Qy,sg,Gm] at *;omega
theorem atf {z:ay} (h:Qy z<=1048576):bo z:=by have:=ap1 z;unfold bo;omega
theorem ara {n:Name} (h:sg n<=1048576):aw n:=by unfold aw;rw [Mp];omega
end
end Go.Proofs.YtjagjbceegbaiaaGreat
end
section
namespace Go.Proofs.YtjagjbceegbaiaaGreat
open Go.Vm Go.ChangeShapes Go.WideShapes Go.ChangeAt
mutual
theorem Y5 {H:Type}:∀ d:DataW H,Rows.uptoBulk d=n8 d
 |.lit l=>by cases l<;>simp only [Rows.uptoBulk,n8]
 |.nil=>by simp only [Rows.uptoBulk,n8]
 |.ptr d=>by simp only [Rows.uptoBulk,n8,Y5 d]
 |.slice a b=>by simp only [Rows.uptoBulk,n8,Sf a,Sf b]
 |.agg a=>by simp only [Rows.uptoBulk,n8,Sf a]
 |.iface _ d=>by simp only [Rows.uptoBulk,n8,Y5 d]
 |.map e=>by simp only [Rows.uptoBulk,n8,au7 e]
 |.held _=>by simp only [Rows.uptoBulk,n8]
theorem Sf {H:Type}:∀ l:List (DataW H),Rows.uptoBulkAll l=pk l
 | []=>by simp only [Rows.uptoBulkAll,pk]
 |d::r=>by simp only [Rows.uptoBulkAll,pk,Y5 d,Sf r]
theorem au7 {H:Type}:∀ l:List (Lit × DataW H),Rows.uptoBulkEntries l=Xa l
 | []=>by simp only [Rows.uptoBulkEntries,Xa]
 |x::r=>by simp only [Rows.uptoBulkEntries,Xa,aG7 x,au7 r]
theorem aG7 {H:Type}:∀ x:Lit × DataW H,Rows.uptoBulkEntry x=auq x
 |(l,d)=>by cases l<;>simp only [Rows.uptoBulkEntry,auq,Y5 d]
end
theorem avr {H:Type} {l:List (DataW H)} (h:Rows.uptoSmall H l=true):pk l<=1048576:=by
 have:=of_decide_eq_true h
 rwa [Sf] at this
theorem asj {H:Type} {enc:TypeId × Value->H} {C:Checked} {os:Os} {f:FuncId} {fn:Func} {s:OpenSpec} {k:(H:Type)->List (DataW H)->Bool} (hk:s.cond=some k) {conds:List PathCond} {apart:Bool} (modest:Bool) (i:Input) (fuel:Nat)
 (hv:(World.plainHolding C.prog os i).variablesB C.prog=true)
 (hr:((World.plainHolding C.prog os i).heap.toList.drop C.prog.globals.size).take ((begin C.prog (fun _ _=>0) default).world.heap.size - C.prog.globals.size) =
  (begin C.prog (fun _ _=>0) default).world.heap.toList.drop C.prog.globals.size)
 (aB:Input.okWideB C.prog (World.plainHolding C.prog os i) f ⟨#[],i.args,[]⟩=true)
 (hx:(match DataW.whole enc C.prog (World.plainHolding C.prog os i).memory fn.params.toList s.vars apart i.args.toList fuel with
  |some x=>conds.all (PathCond.test C.prog ⟨fn.params.toList,x.1,s.bare.plain.varTypes C.prog,x.2.1⟩) && k H (x.1++x.2.1)
  |none=>false)=true)
 (hsz:s.bare.sizedB enc C.prog fn apart (World.plainHolding C.prog os i).memory i.args fuel=true) :
 ∃ (w:World) (tape:Tape) (i:Input),w.os=os/\(w.forCall tape i).Shaped C.prog/\i.vars=[]/\Input.okWide C.prog (w.forCall tape i) .any w.heap.size f i /\
  s.pre6 enc C.prog fn conds apart (w.forCall tape i).memory i.args/\({ modest:=modest }:Assume).holds C.prog (lone (Frame.enter C.prog f i.args .normal) [] (w.forCall tape i)):=by
 cases hd:DataW.whole enc C.prog (World.plainHolding C.prog os i).memory fn.params.toList s.vars apart i.args.toList fuel with
 |none=>rw [hd] at hx;cases hx
 |some x=>
  rw [hd] at hx;simp only [zzh] at hx;exact OpenSpec.witness hk modest i fuel hv hr aB hd hx.1 hx.2 hsz
end Go.Proofs.YtjagjbceegbaiaaGreat
end
section
namespace Go.Proofs.YtjagjbceegbaiaaGreat.answerReplies
open Go.Vm Go.ChangeShapes Go.WideShapes Go.ChangeAt
theorem aAj (x:ay × Name × UInt16 × Unit) (h:(Qy x.1+(sg x.2.1+(U0 x.2.2.1+0)))<=1048576):bj PP 5 ((aC bf (aC aj (aC cj a0))).E x) (.sc (.bool true)):=
 aD3 x _ (by unfold arF;exact if_pos ⟨⟨atf zO,by have h1:=ap1 x.1;unfold Mk at h1;omega⟩,ara zO,by have h1:=(ju x.2.1 0).2;rw [Mp] at h1;omega⟩)
theorem own:ownKnob PP.godebug=none:=zK
theorem aDx:PP.underlying 4=some .bool:=zK
theorem lifted (os:Os) (started:os.Started) (H:Type) (enc:TypeId × Value->H) (F:Stop.Interp) :
 ReturnsInHanded {} Tryz.checked os 5 .any ((Rows.OpenSpec.upto Rows.answerRepliesSpec).pre6 enc Tryz.prog Tryz.f5 Rows.answerRepliesUptoRow.domain false) (((Rows.OpenSpec.upto Rows.answerRepliesSpec).at F).post enc Tryz.prog Tryz.f5 false true false false):=by
 refine returnsInHanded_of_cond (C:=Tryz.checked) (k:=Rows.uptoSmall) rfl own started zK Tryz.func5
  (asj (enc:=enc) (C:=Tryz.checked) rfl false ⟨#[],Tryz.f5.params.map fun t=>((PP.info? t).bind (·.zero)).getD undef,[]⟩ 8 zK zK zK zK zK) ?_
 intro W base args ds gs before hval hW _ hk _;exact azn zK zK (afm zK) (tb:=4) zK rfl zK aDx (asi zK)
  (fun H ds hl=>by match ds,(show ds.length=3 from hl) with | [_,_,_],_=>rfl) (A:=(aC bf (aC aj (aC cj a0)))) (Vw zK aF8 (Vw zK Z0 (Vw zK ayc (aEj PP)))) (N:=some 1048576) (fun x hx=>aAj x (hx _ rfl)) enc W base args ds gs before hval hW (fun n hn=>by cases hn;exact avr hk)
theorem over:Rows.answerRepliesUptoRow.holds Tryz.pinned (Rows.OpenSpec.upto Rows.answerRepliesSpec):=
 OpenClaim.holds_of_cond 5 Tryz.f5 rfl rfl rfl rfl rfl rfl rfl ⟨rfl,rfl,rfl,rfl,rfl⟩ rfl rfl rfl rfl rfl zK Tryz.func5 zK
  (of_decide_eq_true zK) (by unfold Func.isWrapper;first|(rw [if_pos (by decide +kernel)];kernel_rfl)|(rw [if_neg (by decide +kernel)];exact ⟨rfl,rfl⟩))
  (fun os started H enc _ F=>lifted os started H enc F)
theorem proved : Rows.AnswerRepliesUptoSaid := over
end Go.Proofs.YtjagjbceegbaiaaGreat.answerReplies
end
