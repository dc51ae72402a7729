/- A piece of the proof of the law ZoneMakes: lemmas. No condition. -/
import Derived.Test.YtjagjbceegbaiaaGreatProg
import Derived.Test.YtjagjbceegbaiaaGreatRows
import Derived.Test.YtjagjbceegbaiaaGreatM4
set_option linter.unusedSimpArgs false
set_option linter.unusedVariables false
set_option linter.unusedSectionVars false
set_option maxRecDepth 2000000
section
namespace Go.Proofs.YtjagjbceegbaiaaGreat
open Go.Vm
theorem ak0 (l:Name) (hl:l.length<=16777216):wl PP [] 0 (Tryz.f74.body.getD .skip) (di PP Tryz.f74.results.toList (fun r st=>(r1 au).get true st.h r=some l)) (cj 0 [au.val false l]) (ay []):=by have aD:l.length * 16<=140737488355328:=zO;unfold Tryz.f74;simp only [cr];simp only [↓wR,zT,simprocAttr,aD]
noncomputable def Bv (x:Name × Unit):Option AV:=if x.1.length<=16777216 then some ((r1 au).E true (x.1)) else none
theorem N8 (x:Name × Unit) (r:AV) (h:Bv x=some r):bo PP 74 ((aC au a0).E x) r:=by obtain ⟨hc,rfl⟩:=zI h;exact bf (ak.nil PP) Tryz.func74 zK zK zK zL (r1 au) true (x.1) (ak0 x.1 hc)
noncomputable abbrev afu:zE:=(74,true,dg (aC au a0) Bv)
theorem ao8 (l:Name) (hl:l.length<=16777216):wl PP [afu] 0 (Tryz.f38.body.getD .skip) (di PP Tryz.f38.results.toList (fun r st=>(r1 au).get true st.h r=some l)) (cj 0 [au.val false l]) (ay []):=by unfold Tryz.f38;simp only [cr];simp only [↓wR,zT,simprocAttr,Bv,hl]
noncomputable def rn (x:Name × Unit):Option AV:=if x.1.length<=16777216 then some ((r1 au).E true (x.1)) else none
theorem v8 (x:Name × Unit) (r:AV) (h:rn x=some r):bo PP 38 ((aC au a0).E x) r:=by obtain ⟨hc,rfl⟩:=zI h;exact bf (ak.cons (aq N8) (ak.nil PP)) Tryz.func38 zK zK zK zL (r1 au) true (x.1) (ao8 x.1 hc)
noncomputable abbrev Fe:zE:=(38,true,dg (aC au a0) rn)
theorem amb (l:List UInt8) (hl:l.length<=16777216):wl PP [] 0 (Tryz.f148.body.getD .skip) (di PP Tryz.f148.results.toList (fun r st=>(r1 (bw bt)).get true st.h r=some l)) (cj 0 [(bw bt).val false l]) (ay []):=by have aD:l.length<=140737488355328:=zO;unfold Tryz.f148;simp only [nv];simp only [↓wR,zT,simprocAttr,aD]
noncomputable def E1 (x:List UInt8 × Unit):Option AV:=if x.1.length<=16777216 then some ((r1 (bw bt)).E true (x.1)) else none
theorem abj (x:List UInt8 × Unit) (r:AV) (h:E1 x=some r):bo PP 148 ((aC (bw bt) a0).E x) r:=by obtain ⟨hc,rfl⟩:=zI h;exact bf (ak.nil PP) Tryz.func148 zK zK zK zL (r1 (bw bt)) true (x.1) (amb x.1 hc)
noncomputable abbrev aAd:zE:=(148,true,dg (aC (bw bt) a0) E1)
theorem anq (d:bp) (hd:ca d):wl PP [afu,Fe,aAd] 0 (Tryz.f116.body.getD .skip) (di PP Tryz.f116.results.toList (fun r st=>(r1 ai).get true st.h r=some d)) (cj 0 [ai.val false d]) (ay []):=by
 have mA:=hd.lens;have hq:∀ a b c d,eh a b c=d->eh a b c=d:=fun _ _ _ _ h=>h
 unfold Tryz.f116;simp only [jn];have hnl:=mA.1;have aD:d.nums.length * 4<=140737488355328:=zO;simp only [↓wR,zT,simprocAttr];refine ⟨zK,.inl ?_⟩;simp only [↓wR,zT,simprocAttr,aD,Bv,E1,mA.2.2.1,mA.2.2.2];refine ⟨by apply hq;kernel_rfl,?_⟩;refine i9 [1,2,4,3] (fun (x:List Name)=>[.ptr 0 0,.ptr 1 0,zi x.length,.ptr 2 0]) (fun x=>[some (.row [zv d.names,zu d.nums,zn d.texts,zw d.raw] 0 2 116),some (.row [.sc (.slice none 0 0),.sc (.slice none 0 0),.sc (.slice none 0 0),.sc (.slice none 0 0)] 0 2 116),some (.row [.sl 3 0 x.length 1,.vl true 1 (d.nums.map (cy.val true)),.vl true 1 (d.texts.map (ah.val true)),.vl true 1 (d.raw.map (bt.val true))] 0 2 116),some (.row (x.map (au.val true)) 0 0 23)]) (fun x=>x.length<=d.names.length/\x++d.names.drop x.length=d.names) (fun x=>d.names.length - x.length) [] ⟨zzb _,rfl⟩ (by
  simp only [↓wR,zT,simprocAttr];refine .trans (vs':=[.ptr 0 0,.ptr 1 0,zi 0,.ptr 2 0]) (os':=[some (.row [zv d.names,zu d.nums,zn d.texts,zw d.raw] 0 2 116),some (.row [.sc (.slice none 0 0),.sc (.slice none 0 0),.sc (.slice none 0 0),.sc (.slice none 0 0)] 0 2 116),some (.row [.sc (.slice none 0 0),.vl true 1 (d.nums.map (cy.val true)),.vl true 1 (d.texts.map (ah.val true)),.vl true 1 (d.raw.map (bt.val true))] 0 2 116),none]) (kh.lax [3] (zB rfl) (ft.refl _ _) (.same (.same (.row (.cons (.same _) (.cons (.data (bw cy) true d.nums _ ?_) (.cons (.same _) (.cons (.same _) .nil)))) (cq.refl _ _))))) (.trans (vs':=[.ptr 0 0,.ptr 1 0,zi 0,.ptr 2 0]) (os':=[some (.row [zv d.names,zu d.nums,zn d.texts,zw d.raw] 0 2 116),some (.row [.sc (.slice none 0 0),.sc (.slice none 0 0),.sc (.slice none 0 0),.sc (.slice none 0 0)] 0 2 116),some (.row [.sc (.slice none 0 0),.vl true 1 (d.nums.map (cy.val true)),.vl true 1 (d.texts.map (ah.val true)),.vl true 1 (d.raw.map (bt.val true))] 0 2 116)]) (kh.awc (by decide) ?_ ?_) (by (refine kh.lax [] (by first|exact zB rfl|(simp [cz];omega)) ?_ ?_<;>repeat' first|exact ft.nil|exact cq.nil|exact gn.same _|exact gn.nil _ _ _|exact gn.qb _ _|exact cq.refl _ _|apply ft.cons|apply cq.ghost|apply cq.same|apply cq.row)))<;>simp only [↓wR,zT,simprocAttr,Cg,Eb,Fu,wz]) ?_
 rintro x ⟨hi,hx⟩;simp only [↓wR,zT,simprocAttr];rw [az];refine ⟨fun h=>?_,fun h=>?_⟩
 ·obtain ⟨c,hc,aH,hlt⟩:=fi (zp h);rw [aH] at hx;have iN:(x.length+1) * 24<=140737488355328:=zO;have hcl:c.length<=16777216:=by have:=(hd.name c (zm hc));have:=(ku c 0).2;unfold bj at *;omega
  simp only [↓wR,zT,simprocAttr,h];refine ⟨zK,.inl ?_⟩
  repeat (first|simp only [↓wR,zT,simprocAttr,hc,rn,hcl,iN]|simp (disch:=omega) only [zW])
  exact ⟨by apply hq;kernel_rfl,x++[c],⟨by simp;omega,by simpa using hx⟩,by simp;omega,zF,zF⟩
 ·rw [gz (zq h),zzn] at hx;subst hx;simp only [↓wR,zT,simprocAttr,h]
noncomputable def tf (x:bp × Unit):Option AV:=if ca x.1 then some ((r1 ai).E true (x.1)) else none
theorem Hy (x:bp × Unit) (r:AV) (h:tf x=some r):bo PP 116 ((aC ai a0).E x) r:=by obtain ⟨hc,rfl⟩:=zI h;exact bf (ak.cons (aq N8) (ak.cons (aq v8) (ak.cons (aq abj) (ak.nil PP)))) Tryz.func116 zK zK zK zL (r1 ai) true (x.1) (anq x.1 hc)
noncomputable abbrev Xk:zE:=(116,true,dg (aC ai a0) tf)
theorem sv {n:Name} (h:bj n):n.length<=16777216:=by have:=(ku n 0).2;unfold bj at h;omega
theorem asf (s:aw) (hs:cw s):wl PP [Fe,Xk] 0 (Tryz.f75.body.getD .skip) (di PP Tryz.f75.results.toList (fun r st=>(r1 aj).get true st.h r=some s)) (cj 0 [aj.val false s]) (ay []):=by
 have dQ:=sv hs.owner;have hd:=hs.data;have hn:=hd.len;have hq:∀ a b c d,eh a b c=d->eh a b c=d:=fun _ _ _ _ h=>h
 unfold Tryz.f75;simp only [ji];simp only [↓wR,zT,simprocAttr];refine ⟨zK,.inl ?_⟩;simp only [↓wR,zT,simprocAttr,rn,dQ];refine ⟨by apply hq;kernel_rfl,?_⟩;refine i9 [1,2,4,3] (fun (x:List bp)=>[.ptr 0 0,.ptr 1 0,zi x.length,.ptr 2 0]) (fun x=>[(zY s),some (.row [.sc (.slice none 0 0),.sc (.int .u16 0),.sc (.int .u16 0),.sc (.int .u32 0),.sc (.slice none 0 0)] 0 2 63),some (.row [au.val true s.owner,.sc (.int .u16 s.type.toNat),.sc (.int .u16 s.cls.toNat),.sc (.int .u32 s.b9.toNat),.sl 3 0 x.length 4] 0 2 63),some (.row (cellsOf ai true x) 0 0 116)]) (fun x=>x.length<=s.data.length/\x++s.data.drop x.length=s.data) (fun x=>s.data.length - x.length) [] ⟨zzb _,rfl⟩ zX ?_;rintro x ⟨hi,hx⟩;simp only [↓wR,zT,simprocAttr];rw [az];refine ⟨fun h=>?_,fun h=>?_⟩
 ·obtain ⟨c,hc,aH,hlt⟩:=fi (zp h);rw [aH] at hx;have hcs:=hd.mem c (zm hc);have aD:(x.length * 4+4) * 96<=140737488355328:=zO;simp only [↓wR,zT,simprocAttr,h];refine ⟨zK,.inl ?_⟩
  repeat (first|simp only [↓wR,zT,simprocAttr,hc,tf,hcs,aD]|simp (disch:=omega) only [zW])
  refine ⟨by apply hq;kernel_rfl,x++[c],⟨by simp;omega,by simpa using hx⟩,by simp;omega,zF,?_⟩;rw [tx,za];rfl
 ·rw [gz (zq h),zzn] at hx;subst hx;simp only [↓wR,zT,simprocAttr,h]
noncomputable def vp (x:aw × Unit):Option AV:=if cw x.1 then some ((r1 aj).E true (x.1)) else none
theorem Jt (x:aw × Unit) (r:AV) (h:vp x=some r):bo PP 75 ((aC aj a0).E x) r:=by obtain ⟨hc,rfl⟩:=zI h;exact bf (ak.cons (aq v8) (ak.cons (aq Hy) (ak.nil PP))) Tryz.func75 zK zK zK zL (r1 aj) true (x.1) (asf x.1 hc)
noncomputable abbrev acn:zE:=(75,true,dg (aC aj a0) vp)
theorem ft.aIg {h:Tr bk}:∀ (a:List AV) {b c:List AV},ft h b c->ft h (a++b) (a++c)
 | [],_,_,q=>q
 |x::a,_,_,q=>.cons (.same x) (ft.aIg a q)
theorem azw {t:UInt16} {d:bp} (h:qq t=true):k5 t d=d:=by
 have hk:(du t).names=0:=by
  unfold qq at h;unfold du
  repeat' split
  all_goals first|rfl|(exfalso;simp at h;omega)
 unfold k5;rw [hk,if_neg zO]
theorem amp (t:UInt16) : 0<=(du t).names:=by
 unfold du
 repeat' split
 all_goals decide
set_option maxHeartbeats 4000000 in
theorem aCl (t:UInt16) (d:bp) (hd:ca d):wl PP [rOf,aje] 0 (Tryz.f184.body.getD .skip) (di PP Tryz.f184.results.toList (fun r st=>(r1 ai).get false st.h r=some (k5 t d))) (cj 0 [ct.val false t,ai.val false d]) (ay []):=by
 have hl:=hd.lens;have aL:=amp t;unfold Tryz.f184;simp only [jn,cr];simp only [↓wR,zT,simprocAttr,aia,z9];rw [dv];refine ⟨fun hb=>?_,fun hb=>?_⟩
 ·have hb':qq t=true:=by simpa using hb
  rw [azw hb'];simp only [↓wR,zT,simprocAttr,hb]
 simp only [↓wR,zT,simprocAttr,hb];unfold k5;rw [cp];refine ⟨fun ⟨h0,e0⟩=>?_,fun ⟨h0,e0⟩=>?_⟩
 ·rw [if_neg zO];simp only [↓wR,zT,simprocAttr,h0]
 rw [if_pos zO];simp only [↓wR,zT,simprocAttr,h0];refine agb [3,4,8,7] (fun (x:List Name)=>[.ptr 0 0,.ptr 1 0,zi x.length,.ptr 2 0]) (fun x=>[some (.row [zv d.names,zu d.nums,zn d.texts,zw d.raw] 0 2 116),some (.row [.sc (.slice none 0 0),.sc (.slice none 0 0),.sc (.slice none 0 0),.sc (.slice none 0 0)] 0 2 116),some (.row [.sl 3 0 x.length 1,zu d.nums,zn d.texts,zw d.raw] 0 2 116),some (.row (x.map (au.val true)) 0 0 23)]) (fun x=>x.length<=d.names.length/\x++(d.names.drop x.length).map fv=d.names.map fv) (fun x=>d.names.length - x.length) [] ⟨zzb _,rfl⟩ zX ?_;rintro x ⟨hi,hx⟩;simp only [↓wR,zT,simprocAttr];rw [az];refine ⟨fun h=>?_,fun h=>?_⟩
 ·obtain ⟨c,hc,aH,hlt⟩:=fi (zp h);rw [aH,List.map_cons] at hx;have rH:=hd.name c (zm hc);have hcl:=rH.lt;simp only [↓wR,zT,simprocAttr,h];refine i9 [3,4,8,10,7,9] (fun (y:Name)=>[.ptr 0 0,.ptr 1 0,zi x.length,zi y.length,.ptr 2 0,.sl 4 0 y.length 1]) (fun y=>[some (.row [zv d.names,zu d.nums,zn d.texts,zw d.raw] 0 2 116),some (.row [.sc (.slice none 0 0),.sc (.slice none 0 0),.sc (.slice none 0 0),.sc (.slice none 0 0)] 0 2 116),some (.row [.sl 3 0 x.length 1,zu d.nums,zn d.texts,zw d.raw] 0 2 116),some (.row (x.map (au.val true)) 0 0 23),some (.row (y.map (ah.val false)) 0 0 9)]) (fun y=>y.length<=c.length/\y++(c.drop y.length).map fold=fv c) (fun y=>c.length - y.length) [] ⟨zzb _,rfl⟩ zX ?_;rintro y ⟨hj,hy⟩;simp only [↓wR,zT,simprocAttr,hc];rw [az];refine ⟨fun h2=>?_,fun h2=>?_⟩
  ·obtain ⟨s,hs,mM,hlt2⟩:=fi (zp h2);rw [mM,List.map_cons] at hy;have yP:=rH.label s (zm hs)
   repeat (first|simp only [↓wR,zT,simprocAttr,h2,hc,hs,Bg,yP,cr]|simp (disch:=omega) only [zW])
   exact ⟨y++[fold s],⟨by simp;omega,by simpa using hy⟩,by simp;omega,zF,zF⟩
  rw [gz (zq h2)] at hy;obtain rfl:y=fv c:=by simpa using hy
  repeat (first|simp only [↓wR,zT,simprocAttr,h2]|simp (disch:=omega) only [zW])
  have gO:(fv c).length=c.length:=by simp [fv]
  refine ⟨x++[fv c],⟨by simp;omega,by simpa using hx⟩,by simp;omega,?_⟩;rw [show ((x++[fv c]).length:Int)=(x.length:Int)+1 by simp,zzw,za,zyi,List.map_cons,List.map_nil];refine .trans (vs':=[.ptr 0 0,.ptr 1 0,zi ((x.length:Int)+1),.ptr 2 0]) (os':=[some (.row [zv d.names,zu d.nums,zn d.texts,zw d.raw] 0 2 116),some (.row [.sc (.slice none 0 0),.sc (.slice none 0 0),.sc (.slice none 0 0),.sc (.slice none 0 0)] 0 2 116),some (.row [.sl 3 0 (x.length+1) 1,zu d.nums,zn d.texts,zw d.raw] 0 2 116),some (.row (x.map (au.val true)++[au.val true (fv c)]) 0 0 23),none]) (kh.lax [4] (zB rfl) (ft.refl _ _) (.same (.same (.same (.row (ft.aIg _ (.cons (.data (bw ah) true (fv c) _ ?_) .nil)) (cq.refl _ _)))))) (kh.awc (by decide) ?_ ?_)<;>simp only [↓wR,zT,simprocAttr,Cg,Eb,Fu,wz]
 ·rw [gz (zq h)] at hx;have kE:x=d.names.map fv:=by simpa using hx
  have cG:d.names.length=x.length:=by rw [kE,zzo]
  rw [<- kE];simp only [↓wR,zT,simprocAttr,h];rfl
noncomputable def Qq (x:UInt16 × bp × Unit):Option AV:=if ca x.2.1 then some ((r1 ai).E false (k5 x.1 x.2.1)) else none
theorem aug (x:UInt16 × bp × Unit) (r:AV) (h:Qq x=some r):bo PP 184 ((aC ct (aC ai a0)).E x) r:=by obtain ⟨hc,rfl⟩:=zI h;exact bf (ak.cons (aq W8) (ak.cons (aq Qi) (ak.nil PP))) Tryz.func184 zK zK zK zL (r1 ai) false (k5 x.1 x.2.1) (aCl x.1 x.2.1 hc)
noncomputable abbrev aKf:zE:=(184,true,dg (aC ct (aC ai a0)) Qq)
theorem Wt:∀ l m:List UInt8,Op.bytesLess l m=decide (Lib.compareBytes l m<0)
 | [],[]=>rfl
 |_::_,[]=>rfl
 | [],_::_=>rfl
 |a::l,b::m=>by
  have ih:=Wt l m;simp only [Op.bytesLess,Lib.compareBytes,ih];by_cases h1:a<b
  ·simp [h1]
  ·by_cases h2:b<a
   ·have:¬ a=b:=fun e=>by subst e;exact h1 h2
    simp [h1,h2,this]
   ·have:a=b:=by rw [UInt8.lt_iff_toNat_lt] at h1 h2;exact UInt8.toNat_inj.1 zO
    subst this;simp [h1]
theorem anh:∀ l m:List UInt8,Lib.compareBytes l m = -1\/Lib.compareBytes l m=0\/Lib.compareBytes l m=1
 | [],[]=>.inr (.inl rfl)
 |_::_,[]=>.inr (.inr rfl)
 | [],_::_=>.inl rfl
 |a::l,b::m=>by
  have ih:=anh l m;simp only [Lib.compareBytes]
  split
  ·exact .inl rfl
  ·split
   ·exact .inr (.inr rfl)
   ·exact ih
theorem cmp_eq (l m:List UInt8):(l == m)=decide (Lib.compareBytes l m=0):=by rw [zyc];simp only [beq_iff_eq,decide_eq_true_eq];exact ⟨fun e=>by rw [e];exact Us _,fun e=>Ty _ _ e⟩
theorem au1 {P:Program} {t:TypeId} (a b:ByteArray):ev P (binOp .lss t (.string a) (.string b))=some (.bool (decide (Lib.compareBytes a.data.toList b.data.toList<0))):=by rw [<- Wt,<- ByteArray.toList_eq,<- ByteArray.toList_eq];rfl
theorem avd {P:Program} {t:TypeId} (a b:ByteArray):ev P (binOp .gtr t (.string a) (.string b))=some (.bool (decide (0<Lib.compareBytes a.data.toList b.data.toList))):=by
 have h:(!(Op.bytesLess a.toList b.toList || (a.toList == b.toList)))=decide (0<Lib.compareBytes a.data.toList b.data.toList):=by rw [Wt,cmp_eq,ByteArray.toList_eq,ByteArray.toList_eq,zyc];simp;omega
 rw [<- h];rfl
theorem Zq (t:UInt16) (a b:bp) (ha:ca a) (hb:ca b):wl PP [ma,aKf,aH6] 0 (Tryz.f142.body.getD .skip) (di PP Tryz.f142.results.toList (fun r st=>(r1 (bh .i64)).get true st.h r=some (if c8 t a≠0\/c8 t b≠0 then 0 else yu t a b))) (cj 0 [ct.val false t,ai.val false a,ai.val false b]) (ay []):=by
 unfold Tryz.f142;simp only [jn,cr];simp only [↓wR,zT,simprocAttr,jo,ha,hb];rw [de];refine ⟨fun ⟨h1,e1⟩=>?_,fun ⟨h1,e1⟩=>?_⟩
 ·rw [if_pos (.inl e1)];simp only [↓wR,zT,simprocAttr,h1]
 simp only [↓wR,zT,simprocAttr,h1,jo,ha,hb];rw [de];refine ⟨fun ⟨h2,e2⟩=>?_,fun ⟨h2,e2⟩=>?_⟩
 ·rw [if_pos (.inr e2)];simp only [↓wR,zT,simprocAttr,h2]
 rw [if_neg zO];simp only [↓wR,zT,simprocAttr,h2];refine ⟨zK,.inl ?_⟩;have ea:=Ef e1;have eb:=Ef e2;have fa:=ca.fold ha t;have fb:=ca.fold hb t;simp only [↓wR,zT,simprocAttr,Qq,ha,hb,Mr,ea,eb,fa,fb];refine ⟨zK,?_⟩;have hv:yu t a b=Lib.compareBytes (qp t (k5 t a)) (qp t (k5 t b)):=by unfold yu ri Jq;rw [if_neg zO,if_neg zO,if_neg zO]
 rw [hv];obtain ⟨x,hx⟩:∃ x,x=qp t (k5 t a):=⟨_,rfl⟩;obtain ⟨y,hy⟩:∃ y,y=qp t (k5 t b):=⟨_,rfl⟩;rw [<- hx,<- hy];have h3:=anh x y;simp only [↓wR,zT,simprocAttr,au1];rw [az];refine ⟨fun h4=>?_,fun h4=>?_⟩
 ·have h5:Lib.compareBytes x y = -1:=zO;rw [h5];simp only [↓wR,zT,simprocAttr,h4]
 ·simp only [↓wR,zT,simprocAttr,h4,avd];rw [az];refine ⟨fun h6=>?_,fun h6=>?_⟩
  ·have h5:Lib.compareBytes x y=1:=zO;rw [h5];simp only [↓wR,zT,simprocAttr,h6]
  ·have h5:Lib.compareBytes x y=0:=zO;rw [h5];simp only [↓wR,zT,simprocAttr,h6]
noncomputable def nf (x:UInt16 × bp × bp × Unit):Option AV:=if ca x.2.1/\ca x.2.2.1 then some ((r1 (bh .i64)).E true ((if c8 x.1 x.2.1≠0\/c8 x.1 x.2.2.1≠0 then 0 else yu x.1 x.2.1 x.2.2.1))) else none
theorem B4 (x:UInt16 × bp × bp × Unit) (r:AV) (h:nf x=some r):bo PP 142 ((aC ct (aC ai (aC ai a0))).E x) r:=by obtain ⟨hc,rfl⟩:=zI h;exact bf (ak.cons (aq wv) (ak.cons (aq aug) (ak.cons (aq aoe) (ak.nil PP)))) Tryz.func142 zK zK zK zL (r1 (bh .i64)) true ((if c8 x.1 x.2.1≠0\/c8 x.1 x.2.2.1≠0 then 0 else yu x.1 x.2.1 x.2.2.1)) (Zq x.1 x.2.1 x.2.2.1 hc.1 hc.2)
noncomputable abbrev Kf:zE:=(142,true,dg (aC ct (aC ai (aC ai a0))) nf)
theorem ajy (t:UInt16) (a b:bp) (ha:ca a) (hb:ca b):wl PP [ma,Kf] 0 (Tryz.f174.body.getD .skip) (di PP Tryz.f174.results.toList (fun r st=>(r1 bq).get true st.h r=some (Av t a b))) (cj 0 [ct.val false t,ai.val false a,ai.val false b]) (ay []):=by
 unfold Av;unfold Tryz.f174;simp only [jn,cr];simp only [↓wR,zT,simprocAttr,jo,ha,hb];rw [cp];refine ⟨fun ⟨h1,e1⟩=>?_,fun ⟨h1,e1⟩=>?_⟩
 ·simp only [↓wR,zT,simprocAttr,h1,jo,ha,hb,e1];rw [cp];refine ⟨fun ⟨h2,e2⟩=>?_,fun ⟨h2,e2⟩=>?_⟩
  ·simp only [↓wR,zT,simprocAttr,h2,nf,ha,hb,e1,e2];rw [if_neg (by simp)];rfl
  ·simp only [↓wR,zT,simprocAttr,h2];simp [e2]
 ·simp only [↓wR,zT,simprocAttr,h1];simp [e1]
noncomputable def Eh (x:UInt16 × bp × bp × Unit):Option AV:=if ca x.2.1/\ca x.2.2.1 then some ((r1 bq).E true (Av x.1 x.2.1 x.2.2.1)) else none
theorem ace (x:UInt16 × bp × bp × Unit) (r:AV) (h:Eh x=some r):bo PP 174 ((aC ct (aC ai (aC ai a0))).E x) r:=by obtain ⟨hc,rfl⟩:=zI h;exact bf (ak.cons (aq wv) (ak.cons (aq B4) (ak.nil PP))) Tryz.func174 zK zK zK zL (r1 bq) true (Av x.1 x.2.1 x.2.2.1) (ajy x.1 x.2.1 x.2.2.1 hc.1 hc.2)
noncomputable abbrev ay0:zE:=(174,true,dg (aC ct (aC ai (aC ai a0))) Eh)
theorem aJn (t:UInt16) (l:List bp) (d:bp) (hl:kg l) (hd:ca d):wl PP [ay0] 0 (Tryz.f125.body.getD .skip) (di PP Tryz.f125.results.toList (fun r st=>(r1 bq).get true st.h r=some (m6 t l d))) (cj 0 [ct.val false t,(bw ai).val false l,ai.val false d]) (ay []):=by
 have aY:=hl.len;unfold m6;unfold Tryz.f125;simp only [jn,cr];simp only [↓wR,zT,simprocAttr];refine da [0,1,5,7] (fun (i:Nat)=>[.sc (.int .u16 t.toNat),zd l,.ptr 0 0,zi i]) (fun _=>[some (.row [zv d.names,zu d.nums,zn d.texts,zw d.raw] 0 2 116)]) (fun i=>i<=l.length/\(l.any fun x=>Av t x d)=((l.drop i).any fun x=>Av t x d)) (fun i=>l.length - i) 0 ⟨zzb _,rfl⟩ zS zS ?_;rintro i ⟨hi,hx⟩;simp only [↓wR,zT,simprocAttr];rw [az];refine ⟨fun h=>?_,fun h=>?_⟩
 ·obtain ⟨c,hc,aH,hlt⟩:=fi (zp h);have hsc:=hl.mem c (zm hc);rw [aH,List.any_cons] at hx;simp only [↓wR,zT,simprocAttr,h];refine ⟨zK,.inl ?_⟩;simp only [↓wR,zT,simprocAttr,hc,Eh,hsc,hd];refine ⟨zK,?_⟩;rw [dv];refine ⟨fun h2=>?_,fun h2=>?_⟩
  ·rw [hx,h2];simp only [↓wR,zT,simprocAttr,h2]
  ·rw [h2,Bool.false_or] at hx
   repeat (first|simp only [↓wR,zT,simprocAttr,h2]|simp (disch:=omega) only [zW])
   exact ⟨i+1,⟨hlt,hx⟩,zO,zF⟩
 ·rw [gz (zq h)] at hx;rw [hx];simp only [↓wR,zT,simprocAttr,h]
  try rfl
noncomputable def A5 (x:UInt16 × List bp × bp × Unit):Option AV:=if kg x.2.1/\ca x.2.2.1 then some ((r1 bq).E true (m6 x.1 x.2.1 x.2.2.1)) else none
theorem aii (x:UInt16 × List bp × bp × Unit) (r:AV) (h:A5 x=some r):bo PP 125 ((aC ct (aC (bw ai) (aC ai a0))).E x) r:=by obtain ⟨hc,rfl⟩:=zI h;exact bf (ak.cons (aq ace) (ak.nil PP)) Tryz.func125 zK zK zK zL (r1 bq) true (m6 x.1 x.2.1 x.2.2.1) (aJn x.1 x.2.1 x.2.2.1 hc.1 hc.2)
noncomputable abbrev Nq:zE:=(125,true,dg (aC ct (aC (bw ai) (aC ai a0))) A5)
noncomputable def Da (n:Name) (t c:UInt16) (s:aw):Bool:=decide ((s.type.toNat:Int)=t.toNat) && (decide ((s.cls.toNat:Int)=c.toNat) && gh s.owner n)
noncomputable def atR (n:Name) (t c:UInt16):List aw->Nat->Int
 | [],_=>-1
 |s::r,i=>if Da n t c s=true then i else atR n t c r (i+1)
theorem aAg {n:Name} {t c:UInt16} {l:List aw} {i:Nat} {s:aw} (h:l.drop i=s::l.drop (i+1)) (j:Nat):atR n t c (l.drop i) j=if Da n t c s=true then (j:Int) else atR n t c (l.drop (i+1)) (j+1):=by rw [h];rfl
theorem axa (a b:aw) (ha:cw a) (hb:cw b):wl PP [ajd] 0 (Tryz.f175.body.getD .skip) (di PP Tryz.f175.results.toList (fun r st=>(r1 bq).get true st.h r=some (fj a b))) (cj 0 [aj.val false a,aj.val false b]) (ay []):=by
 have nD:=ha.owner;have nC:=hb.owner;unfold fj Ci C9 C9 C9 C9;unfold Tryz.f175;simp only [ji];simp only [↓wR,zT,simprocAttr,Dp,nD,nC];rw [de];refine ⟨fun ⟨h1,e1⟩=>?_,fun ⟨h1,e1⟩=>?_⟩
 ·rw [if_pos e1];simp only [↓wR,zT,simprocAttr,h1]
 rw [if_neg zO];simp only [↓wR,zT,simprocAttr,h1];rw [de];refine ⟨fun ⟨h2,e2⟩=>?_,fun ⟨h2,e2⟩=>?_⟩
 ·simp only [↓wR,zT,simprocAttr,h2]
  congr 1
  rw [decide_eq_decide];unfold xy
  split<;>split<;>omega
 ·simp only [↓wR,zT,simprocAttr,h2]
  congr 1
  rw [decide_eq_decide];unfold xy
  repeat' split
  all_goals omega
noncomputable def Ja (x:aw × aw × Unit):Option AV:=if cw x.1/\cw x.2.1 then some ((r1 bq).E true (fj x.1 x.2.1)) else none
theorem apv (x:aw × aw × Unit) (r:AV) (h:Ja x=some r):bo PP 175 ((aC aj (aC aj a0)).E x) r:=by obtain ⟨hc,rfl⟩:=zI h;exact bf (ak.cons (aq Pt) (ak.nil PP)) Tryz.func175 zK zK zK zL (r1 bq) true (fj x.1 x.2.1) (axa x.1 x.2.1 hc.1 hc.2)
noncomputable abbrev aIw:zE:=(175,true,dg (aC aj (aC aj a0)) Ja)
theorem Jr {α:Type} (c:Bool) (x : α):(bif c then x else x)=x:=by cases c<;>rfl
theorem uj {α:Type} (X Y:List α) (p q : α):(X++p::Y).set X.length q=X++q::Y:=by rw [List.set_append];simp
theorem get_at {α:Type} (X Y:List α) (p : α):(X++p::Y)[X.length]? = some p:=by rw [zzd (zza _),Nat.sub_self];rfl
theorem ajt {α:Type} (C:er α) {xs:List α} {i:Nat} {c : α} (hc:xs[i]? = some c):((cellsOf C true xs).drop (i * C.sz)).take C.sz=C.cells true c/\C.sz<=((cellsOf C true xs).drop (i * C.sz)).length:=by obtain ⟨hi,rfl⟩:=zg.1 hc;rw [Eg,zzs hi,Ey];refine ⟨by rw [<- C.len true xs[i],List.take_left],by rw [za,C.len];omega⟩
theorem aep {α:Type} (C:er α) {xs:List α} {i:Nat} {c : α} (y : α) (k:Nat) (et:TypeId) (id:Nat) (hc:xs[i]? = some c) :
 lf id (i * C.sz) C.sz (C.cells true y) (.row (cellsOf C true xs) 0 k et)=(ki id (.row (cellsOf C true (xs.set i y)) 0 k et)).bind fun _=>.pure (.sc undef):=by
 obtain ⟨hi,rfl⟩:=zg.1 hc;have hl:(cellsOf C true xs).length=xs.length * C.sz:=jq C true xs;have h1:(cellsOf C true xs).take (i * C.sz)=cellsOf C true (xs.take i):=Jw C true xs i;have h3:(cellsOf C true xs).drop (i * C.sz+C.sz)=cellsOf C true (xs.drop (i+1)):=by rw [show i * C.sz+C.sz=(i+1) * C.sz by rw [Nat.succ_mul],Eg]
 have hlt:i * C.sz+C.sz<=xs.length * C.sz:=by rw [<- Nat.succ_mul];exact zz4 _ hi
 have h4:(cellsOf C true xs).take (i * C.sz)++C.cells true y++(cellsOf C true xs).drop (i * C.sz+C.sz)=cellsOf C true (xs.set i y):=by rw [h1,h3,List.set_eq_take_append_cons_drop,if_pos hi,uy,Ey,zzc]
 have dF:(C.cells true y).all AV.one=true:=azz C true y;have hb:Nat.beq (C.cells true y).length C.sz=true:=by rw [C.len];exact Nat.beq_refl _
 unfold lf;simp only [hl,Nat.ble_eq_true_of_le hlt,h4,dF,hb];rfl
theorem oa {xs:List aw} {i:Nat} {c:aw} (k st et) (hc:xs[i]? = some c):jk PP 63 (i * 5) (.row (cellsOf aj true xs) k st et) = .pure (aj.val true c):=by have h:=ajt aj hc;have h1:mc PP 63=some true:=zK;have h2:fc PP 63=some 5:=zK;have h3:((cellsOf aj true xs).drop (i * 5)).take 5=aj.cells true c:=h.1;have h4:Nat.ble 5 ((cellsOf aj true xs).drop (i * 5)).length=true:=Nat.ble_eq_true_of_le h.2;unfold jk so;simp only [h1,h2,h3,h4,cond_true];rfl
theorem yf {xs:List aw} {i:Nat} {c:aw} (y:aw) (k:Nat) (et:TypeId) (id:Nat) (hc:xs[i]? = some c) :
 lf id (i * 5) 5 [zt y.owner,.sc (.int .u16 y.type.toNat),.sc (.int .u16 y.cls.toNat),.sc (.int .u32 y.b9.toNat),.vl true 4 (y.data.map (ai.val true))] (.row (cellsOf aj true xs) 0 k et)=(ki id (.row (cellsOf aj true (xs.set i y)) 0 k et)).bind fun _=>.pure (.sc undef):=
 aep aj y k et id hc
theorem my {xs:List bp} {i:Nat} {c:bp} (k st et) (hc:xs[i]? = some c):jk PP 116 (i * 4) (.row (cellsOf ai true xs) k st et) = .pure (ai.val true c):=by have h:=ajt ai hc;have h1:mc PP 116=some true:=zK;have h2:fc PP 116=some 4:=zK;have h3:((cellsOf ai true xs).drop (i * 4)).take 4=ai.cells true c:=h.1;have h4:Nat.ble 4 ((cellsOf ai true xs).drop (i * 4)).length=true:=Nat.ble_eq_true_of_le h.2;unfold jk so;simp only [h1,h2,h3,h4,cond_true];rfl
theorem wa {xs:List bp} {i:Nat} {c:bp} (y:bp) (k:Nat) (et:TypeId) (id:Nat) (hc:xs[i]? = some c) :
 lf id (i * 4) 4 [.vl true 1 (y.names.map (au.val true)),.vl true 1 (y.nums.map (cy.val false)),zt y.texts,.vl true 1 (y.raw.map (bt.val false))] (.row (cellsOf ai true xs) 0 k et)=(ki id (.row (cellsOf ai true (xs.set i y)) 0 k et)).bind fun _=>.pure (.sc undef):=
 aep ai y k et id hc
theorem fy {P:Program} {f:Nat} {args:List AV} {st:St} {R0 R:AV->St->Prop} (h1:iz P f args st R0) (h2:∀ r st',R0 r st'->R r st'):iz P f args st R:=by
 intro g w vs aB hfr hrel;rcases h1 g w vs aB hfr hrel with ⟨v,w',g',r,st',q1,q2,q3⟩|⟨q1,q2⟩
 ·exact .inl ⟨v,w',g',r,st',q1,h2 _ _ q2,q3⟩
 ·refine .inr ⟨q1,q2.mono ?_⟩;rintro e w' ⟨v,g',r,st',rfl,q2,q3⟩;exact ⟨v,g',r,st',rfl,h2 _ _ q2,q3⟩
end Go.Proofs.YtjagjbceegbaiaaGreat
end
namespace Go.Vm
variable [TK]
noncomputable section
inductive aDn:bk->bk->Prop
 |rfl (x:bk):aDn x x
 |perm (es es':List (Value × AV)) (h:es.Perm es') (hl:loose es=true):aDn (.map es) (.map es')
structure Lit where
 i:Nat
 d:TypeDesc
 e:Value × AV
abbrev aLw:=Nat->Option (Bool × (List AV->M AV))
def isFalse (b:Option Bool):Bool:=match b with|some false=>true|_=>false
abbrev XIR:=Ex × Option Ex × SL × St
abbrev RX:=List AV->St->Option (Ex × St)
structure XIF where
 ok:Bool
 nt:Nat
 run:aLw->Nat->Nat->RX->List AV->St->Option XIR
end
variable [TK]
noncomputable section
def Uf:List UInt8->List UInt8->Bool
 | [],[]=>true
 |a::l,b::m=>Nat.beq a.toNat b.toNat && Uf l m
 |_,_=>false
theorem aa2:∀ {l m:List UInt8},Uf l m=true->l=m
 | [],[],_=>rfl
 |a::l,b::m,h=>by simp only [Uf,zzh] at h;rw [UInt8.toNat_inj.1 (zzg h.1),aa2 h.2]
 | [],_::_,h=>by cases h
 |_::_,[],h=>by cases h
def eqV (a b:Value):Bool:=
 match a,b with
 |.int k n,.int k' n'=>decide (k=k') && decide (n=n')
 |.bool a,.bool b=>a == b
 |.string s,.string t=>Uf s.data.toList t.data.toList
 |.slice none 0 0,.slice none 0 0=>true
 |.pointer none,.pointer none=>true
 |.map none,.map none=>true
 |.nilIface,.nilIface=>true
 |_,_=>false
theorem aH1 {a b:Value} (h:eqV a b=true):a=b:=by
 unfold eqV at h
 split at h
 ·simp only [zzh,decide_eq_true_eq] at h;rw [h.1,h.2]
 ·rw [eq_of_beq h]
 ·rename_i s t;have:=aa2 h;obtain ⟨⟨s⟩⟩:=s;obtain ⟨⟨t⟩⟩:=t;cases this;rfl
 ·rfl
 ·rfl
 ·rfl
 ·rfl
 ·cases h
def tr (a b:AV):Bool:=
 match a,b with
 |.sc v,.sc u=>eqV v u
 |.agg l,.agg m=>eqL l m
 |.gj l,.gj m=>eqL l m
 |.vl loc sz l,.vl nX bQ m=>(loc == nX) && (Nat.beq sz bQ && eqL l m)
 |.sl o f n z,.sl o' f' n' z'=>(Nat.beq o o' && Nat.beq f f') && (Nat.beq n n' && Nat.beq z z')
 |.ez,.ez=>true
 |.ptr o f,.ptr o' f'=>Nat.beq o o' && Nat.beq f f'
 |.mp o,.mp o'=>Nat.beq o o'
 |.bad,.bad=>true
 |_,_=>false
where eqL:List AV->List AV->Bool
 | [],[]=>true
 |a::l,b::m=>tr a b && eqL l m
 |_,_=>false
mutual
theorem aFr:∀ {a b:AV},tr a b=true->a=b
 |.sc v,b,h=>by
  cases b with
  |sc u=>rw [aH1 (a:=v) (b:=u) (by simpa [tr] using h)]
  |_=>simp [tr] at h
 |.agg l,b,h=>by
  cases b with
  |agg m=>rw [Po (l:=l) (m:=m) (by simpa [tr] using h)]
  |_=>simp [tr] at h
 |.gj l,b,h=>by
  cases b with
  |gj m=>rw [Po (l:=l) (m:=m) (by simpa [tr] using h)]
  |_=>simp [tr] at h
 |.vl loc sz l,b,h=>by
  cases b with
  |vl nX bQ m=>
   simp only [tr,zzh] at h;rw [eq_of_beq h.1,zzg h.2.1,Po (l:=l) (m:=m) h.2.2]
  |_=>simp [tr] at h
 |.sl o f n z,b,h=>by
  cases b with
  |sl o' f' n' z'=>
   simp only [tr,zzh] at h;rw [zzg h.1.1,zzg h.1.2,zzg h.2.1,zzg h.2.2]
  |_=>simp [tr] at h
 |.ez,b,h=>by
  cases b with
  |ez=>rfl
  |_=>simp [tr] at h
 |.ptr o f,b,h=>by
  cases b with
  |ptr o' f'=>
   simp only [tr,zzh] at h;rw [zzg h.1,zzg h.2]
  |_=>simp [tr] at h
 |.mp o,b,h=>by
  cases b with
  |mp o'=>
   simp only [tr] at h;rw [zzg h]
  |_=>simp [tr] at h
 |.bad,b,h=>by
  cases b with
  |bad=>rfl
  |_=>simp [tr] at h
 |.ik _,b,h=>by cases b<;>simp [tr] at h
 |.fn ..,b,h=>by cases b<;>simp [tr] at h
 |.vv ..,b,h=>by cases b<;>simp [tr] at h
 |.yl _,b,h=>by cases b<;>simp [tr] at h
theorem Po:∀ {l m:List AV},tr.eqL l m=true->l=m
 | [],[],_=>rfl
 |a::l,b::m,h=>by simp only [tr.eqL,zzh] at h;rw [aFr h.1,Po h.2]
 | [],_::_,h=>by simp [tr.eqL] at h
 |_::_,[],h=>by simp [tr.eqL] at h
end
structure DP where
 left:List Nat
 L:SL
 st:St
structure aMa (t:DP) (L:SL) (st:St):Prop where
 nx:t.st.nx=st.nx
 L:∀ k,lk t.L k=lk L k
 obj:∀ o x,t.st.h.get o=some x->∃ y,st.h.get o=some y/\aDn x y
end
variable [TK]
noncomputable section
theorem Hb {P:Program} [KP P] (w:World):∀ (ns:List Int) (a:Addr) (i:Nat) (acc:ByteArray),(∀ (j:Nat) x,ns[j]? = some x->(load (a.add (i+j))).run P w = .ok (.int .u8 x) w) ->
 (Extern.Bytes.loadBytes (a.add i) ns.length acc).run P w = .ok ⟨acc.data++(ns.map fun n=>UInt8.ofNat n.toNat).toArray⟩ w
 | [],a,i,acc,_=>by simp [Extern.Bytes.loadBytes]
 |x::l,a,i,acc,h=>by
  have h0:=h 0 x rfl;rw [Nat.add_zero] at h0;have e:(a.add i).add 1=a.add (i+1):=by
   unfold Addr.add;by_cases hj:i=0
   ·subst hj;simp
   ·simp [hj];omega
  have ih:=Hb (P:=P) w l a (i+1) (acc.push x.toNat.toUInt8) (fun j y hy=>by have:=h (j+1) y (by simpa using hy);rw [show i+1+j=i+(j+1) from by omega];exact this)
  simp only [List.length_cons,Extern.Bytes.loadBytes,Sem.run_bind,h0,Result.andThen];rw [e,ih]
  congr 1
  apply ByteArray.ext;simp [ByteArray.push,Nat.toUInt8]
theorem abn {l:List Int} {l':List Value} (h:l'=l.map (Value.int .u8)) (j:Nat) (x:Int) (hx:l[j]? = some x):l'[j]? = some (.int .u8 x):=by rw [h,zzj,hx];rfl
theorem Hs {P:Program} [KP P] {g st fg w} {a:AV} {v:Value} {l:List AV} {bs:List UInt8} (aB:Ok g st.h w) (hr:Rel g w a v) (h:cellsIn 1 a st=some (l,fg)) (hb:bytesOf l=some bs) :
 (Extern.Bytes.bytesOf v).run P w = .ok ⟨bs.toArray⟩ w:=by
 obtain ⟨_,_,n,news,cF,hrl⟩:=By (P:=P) aB hr h;obtain ⟨ns,e1,e2⟩:=Ig _ _ _ hrl hb;obtain ⟨r1,r2⟩:=cF.run w rfl;cases v with
 |slice p len cap=>
  have hn:n=len:=by simp [Builtin.lenOf] at r1;exact r1.symm
  subst hn;cases p with
  |none=>
   have:news=[]:=by simpa [Builtin.firstCells] using r2
   subst this;have:ns=[]:=by simpa using e1.symm
   subst this;subst e2;rfl
  |some a=>
   simp only [Builtin.firstCells,Nat.mul_one] at r2;unfold loadCells at r2;obtain ⟨l',q1,q2,q3⟩:=loadCellsFrom_ok a n 0 #[] _ _ r2;have hl':l'=news:=by simpa using q2.symm
   subst hl';have hlen:ns.length=n:=by rw [<- q1,e1,zzo]
   have:=Hb (P:=P) w ns a 0 .empty (fun j x hx=>by exact q3 j _ (abn e1 j x hx))
   rw [hlen] at this;have e0:a.add 0=a:=by simp [Addr.add]
   rw [e0] at this;show (Extern.Bytes.loadBytes a n .empty).run P w=_;rw [this,e2]
   congr 2
   simp [ByteArray.empty,ByteArray.emptyWithCapacity];rfl
 |string s=>
  have hn:n=s.size:=by simp [Builtin.lenOf] at r1;exact r1.symm
  subst hn;simp only [Builtin.firstCells,Sem.run_pure,Result.ok.injEq,and_true] at r2;have h1:=congrArg Array.toList r2;rw [e1] at h1;show Result.ok s w=_
  congr 1
  apply ByteArray.ext;apply Array.ext';rw [e2];have h2:=congrArg (List.map fun v:Value=>match v with|.int _ n=>UInt8.ofNat n.toNat|_=>0) h1;simp only [List.map_map,Array.toList_map] at h2;have h3:(s.extract 0 s.size).data.toList=s.data.toList:=by simp
  rw [h3] at h2;have h4:(List.map ((fun v:Value=>match v with|.int _ n=>UInt8.ofNat n.toNat|_=>0) ∘ fun b:UInt8=>Value.int .u8 (b.toNat:Int)) s.data.toList)=s.data.toList:=by rw [show ((fun v:Value=>match v with|.int _ n=>UInt8.ofNat n.toNat|_=>0) ∘ fun b:UInt8=>Value.int .u8 (b.toNat:Int))=id from by funext b;simp];simp
  rw [h4] at h2;rw [h2];simp
 |_=>simp [Builtin.lenOf,stuck] at r1
def Um (args:List AV):M AV:=
 match args with
 | [a]=>.pure a
 |_=>.fail
def oh (args:List AV):M AV:=
 match args with
 | [a,b]=>(cellsIn 1 a).bind fun x=>(cellsIn 1 b).bind fun y=>
  match bytesOf x with
  |some x=>
   match bytesOf y with
   |some y=>.pure (.sc (goInt (Lib.compareBytes x y)))
   |none=>.fail
  |none=>.fail
 |_=>.fail
def gi {α:Type} (m:M α):Prop:=∀ st v fg,m st=some (v,fg)->fg.h=st.h/\fg.nx=st.nx
theorem gi.pure {α:Type} (a : α):gi (M.pure a):=fun st v fg h=>by cases h;exact ⟨rfl,rfl⟩
theorem gi.fail {α:Type}:gi (M.fail:M α):=fun st v fg h=>by cases h
theorem gi.bind {α β:Type} {m:M α} {f : α->M β} (hm:gi m) (h:∀ x,gi (f x)):gi (m.bind f):=fun st v fg hb=>by obtain ⟨x,s1,h1,h2⟩:=bind_some hb;have h3:=hm _ _ _ h1;have h4:=h x _ _ _ h2;exact ⟨h4.1.trans h3.1,h4.2.trans h3.2⟩
theorem gi.fk (id:Nat):gi (Vm.fk id):=fun CU _v vC h=>(jz h).2
theorem gi.cond {α:Type} {b:Bool} {x y:M α} (hx:gi x) (hy:gi y):gi (bif b then x else y):=by cases b<;>assumption
theorem gi.cellsIn (sz:Nat) (v:AV):gi (Vm.cellsIn sz v):=by
 unfold Vm.cellsIn J4
 repeat' (first|exact gi.pure _|exact gi.fail|apply gi.cond|(refine gi.bind (gi.fk _) fun x=>?_)|split)
theorem Fo (args:List AV):gi (oh args):=by
 unfold oh;split
 ·exact gi.bind (gi.cellsIn _ _) fun x=>gi.bind (gi.cellsIn _ _) fun y=>by
   split
   ·split
    ·exact gi.pure _
    ·exact gi.fail
   ·exact gi.fail
 ·exact gi.fail
theorem Kb {P:Program} [KP P] {f:Nat} {fn:Func} (hf:P.funcs[f]? = some fn) (h1:(fn.name == "runtime.NumGoroutine")=false) (h2:fn.body.isNone=true) (h3:Extern.findNext fn=none) (h4:Extern.find fn=some Extern.BytealgCompare.compare) (args:List AV) :
 ahd P f args (oh args):=by
 intro g st w vs r st' aB cB bJ hrel hm;refine .inl ?_;have hst:=Fo _ _ _ _ hm;unfold oh at hm
 split at hm
 ·rename_i a c;obtain ⟨x,s1,e1,hm⟩:=bind_some hm;obtain ⟨y,s2,e2,hm⟩:=bind_some hm;cases hx:bytesOf x with
  |none=>rw [hx] at hm;cases hm
  |some bx=>
  cases hy:bytesOf y with
  |none=>rw [hx,hy] at hm;cases hm
  |some yb=>
  rw [hx,hy] at hm;cases hm;have hh:=gi.cellsIn _ _ _ _ _ e1
  match vs,hrel with
  | [v,u],hrel=>
   have r1:=Hs (P:=P) aB hrel.head e1 hx;have r2:=Hs (P:=P) (st:=s1) (by rw [hh.1];exact aB) hrel.tail.head e2 hy;refine ⟨goInt (Lib.compareBytes bx yb),w,g,?_,?_,?_,.sc _⟩
   ·rw [run_callFunc_extern hf h1 h2 h3 h4];have:(Extern.BytealgCompare.compare #[v,u]).run P w = .ok (goInt (Lib.compareBytes bx yb)) w:=by
     change Sem.run P (do pure (goInt (Extern.BytealgCompare.cmp (<- Extern.Bytes.bytesOf v) (<- Extern.Bytes.bytesOf u)))) w=_;simp only [Sem.run_bind,r1,r2,Result.andThen,Sem.run_pure];rw [Lib.cmp_eq]
    show ((Extern.BytealgCompare.compare #[v,u]).run P w).andThen _=_;rw [this];rfl
   ·rw [hst.1,hst.2];exact .refl _ _ _ _ _
   ·rw [hst.1];exact aB
  | [],hrel=>have:=hrel.1;simp at this
  | [v],hrel=>have:=hrel.1;simp at this
  |_::_::_::_,hrel=>have:=hrel.1;simp at this
 ·cases hm
end
end Go.Vm
section
namespace Go.Proofs.YtjagjbceegbaiaaGreat
open Go.Vm
theorem azl {P:Program} {f:Nat} {fn:Func} (hf:P.funcs[f]? = some fn) (h1:(fn.name == "runtime.NumGoroutine")=false) (h2:fn.body.isNone=true) (h3:Extern.findNext fn=none) (h4:Extern.find fn=some Extern.AbiNoEscape.same) (args:List AV):Dz P f args (Um args):=by
 intro g st w vs r st' aB cB hrel hm;refine .inl ?_;unfold Um at hm
 split at hm
 ·rename_i a;cases hm;obtain ⟨v,rfl,hv⟩:=Ox hrel;refine ⟨v,w,g,?_,.refl _ _ _ _ _,aB,hv⟩;rw [run_callFunc_extern hf h1 h2 h3 h4];rfl
 ·cases hm
theorem Oj (args:List AV):Dz PP 208 args (Um args):=azl (fn:=(PP.funcs[208]?).getD default) zK zK zK zK zK args
noncomputable abbrev at9:zE:=(208,true,Um)
theorem Yw (P:Program) (ρ:Operand->AV) (d ty pos af gd) (t u:TypeId) (x y:Operand) (op:BinOp) (hx : ρ x = .sc (.pointer none)) (hy : ρ y = .sc (.pointer none)) :
 su P ρ ⟨d,.binOp op t x y u,ty,pos,af,gd⟩ op t (.sc (.pointer none)) (.sc (.pointer none))=M.of ((ev P (binOp op t (.pointer none) (.pointer none))).map .sc):=by
 have h1:∀ s:Sem Value,ev P (do pure (Next.value (<- s)))=(ev P s).map Next.value:=by
  intro s
  induction s with
  |pure b=>rfl
  |program k ih=>exact ih P
  |choose q k ih=>
   simp only [bind,Sem.bind,ev]
   split
   ·exact ih 0
   ·rfl
  |mark m k ih=>exact ih
  |_=>rfl
 have h2:execOp (fun z=>((ρ z).jr).getD undef) ⟨d,.binOp op t x y u,ty,pos,af,gd⟩=(do pure (Next.value (<- (do eqGuard op t x y (.pointer none) (.pointer none);binOp op t (.pointer none) (.pointer none))))):=by simp only [execOp,hx,hy,AV.jr,Option.getD_some]
 have h3:ev P (do eqGuard op t x y (.pointer none) (.pointer none);binOp op t (.pointer none) (.pointer none))=ev P (binOp op t (.pointer none) (.pointer none)):=by cases op<;>rfl
 unfold su vu;simp only [AV.jr,Option.isSome_some,Bool.and_self,cond_true];rw [h2,h1,h3];cases ev P (binOp op t (.pointer none) (.pointer none))<;>rfl
theorem ayn:ev PP (binOp .eql 189 (.pointer none) (.pointer none))=some (.bool true):=zK
theorem awk (a:AV):Um [a]=M.pure a:=id rfl
def keyBytes (n:Name):List UInt8:=n.flatMap fun l=>UInt8.ofNat l.size::l.data.toList
def Am (n:Name):ByteArray:=⟨(keyBytes (fv n)).toArray⟩
noncomputable def N1:er (ByteArray × UInt16 × UInt16):=mi ah (mi ct ct)
noncomputable def aus (B:List UInt8) (T U:TypeId):List (Option bk):=[some (.row [.ptr 1 0,.sl 2 0 B.length 1] 0 2 T),some (.row (B.map (bt.val false)) 0 0 U)]
noncomputable def Xp (F:Name) (T U:TypeId):Nat->List (Option bk)
 |0=>[some (.row [.sc (.pointer none),.sc (.slice none 0 0)] 0 2 T)]
 |k+1=>aus (keyBytes (F.take (k+1))) T U
theorem akw (F:Name):(keyBytes F).length+1=br F:=by
 rw [<- rp];unfold keyBytes
 congr 1
theorem Qe {F:Name} {i:Nat} {c:ByteArray} (h:F[i]? = some c):keyBytes (F.take (i+1))=keyBytes (F.take i)++UInt8.ofNat c.size::c.data.toList:=by rw [jg h];unfold keyBytes;rw [List.flatMap_append];simp
theorem Ui (F:Name) (i:Nat):(keyBytes (F.take i)).length<br F:=by
 have h1:=akw (F.take i);have h2:br (F.take i)<=br F:=by
  rw [<- rp,<- rp];have:(F.flatMap jh).length=((F.take i).flatMap jh).length+((F.drop i).flatMap jh).length:=by rw [<- za,<- List.flatMap_append,zzm]
  omega
 omega
theorem aK8:liesAt PP PP.depth 191 (2 / PP.cellsOf 191) 0 191 1=true:=zK
theorem G2 (P:Program) (ρ:Operand->AV) (o:Oper) (op:BinOp) (t:TypeId) (i k:Nat) (b:AV):su P ρ o op t (.ptr i k) b=Im P t op (.ptr i k) b:=id rfl
theorem aL8:PP.underlying 189=some (.pointer 191):=zK
theorem Uu (op:BinOp) (x y:AV):Im PP 189 op x y=O5 op x y:=by have h2:fc PP 191=some 2:=zK;unfold Im;rw [aL8];simp only [h2];rfl
theorem K5 (op:BinOp) (i k:Nat):O5 op (.ptr i k) (.sc (.pointer none))=se op false:=id rfl
theorem Iy (op:BinOp) (i k:Nat):O5 op (.ptr i k) (.ptr i k)=se op true:=by unfold O5;simp only [Nat.beq_refl,cond_true]
theorem au6 (b:UInt8):iz PP 154 [.ptr 0 0,bt.val false b] (ay [some (.row [.sc (.pointer none),.sc (.slice none 0 0)] 0 2 191)])
 (fun r st'=>r = .sc .nilIface/\st'=ay [some (.row [.ptr 0 0,.sl 1 0 1 1] 0 2 191),some (.row ((([b])).map (bt.val false)) 0 0 5)]):=by
 refine dr _ rfl ?_ (fun r st' h=>h);refine cb (T:=[]) (ak.nil PP) mixed Tryz.func154 rfl zK zK zK zK ?_;unfold Tryz.f154;simp only [↓wR,zT,simprocAttr];refine cb (T:=[at9]) (ak.cons Oj (ak.nil PP)) mixed Tryz.func192 rfl zK zK zK zK ?_;unfold Tryz.f192;simp only [↓wR,zT,simprocAttr,Yw,ayn,Z0,Zs,Xg,W6,awk,aK8,dm,i4,ir,ig]
theorem azb (B:List UInt8) (hB:B.length<16777216) (b:UInt8):iz PP 154 [.ptr 0 0,bt.val false b] (ay [some (.row [.ptr 0 0,.sl 1 0 B.length 1] 0 2 191),some (.row (((B)).map (bt.val false)) 0 0 5)])
 (fun r st'=>r = .sc .nilIface/\st'=ay [some (.row [.ptr 0 0,.sl 2 0 (B.length+1) 1] 0 2 191),none,some (.row (((B++[b])).map (bt.val false)) 0 0 5)]):=by
 refine dr _ rfl ?_ (fun r st' h=>h);refine cb (T:=[]) (ak.nil PP) mixed Tryz.func154 rfl zK zK zK zK ?_;unfold Tryz.f154;simp only [↓wR,zT,simprocAttr];refine cb (T:=[at9]) (ak.cons Oj (ak.nil PP)) mixed Tryz.func192 rfl zK zK zK zK ?_;unfold Tryz.f192
 repeat (first|simp only [↓wR,zT,simprocAttr,G2,Uu,K5,Iy,dm,i4,ir,ig]|simp (disch:=omega) only [zW])
theorem ad6 (B:List UInt8) (hB:B.length<16777216) (x:ByteArray) (hx:x.size<16777216):iz PP 155 [.ptr 0 0,ah.val false x] (ay [some (.row [.ptr 0 0,.sl 1 0 B.length 1] 0 2 191),some (.row (((B)).map (bt.val false)) 0 0 5)])
 (fun r st'=>r = .gj [zi x.size,.sc .nilIface]/\st'=ay [some (.row [.ptr 0 0,.sl 2 0 (B.length+x.size) 1] 0 2 191),none,some (.row (((B++x.data.toList)).map (bt.val false)) 0 0 5)]):=by
 refine dr _ rfl ?_ (fun r st' h=>h);refine cb (T:=[]) (ak.nil PP) mixed Tryz.func155 rfl zK zK zK zK ?_;unfold Tryz.f155;simp only [↓wR,zT,simprocAttr];refine cb (T:=[at9]) (ak.cons Oj (ak.nil PP)) mixed Tryz.func192 rfl zK zK zK zK ?_;unfold Tryz.f192
 repeat (first|simp only [↓wR,zT,simprocAttr,G2,Uu,K5,Iy,dm,i4,ir,ig]|simp (disch:=omega) only [zW])
 trace_state
section
variable (P : Program) (T : fp) (L : SL) (st : St) (recs : List Rec) (K : List Rec -> SL -> St -> Prop) (d : Option Tmp) (ty : TypeId) (pos : String) (af : Array Edge) (gd : Option (Nat × Bool))
theorem ao1 (ρ:Operand->AV) (u ts):il P T ⟨d,.call { callee:=.builtin .unsafeSliceData,args:=#[u],argTypes:=ts },ty,pos,af,gd⟩ ρ=mono (s6 (ρ u)):=id rfl
theorem Lc (u ts):iy P T ⟨d,.call { callee:=.builtin .unsafeSliceData,args:=#[u],argTypes:=ts },ty,pos,af,gd⟩ recs K L st=gv (true) (reach st.h gu (AV.names.go ([u].map (eu L))) []) ⟨d,.call { callee:=.builtin .unsafeSliceData,args:=#[u],argTypes:=ts },ty,pos,af,gd⟩ recs K L st (mono (s6 (eu L u))):=by
 unfold iy mq n7 gv;simp only [kp,cond_false];have hm:∀ y,y ∈ ([u]:List Operand)->eg ⟨d,.call { callee:=.builtin .unsafeSliceData,args:=#[u],argTypes:=ts },ty,pos,af,gd⟩ L y=eu L y:=fun y hy=>ga (by simpa [Op.operands,Call.operands] using hy)
 have hmap:([u]:List Operand).map (eg ⟨d,.call { callee:=.builtin .unsafeSliceData,args:=#[u],argTypes:=ts },ty,pos,af,gd⟩ L)=([u]:List Operand).map (eu L):=jj (fun y hy=>by simpa [Op.operands,Call.operands] using hy);have ho:(⟨d,.call { callee:=.builtin .unsafeSliceData,args:=#[u],argTypes:=ts },ty,pos,af,gd⟩:Oper).op.operands.toList=[u]:=by simp [Op.operands,Call.operands]
 rw [ho,hmap];rw [ao1,hm u (by simp)];rfl
theorem aty (ρ:Operand->AV) (u v ts):il P T ⟨d,.call { callee:=.builtin .unsafeString,args:=#[u,v],argTypes:=ts },ty,pos,af,gd⟩ ρ=mono (ow P ts[0]? (ρ u) (ρ v)):=id rfl
theorem O3 (u v ts):iy P T ⟨d,.call { callee:=.builtin .unsafeString,args:=#[u,v],argTypes:=ts },ty,pos,af,gd⟩ recs K L st=gv (false) (reach st.h gu (AV.names.go ([u,v].map (eu L))) []) ⟨d,.call { callee:=.builtin .unsafeString,args:=#[u,v],argTypes:=ts },ty,pos,af,gd⟩ recs K L st (mono (ow P ts[0]? (eu L u) (eu L v))):=by
 unfold iy mq n7 gv;simp only [kp,cond_false];have hm:∀ y,y ∈ ([u,v]:List Operand)->eg ⟨d,.call { callee:=.builtin .unsafeString,args:=#[u,v],argTypes:=ts },ty,pos,af,gd⟩ L y=eu L y:=fun y hy=>ga (by simpa [Op.operands,Call.operands] using hy)
 have hmap:([u,v]:List Operand).map (eg ⟨d,.call { callee:=.builtin .unsafeString,args:=#[u,v],argTypes:=ts },ty,pos,af,gd⟩ L)=([u,v]:List Operand).map (eu L):=jj (fun y hy=>by simpa [Op.operands,Call.operands] using hy);have ho:(⟨d,.call { callee:=.builtin .unsafeString,args:=#[u,v],argTypes:=ts },ty,pos,af,gd⟩:Oper).op.operands.toList=[u,v]:=by simp [Op.operands,Call.operands]
 rw [ho,hmap];rw [aty,hm u (by simp),hm v (by simp)];rfl
end
theorem T4:PP.cellsOf 5=1:=zK
theorem aB8 (B:List UInt8) (hB:B.length<16777216) (h0 : 0<B.length):iz PP 156 [.ptr 0 0] (ay [some (.row [.ptr 0 0,.sl 1 0 B.length 1] 0 2 191),some (.row (((B)).map (bt.val false)) 0 0 5)])
 (fun r st'=>r = .sc (.string ⟨B.toArray⟩)/\st'=ay [some (.row [.ptr 0 0,.sl 1 0 B.length 1] 0 2 191),some (.row (((B)).map (bt.val false)) B.length 1 5)]):=by
 refine dr _ rfl ?_ (fun r st' h=>h);have hc:∀ a b c d,eh a b c=d->eh a b c=d:=fun _ _ _ _ h=>h
 refine cb (T:=[]) (ak.nil PP) mixed Tryz.func156 rfl zK zK zK zK ?_;unfold Tryz.f156
 repeat (first|simp only [↓wR,zT,simprocAttr,Lc,O3,s6,ow,Hc,Lr,T4,Nat.zero_max]|simp (disch:=omega) only [zW])
 refine ⟨zK,.inl ?_⟩;simp only [↓wR,zT,simprocAttr,i4,ir,ig];apply hc;kernel_rfl
theorem ayp:iz PP 156 [.ptr 0 0] (ay [some (.row [.sc (.pointer none),.sc (.slice none 0 0)] 0 2 191)])
 (fun r st'=>r = .sc (.string .empty)/\st'=ay [some (.row [.sc (.pointer none),.sc (.slice none 0 0)] 0 2 191)]):=by
 refine dr _ rfl ?_ (fun r st' h=>h);have hc:∀ a b c d,eh a b c=d->eh a b c=d:=fun _ _ _ _ h=>h
 refine cb (T:=[]) (ak.nil PP) mixed Tryz.func156 rfl zK zK zK zK ?_;unfold Tryz.f156
 repeat (first|simp only [↓wR,zT,simprocAttr,Lc,O3,s6,ow,Hc,Lr,T4,Nat.zero_max]|simp (disch:=omega) only [zW])
 refine ⟨zK,.inl ?_⟩;simp only [↓wR,zT,simprocAttr,i4,ir,ig];apply hc;kernel_rfl
theorem aa3 (fr h) (s:ByteArray) (t c:UInt16):N1.j9 fr h (.agg [.sc (.string s),.sc (.int .u16 t.toNat),.sc (.int .u16 c.toNat)])=some (s,t,c):=N1.Pz fr h true (s,t,c) (fun _=>rfl)
end Go.Proofs.YtjagjbceegbaiaaGreat
end
section
namespace Go.Proofs.YtjagjbceegbaiaaGreat
open Go.Vm
set_option maxHeartbeats 4000000 in
theorem aDh (n:Name) (t c:UInt16) (hn:bj n):wl PP [aik] 0 (Tryz.f118.body.getD .skip) (di PP Tryz.f118.results.toList (fun r st=>(r1 N1).get true st.h r=some (Am n,t,c))) (cj 0 [au.val false n,ct.val false t,ct.val false c]) (ay []):=by
 unfold Tryz.f118;simp only [cr];obtain ⟨F,hF⟩:∃ F,F=fv n:=⟨_,rfl⟩;have BN:F.length<=16777216:=by rw [hF];have h1:=(ku n 0).2;have h2:(fv n).length=n.length:=zzo _;unfold bj at hn;omega
 have EC:br F<=16777216:=by rw [hF,Bn];exact hn
 simp only [↓wR,zT,simprocAttr,Dq,hn,<- hF];refine da [1,2,6,7,11,12,13] (fun (i:Nat)=>[.sc (.int .u16 t.toNat),.sc (.int .u16 c.toNat),.ptr 0 0,.ptr 1 0,zt F,zi F.length,zi i]) (fun i=>some (.row [.sc (.string .empty),.sc (.int .u16 0),.sc (.int .u16 0)] 0 2 164)::Xp F 191 5 i) (fun i=>i<=F.length) (fun i=>F.length - i) 0 (zzb _) (by simp only [↓wR,zT,simprocAttr,Xp,cr]<;>rfl) (by simp only [↓wR,zT,simprocAttr,Xp]) ?_;intro i hi;have hb1:=Ui F i;have hb2:=Ui F (i+1);cases i with
 |zero=>
  simp only [↓wR,zT,simprocAttr,Xp];rw [az];refine ⟨fun h=>?_,fun h=>?_⟩
  ·obtain ⟨l,hl,aH,hlt⟩:=fi (zp h);have cP:=Qe hl;have h3:l.data.toList.length=l.size:=zya;have hb3:=Ui F (0+1);rw [cP,za,List.length_cons,h3] at hb3;have mA:l.size<16777216:=zO
   repeat (first|simp only [↓wR,zT,simprocAttr,h,hl]|simp (disch:=omega) only [zW])
   refine n6 [1] (au6 (UInt8.ofNat l.size)) (by decide) (by simp only [↓wR,zT,simprocAttr]) (by simp only [↓wR,zT,simprocAttr]) (zB rfl) (by simp only [↓wR,zT,simprocAttr]) (by simp only [↓wR,zT,simprocAttr]) ⟨zB rfl,zB rfl⟩ ?_;simp only [↓wR,zT,simprocAttr,dm,kf,lu,oi,uz];refine n6 [1,2] (ad6 [UInt8.ofNat l.size] (by show 1<16777216;omega) l mA) (by decide) (by simp only [↓wR,zT,simprocAttr]) (by simp only [↓wR,zT,simprocAttr]) (zB rfl) (by simp only [↓wR,zT,simprocAttr]) (by simp only [↓wR,zT,simprocAttr]) ⟨zB rfl,zB rfl⟩ ?_
   repeat (first|simp only [↓wR,zT,simprocAttr,dm,kf,lu,oi,uz]|simp (disch:=omega) only [zW])
   refine ⟨1,hlt,zO,zF,?_⟩;have h5:keyBytes (F.take 1)=UInt8.ofNat l.size::l.data.toList:=cP;have h6:(keyBytes (F.take 1)).length=1+l.size:=by rw [h5,List.length_cons,h3];omega
   simp only [↓wR,zT,simprocAttr,Xp,aus,h6];rw [h5];rfl
  ·have hf0:F=[]:=zzf zO;have hkn:Am n = .empty:=by unfold Am;rw [<- hF,hf0];rfl
   simp only [↓wR,zT,simprocAttr,h];refine n6 [1] ayp (by decide) (by simp only [↓wR,zT,simprocAttr]) (by simp only [↓wR,zT,simprocAttr]) (zB rfl) (by simp only [↓wR,zT,simprocAttr]) (by simp only [↓wR,zT,simprocAttr]) ⟨zB rfl,zB rfl⟩ ?_
   repeat (first|simp only [↓wR,zT,simprocAttr,dm,kf,lu,oi,uz]|simp (disch:=omega) only [zW])
   rw [hkn];exact aa3 _ _ _ t c
 |succ k=>
  obtain ⟨B,hB⟩:∃ B,B=keyBytes (F.take (k+1)):=⟨_,rfl⟩;rw [<- hB] at hb1;simp only [↓wR,zT,simprocAttr,Xp,aus,<- hB];rw [az];refine ⟨fun h=>?_,fun h=>?_⟩
  ·obtain ⟨l,hl,aH,hlt⟩:=fi (zp h);have cP:=Qe hl;rw [<- hB] at cP;have h3:l.data.toList.length=l.size:=zya;have hb3:=Ui F (k+1+1);rw [cP,za,List.length_cons,h3] at hb3
   repeat (first|simp only [↓wR,zT,simprocAttr,h,hl]|simp (disch:=omega) only [zW])
   refine n6 [1,2] (azb B zO (UInt8.ofNat l.size)) (by decide) (by simp only [↓wR,zT,simprocAttr]) (by simp only [↓wR,zT,simprocAttr]) (zB rfl) (by simp only [↓wR,zT,simprocAttr]) (by simp only [↓wR,zT,simprocAttr]) ⟨zB rfl,zB rfl⟩ ?_;simp only [↓wR,zT,simprocAttr,dm,kf,lu,oi,uz];refine n6 [1,3] (ad6 (B++[UInt8.ofNat l.size]) (by rw [za,zyi];omega) l zO) (by decide) (by simp only [↓wR,zT,simprocAttr]) (by simp only [↓wR,zT,simprocAttr]) (zB rfl) (by simp only [↓wR,zT,simprocAttr]) (by simp only [↓wR,zT,simprocAttr]) ⟨zB rfl,zB rfl⟩ ?_
   repeat (first|simp only [↓wR,zT,simprocAttr,dm,kf,lu,oi,uz]|simp (disch:=omega) only [zW])
   refine ⟨k+1+1,hlt,zO,zF,?_⟩;have h6:(keyBytes (F.take (k+1+1))).length=B.length+1+l.size:=by rw [cP,za,List.length_cons,h3];omega
   simp only [↓wR,zT,simprocAttr,Xp,aus,h6];rw [cP,zzc,zzw,List.map_cons];rfl
  ·have hin:F.take (k+1)=F:=zzp zO;rw [hin] at hB;have hkn:Am n=⟨B.toArray⟩:=by unfold Am;rw [<- hF,hB]
   simp only [↓wR,zT,simprocAttr,h];refine n6 [1,2] (aB8 B zO (by
    obtain ⟨a,r,BM⟩:∃ a r,F=a::r:=by
     cases F with
     |nil=>simp at hi
     |cons a r=>exact ⟨a,r,rfl⟩
    rw [hB,BM];unfold keyBytes;rw [List.flatMap_cons,za,List.length_cons];omega)) (by decide) (by simp only [↓wR,zT,simprocAttr]) (by simp only [↓wR,zT,simprocAttr]) (zB rfl) (by simp only [↓wR,zT,simprocAttr]) (by simp only [↓wR,zT,simprocAttr]) ⟨zB rfl,zB rfl⟩ ?_
   repeat (first|simp only [↓wR,zT,simprocAttr,dm,kf,lu,oi,uz]|simp (disch:=omega) only [zW])
   rw [hkn];exact aa3 _ _ _ t c
noncomputable def Ab (x:Name × UInt16 × UInt16 × Unit):Option AV:=if bj x.1 then some ((r1 N1).E true ((Am x.1,x.2.1,x.2.2.1))) else none
theorem ati (x:Name × UInt16 × UInt16 × Unit) (r:AV) (h:Ab x=some r):bo PP 118 ((aC au (aC ct (aC ct a0))).E x) r:=by obtain ⟨hc,rfl⟩:=zI h;exact bf (ak.cons (aq Py) (ak.nil PP)) Tryz.func118 zK zK zK zL (r1 N1) true ((Am x.1,x.2.1,x.2.2.1)) (aDh x.1 x.2.1 x.2.2.1 hc)
noncomputable abbrev Bx:zE:=(118,true,dg (aC au (aC ct (aC ct a0))) Ab)
theorem ayh (b:Bool) (s:ByteArray) (t c:Int):ev PP (Instr.checkKey b 10000 164 (.agg #[.string s,.int .u16 (t),.int .u16 (c)]))=some ():=by cases b<;>kernel_rfl
theorem azd (s:ByteArray) (t c:Int):ev PP (part 9 #[.string s,.int .u16 t,.int .u16 c] 0)=some (.string s):=zK
theorem ay5 (s:ByteArray) (t c:Int):ev PP (part 50 #[.string s,.int .u16 t,.int .u16 c] 1)=some (.int .u16 t):=zK
theorem az8 (s:ByteArray) (t c:Int):ev PP (part 59 #[.string s,.int .u16 t,.int .u16 c] 2)=some (.int .u16 c):=zK
theorem awu (d:Nat) (s s':ByteArray):ev PP (Op.equalIn (d+1) 9 (.string s) (.string s'))=some (s == s'):=by have hu:PP.underlying 9=some .string:=zK;simp only [Op.equalIn];rw [qi,Ka PP _ hu];rfl
theorem Ze (d:Nat) (t:TypeId) (h:PP.underlying t=some (.int .u16)) (a b:Int):ev PP (Op.equalIn (d+1) t (.int .u16 a) (.int .u16 b))=some (a == b):=by simp only [Op.equalIn];rw [qi,Ka PP _ h];rfl
theorem aCo (d:Nat) (s s':ByteArray) (t t' c c':Int):ev PP (Op.equalIn (d+1+1) 164 (.agg #[.string s,.int .u16 (t),.int .u16 (c)]) (.agg #[.string s',.int .u16 (t'),.int .u16 (c')]))=some ((s == s') && ((t == t') && (c == c'))):=by
 have hu:=Tryz.underlying164;have hst:PP.stoodInHeld 164=false:=zK;rw [Op.equalIn];rw [qi,Ka PP _ hu];simp only [Option.bind_some];have hT:PP.underlying 50=some (.int .u16):=zK;have hC:PP.underlying 59=some (.int .u16):=zK;have n1:("owner" ≠ "_")=True:=by simp
 have n2:("t" ≠ "_")=True:=by simp
 have n3:("c" ≠ "_")=True:=by simp
 rw [qi,show ev PP program=some PP from rfl];simp only [Option.bind_some,hst,if_false,Bool.false_eq_true];rw [qi];simp only [List.forIn_toArray,List.forIn_cons,List.forIn_nil,n1,n2,n3,if_true,qi,azd,ay5,az8,awu,Ze _ _ hT,Ze _ _ hC,Option.bind_some,bind_assoc];cases hs:(s == s')<;>cases ht:(t == t')<;>cases hcc:(c == c')<;>simp only [Bool.not_true,Bool.not_false,if_true,if_false,Bool.false_eq_true,pure_bind,qi,Option.bind_some,Gq,azd,ay5,az8,awu,Ze _ _ hT,Ze _ _ hC,hs,ht,hcc]<;>rfl
theorem aJu (s s':ByteArray) (t t' c c':Int):ev PP (Op.equal 164 (.agg #[.string s,.int .u16 (t),.int .u16 (c)]) (.agg #[.string s',.int .u16 (t'),.int .u16 (c')]))=some ((s == s') && ((t == t') && (c == c'))):=aCo 9998 s s' t t' c c'
abbrev mh:=ByteArray × UInt16 × UInt16
def vg (k:mh):Value:=.agg #[.string k.1,.int .u16 k.2.1.toNat,.int .u16 k.2.2.toNat]
def ij:Nat->List mh->List (Value × AV)
 |_,[]=>[]
 |i,k::r=>(vg k,.sc (.int .i64 i))::ij (i+1) r
def ln (k:mh):Nat->List mh->Option Nat
 |_,[]=>none
 |i,a::r=>if k=a then some i else ln k (i+1) r
theorem awp (s s':ByteArray):(s == s')=true↔s=s':=by obtain ⟨d⟩:=s;obtain ⟨d'⟩:=s';show (d == d')=true↔_;rw [beq_iff_eq,ByteArray.mk.injEq]
theorem awi (a b:mh):ev PP (Op.equal 164 (vg a) (vg b))=some (decide (a=b)):=by
 unfold vg;rw [aJu]
 congr 1
 obtain ⟨s,t,c⟩:=a;obtain ⟨s',t',c'⟩:=b;rw [zyc];simp only [zzh,beq_iff_eq,decide_eq_true_eq,Prod.mk.injEq];exact ⟨fun h=>⟨(awp _ _).1 h.1,UInt16.toNat_inj.1 zO,UInt16.toNat_inj.1 zO⟩,fun h=>⟨(awp _ _).2 h.1,by rw [h.2.1],by rw [h.2.2]⟩⟩
theorem Jn (b:Bool) (k:mh):ev PP (Instr.checkKey b 10000 164 (vg k))=some ():=ayh b _ _ _
theorem afh:∀ (ks:List mh) (k:mh) (i:Nat),ij i (ks++[k])=ij i ks++[(vg k,zi (i+ks.length:Nat))]
 | [],k,i=>rfl
 |a::r,k,i=>by simp only [List.cons_append,ij,afh r k,List.length_cons];rw [show i+1+r.length=i+(r.length+1) by omega]
theorem Wf (ks:List mh) (i:Nat):loose (ij i ks)=false:=by
 cases ks with
 |nil=>rfl
 |cons a r=>
  cases r with
  |nil=>rfl
  |cons b r=>rfl
theorem ahz:∀ (ks:List mh) (k:mh) (i j:Nat),ln k i ks=some j->∃ p,j=i+p/\(ij i ks)[p]? = some (vg k,zi (j:Nat))
 | [],k,i,j,h=>by cases h
 |a::r,k,i,j,h=>by
  unfold ln at h;by_cases e:k=a
  ·rw [if_pos e] at h;cases h;exact ⟨0,rfl,by subst e;rfl⟩
  ·rw [if_neg e] at h;obtain ⟨p,h1,h2⟩:=ahz r k (i+1) j h;exact ⟨p+1,zO,by simpa [ij] using h2⟩
theorem Y0:∀ (ks:List mh) (k:mh) (i q:Nat),ev PP (Instr.findAsking 164 (vg k) (vt (ij i ks)) q)=some ((ln k q ks).map fun j=>(j,undef))
 | [],k,i,q=>rfl
 |a::r,k,i,q=>by
  show ev PP (Instr.findAsking 164 (vg k) ({ key:=vg a,val:=undef,born:=0 }::vt (ij (i+1) r)) q)=_;unfold Instr.findAsking;rw [qi,awi];simp only [Option.bind_some];unfold ln;by_cases e:k=a
  ·rw [if_pos e,if_pos (by simpa using e)];rfl
  ·rw [if_neg e,if_neg (by simpa using e),Y0 r k (i+1) (q+1)]
theorem Ml (ks:List mh) (k:mh):xl PP 164 (vg k) (ij 0 ks)=some (ln k 0 ks):=by
 have hu:=Tryz.underlying164;have hf:ev PP (Instr.findKey 164 (vg k) (vt (ij 0 ks)))=some ((ln k 0 ks).map fun j=>(j,undef)):=by
  unfold Instr.findKey;rw [qi,Ka PP _ hu];cases ks with
  |nil=>rfl
  |cons a r=>exact Y0 (a::r) k 0 0
 unfold xl;rw [Wf];simp only [Bool.not_false,Bool.true_or,cond_true,hf,Option.map_some];cases ln k 0 ks<;>rfl
theorem aGl (ks:List mh) (k:mh) (h:ln k 0 ks=none):tm PP 164 3 (vg k) true (.map (ij 0 ks))=M.pure (.gj [.sc (.int .i64 0),.sc (.bool false)]):=by have hz:ic PP 3=some (.int .i64 0):=zK;unfold tm;simp only [Jn,Ml,h,hz,found];rfl
theorem abz (ks:List mh) (k:mh) (i:Nat) (h:ln k 0 ks=some i):tm PP 164 3 (vg k) true (.map (ij 0 ks))=M.pure (.gj [.sc (.int .i64 i),.sc (.bool true)]):=by have hz:ic PP 3=some (.int .i64 0):=zK;obtain ⟨p,h1,h2⟩:=ahz ks k 0 i h;have h1:p=i:=zO;subst h1;unfold tm;simp only [Jn,Ml,h,hz,h2,found];rfl
theorem aIq (id:Nat) (ks:List mh) (k:mh) (h:ln k 0 ks=none):Dg PP id 164 (vg k) (.sc (.int .i64 ks.length)) (.map (ij 0 ks))=(ki id (.map (ij 0 (ks++[k])))).bind fun _=>M.pure (.sc undef):=by unfold Dg;simp only [Jn,Ml,h,afh,stays,Wf,Bool.not_false,Bool.true_or,cond_true,Nat.zero_add]
theorem wi (l:Bool) (s:ByteArray) (t c:UInt16):N1.val l (s,t,c) = .agg [.sc (.string s),.sc (.int .u16 t.toNat),.sc (.int .u16 c.toNat)]:=id rfl
theorem ux {α:Type} (μ : α->Nat) (l r:List α):dk μ (l++r)=dk μ l+dk μ r:=by
 induction l with
 |nil=>simp [dk]
 |cons a l ih=>simp only [dk,List.cons_append,List.foldr_cons] at *;omega
theorem yi (a b c:Value):(AV.agg [.sc a,.sc b,.sc c]).jr=some (.agg #[a,b,c]):=rfl
def jf (r:dt):mh:=(Am r.owner,r.type,r.cls)
def ef (s:aw):mh:=(Am s.owner,s.type,s.cls)
noncomputable def ofBody:Code:=match Tryz.f68.body.getD .skip with
 |.seq _ (.seq _ (.seq _ (.seq (.seq _ (.block _ (.loop b))) _)))=>b
 |_=>.skip
theorem xi:∀ (ks:List mh) (i:Nat),AV.names.go ((ij i ks).map fun x=>x.2)=[]
 | [],_=>rfl
 |k::r,i=>xi r (i+1)
theorem Ho (τ:Nat->Option Nat):∀ (ks:List mh) (i:Nat),((ij i ks).map fun e=>(e.1,e.2.cx τ))=ij i ks
 | [],_=>rfl
 |k::r,i=>by simp only [ij,List.map_cons,Ho τ r (i+1)];rfl
theorem pn {α:Type} (X Y:List α) {n:Nat} (hX:X.length=n) (a0 a1 a2 a3 a4 : α):(X++a0::a1::a2::a3::a4::Y)[n+1]? = some a1/\(X++a0::a1::a2::a3::a4::Y)[n+3]? = some a3/\(X++a0::a1::a2::a3::a4::Y)[n+4]? = some a4:=by subst hX;refine ⟨?_,?_,?_⟩<;>rw [zzd zO,Nat.add_sub_cancel_left]<;>rfl
theorem sx {α:Type} (X Y:List α) {n:Nat} (hX:X.length=n) (a0 a1 a2 a3 a4 v : α):(X++a0::a1::a2::a3::a4::Y).set (n+3) v=X++a0::a1::a2::v::a4::Y/\(X++a0::a1::a2::a3::a4::Y).set (n+4) v=X++a0::a1::a2::a3::v::Y:=by subst hX;refine ⟨?_,?_⟩<;>rw [List.set_append,if_neg zO,Nat.add_sub_cancel_left]<;>rfl
theorem ko {ty:TypeId} (h1:mc PP ty=some false) {cells:List AV} {n:Nat} {a:AV} (h:cells[n]? = some a) (k st et):jk PP ty n (.row cells k st et) = .pure a:=by
 obtain ⟨hi,e⟩:=zg.1 h;have h3:(cells.drop n)[0]? = some a:=by rw [zz6];exact h
 unfold jk so;rw [h1];cases fc PP ty<;>simp only [h3]<;>rfl
theorem pc {cells:List AV} {n:Nat} (h:n<cells.length) (v:AV) (hv:v.one=true) (id k et):lf id n 1 [v] (.row cells 0 k et)=(ki id (.row (cells.set n v) 0 k et)).bind fun _=>.pure (.sc undef):=by
 have h1:cells.take n++[v]++cells.drop (n+1)=cells.set n v:=by rw [List.set_eq_take_append_cons_drop,if_pos h,zzc];rfl
 have h2:Nat.ble (n+1) cells.length=true:=Nat.ble_eq_true_of_le h;have h3:[v].all AV.one=true:=by simp [hv]
 have h4:Nat.beq [v].length 1=true:=rfl;have h5:Nat.ble 0 n=true:=Nat.ble_eq_true_of_le (zzb _);unfold lf;simp only [h1,h2,h3,h4,h5];rfl
theorem aIu (q:List dt) (p:Nat) (r:dt) (hr:q[p]? = some r) (ks:List mh) (X:List AV) (hX:X.length=ks.length * 5) (bT:AV.names.go X=[]) (dD:∀ τ,X.map (AV.cx τ)=X)
 (hk:ln (jf r) 0 ks=none) (ho:bj r.owner) (hd:ca r.data) (h1:cg r.owner=0) (h2:c8 r.type r.data=0) (hm:ks.length<=1048576) (hpl:q.length<=1048576) :
 wl PP [fh,ml,Bx,nc,D2,qg] 0 ofBody (ou 0 [4,5,15,16,17] (fun vs os=>vs=[.mp 0,.sl 1 0 (ks.length+1) 5,zr q,zi ((q).length),zi (p+1)]/\os=[some (.map (ij 0 (ks++[jf r]))),some (.row (X++[zt r.owner,.sc (.int .u16 r.type.toNat),.sc (.int .u16 r.cls.toNat),.sc (.int .u32 r.b9.toNat),.sl 2 0 1 4]) 0 0 63),some (.row (cellsOf ai true ([r.data])) 0 0 116)]) (fun _ _ _=>False))
  (fm [4,5,15,16,17] [.mp 0,.sl 1 0 (ks.length) 5,zr q,zi ((q).length),zi p]) (ay [some (.map (ij 0 (ks))),some (.row (X) 0 0 63)]):=by
 have hq:∀ a b c d,eh a b c=d->eh a b c=d:=fun _ _ _ _ h=>h
 have hlt:p<q.length:=(zg.1 hr).1;have dA:tm PP 164 3 (.agg #[.string (Am r.owner),.int .u16 r.type.toNat,.int .u16 r.cls.toNat]) true (.map (ij 0 ks))=M.pure (.gj [.sc (.int .i64 0),.sc (.bool false)]):=aGl ks (jf r) hk;have jM:∀ id,Dg PP id 164 (.agg #[.string (Am r.owner),.int .u16 r.type.toNat,.int .u16 r.cls.toNat]) (.sc (.int .i64 ks.length)) (.map (ij 0 ks))=(ki id (.map (ij 0 (ks++[jf r])))).bind fun _=>M.pure (.sc undef):=fun id=>aIq id ks (jf r) hk
 have hg:decide ((p:Int)<q.length)=true:=zp zO;unfold ofBody Tryz.f68;simp only [↓wR,zT,simprocAttr]
 repeat (first|simp only [↓wR,zT,simprocAttr,hg,hr,j7,ho.fit,h1,kq,hd,h2,Ab,ho,wi,yi,dA,jM,Gf,Ql]|simp (disch:=omega) only [zW])
 refine ⟨zK,.inl ?_⟩;have hP:X.take (ks.length * 5)=X:=zzp zO;have aD:(ks.length * 5+5) * 160<=140737488355328:=zO;have l1:∀ a0 a1 a2 a3 a4 k st et,jk PP 50 (ks.length * 5+1) (.row (X++[a0,a1,a2,a3,a4]) k st et) = .pure a1:=fun a0 a1 a2 a3 a4 k st et=>ko zK (pn X [] hX a0 a1 a2 a3 a4).1 k st et
 have l3:∀ a0 a1 a2 a3 a4 k st et,jk PP 60 (ks.length * 5+3) (.row (X++[a0,a1,a2,a3,a4]) k st et) = .pure a3:=fun a0 a1 a2 a3 a4 k st et=>ko zK (pn X [] hX a0 a1 a2 a3 a4).2.1 k st et
 have l4:∀ ty (_:mc PP ty=some false) a0 a1 a2 a3 a4 k st et,jk PP ty (ks.length * 5+4) (.row (X++[a0,a1,a2,a3,a4]) k st et) = .pure a4:=fun ty dE a0 a1 a2 a3 a4 k st et=>ko dE (pn X [] hX a0 a1 a2 a3 a4).2.2 k st et
 have s3:∀ a0 a1 a2 a3 a4 x id k et,lf id (ks.length * 5+3) 1 [.sc (.int .u32 x)] (.row (X++[a0,a1,a2,a3,a4]) 0 k et)=(ki id (.row (X++[a0,a1,a2,.sc (.int .u32 x),a4]) 0 k et)).bind fun _=>.pure (.sc undef):=fun a0 a1 a2 a3 a4 x id k et=>by rw [pc (by simp;omega) _ (by rfl),(sx X [] hX a0 a1 a2 a3 a4 _).1]
 have s4:∀ a0 a1 a2 a3 a4 o f l z id k et,lf id (ks.length * 5+4) 1 [.sl o f l z] (.row (X++[a0,a1,a2,a3,a4]) 0 k et)=(ki id (.row (X++[a0,a1,a2,a3,.sl o f l z]) 0 k et)).bind fun _=>.pure (.sc undef):=fun a0 a1 a2 a3 a4 o f l z id k et=>by rw [pc (by simp;omega) _ (by rfl),(sx X [] hX a0 a1 a2 a3 a4 _).2]
 have bX:(if (r.b9.toNat:Int)<r.b9.toNat then (r.b9.toNat:Int) else r.b9.toNat)=r.b9.toNat:=if_neg zO;have q3:m6 r.type [] r.data=false:=by unfold m6;rfl
 have d0:kg []:=by unfold kg;decide
 repeat (first|simp only [↓wR,zT,simprocAttr,rm,ho,cr,Ql,hP,aD,hX,bT,↓l1,↓l3,↓l4,↓s3]|simp (disch:=omega) only [zW])
 refine ⟨by apply hq;kernel_rfl,?_⟩;refine ⟨zK,.inl ?_⟩
 repeat (first|simp only [↓wR,zT,simprocAttr,Ql,bX,↓l1,↓l3,↓l4,↓s3]|simp (disch:=omega) only [zW])
 refine ⟨by apply hq;kernel_rfl,?_⟩;refine ⟨zK,.inl ?_⟩
 repeat (first|simp only [↓wR,zT,simprocAttr,Bm,hd,q3,d0,↓l1,↓l3,↓l4,↓s3]|simp (disch:=omega) only [zW])
 refine ⟨by apply hq;kernel_rfl,?_⟩;refine ⟨zK,.inl ?_⟩
 repeat (first|simp only [↓wR,zT,simprocAttr,u0,hd,↓l1,↓l3,↓l4,↓s3,↓s4,bT,xi]|simp (disch:=omega) only [zW])
 refine ⟨by apply hq;kernel_rfl,?_⟩;simp only [↓wR,zT,simprocAttr,dD,Ho];rw [xd];rfl
theorem Gj {k:mh}:∀ (ks:List mh) (i j:Nat),ln k i ks=some j->i<=j/\j<i+ks.length
 | [],i,j,h=>by cases h
 |a::r,i,j,h=>by
  unfold ln at h;simp only [List.length_cons];by_cases e:k=a
  ·rw [if_pos e] at h;cases h;omega
  ·rw [if_neg e] at h;have:=Gj r (i+1) j h;omega
def m5 (a b:UInt32):UInt32:=if b.toNat<a.toNat then b else a
theorem aI9 (q:List dt) (p:Nat) (r:dt) (hr:q[p]? = some r) (ks:List mh) (i:Nat) (X Y:List AV) (s:aw) (hX:X.length=i * 5) (bT:AV.names.go X=[]) (dD:∀ τ,X.map (AV.cx τ)=X) (cD:AV.names.go Y=[]) (dJ:∀ τ,Y.map (AV.cx τ)=Y)
 (hk:ln (jf r) 0 ks=some i) (ho:bj r.owner) (hd:ca r.data) (h1:cg r.owner=0) (h2:c8 r.type r.data=0) (hm:ks.length<=1048576) (hpl:q.length<=1048576) (bO:kg s.data) (hn : 0<s.data.length) (sZ:s.data.length<512) (hh:m6 s.type s.data r.data=false) :
 wl PP [fh,ml,Bx,nc,D2,qg] 0 ofBody (ou 0 [4,5,15,16,17] (fun vs os=>vs=[.mp 0,.sl 1 0 (ks.length) 5,zr q,zi ((q).length),zi (p+1)]/\os=[some (.map (ij 0 (ks))),some (.row (X ++ zt s.owner :: .sc (.int .u16 s.type.toNat) :: .sc (.int .u16 s.cls.toNat) :: .sc (.int .u32 (m5 s.b9 r.b9).toNat) :: .sl 2 0 (s.data.length+1) 4::Y) 0 0 63),some (.row (cellsOf ai true (s.data++[r.data])) 0 0 116)]) (fun _ _ _=>False))
  (fm [4,5,15,16,17] [.mp 0,.sl 1 0 (ks.length) 5,zr q,zi ((q).length),zi p]) (ay [some (.map (ij 0 (ks))),some (.row (X ++ zt s.owner :: .sc (.int .u16 s.type.toNat) :: .sc (.int .u16 s.cls.toNat) :: .sc (.int .u32 s.b9.toNat) :: .sl 2 0 s.data.length 4::Y) 0 0 63),some (.row (cellsOf ai true (s.data)) 0 0 116)]):=by
 have hq:∀ a b c d,eh a b c=d->eh a b c=d:=fun _ _ _ _ h=>h
 have hlt:p<q.length:=(zg.1 hr).1;have dA:tm PP 164 3 (.agg #[.string (Am r.owner),.int .u16 r.type.toNat,.int .u16 r.cls.toNat]) true (.map (ij 0 ks))=M.pure (.gj [.sc (.int .i64 i),.sc (.bool true)]):=abz ks (jf r) i hk;have hg:decide ((p:Int)<q.length)=true:=zp zO;have cA:i<ks.length:=by have:=Gj ks 0 i hk;omega
 have l1:∀ a0 a1 a2 a3 a4 k st et,jk PP 50 (i * 5+1) (.row (X++a0::a1::a2::a3::a4::Y) k st et) = .pure a1:=fun a0 a1 a2 a3 a4 k st et=>ko zK (pn X Y hX a0 a1 a2 a3 a4).1 k st et
 have l3:∀ a0 a1 a2 a3 a4 k st et,jk PP 60 (i * 5+3) (.row (X++a0::a1::a2::a3::a4::Y) k st et) = .pure a3:=fun a0 a1 a2 a3 a4 k st et=>ko zK (pn X Y hX a0 a1 a2 a3 a4).2.1 k st et
 have l4:∀ ty (_:mc PP ty=some false) a0 a1 a2 a3 a4 k st et,jk PP ty (i * 5+4) (.row (X++a0::a1::a2::a3::a4::Y) k st et) = .pure a4:=fun ty dE a0 a1 a2 a3 a4 k st et=>ko dE (pn X Y hX a0 a1 a2 a3 a4).2.2 k st et
 have s3:∀ a0 a1 a2 a3 a4 x id k et,lf id (i * 5+3) 1 [.sc (.int .u32 x)] (.row (X++a0::a1::a2::a3::a4::Y) 0 k et)=(ki id (.row (X++a0::a1::a2 :: .sc (.int .u32 x)::a4::Y) 0 k et)).bind fun _=>.pure (.sc undef):=fun a0 a1 a2 a3 a4 x id k et=>by rw [pc (by simp;omega) _ (by rfl),(sx X Y hX a0 a1 a2 a3 a4 _).1]
 have s4:∀ a0 a1 a2 a3 a4 o f l z id k et,lf id (i * 5+4) 1 [.sl o f l z] (.row (X++a0::a1::a2::a3::a4::Y) 0 k et)=(ki id (.row (X++a0::a1::a2::a3 :: .sl o f l z::Y) 0 k et)).bind fun _=>.pure (.sc undef):=fun a0 a1 a2 a3 a4 o f l z id k et=>by rw [pc (by simp;omega) _ rfl,(sx X Y hX a0 a1 a2 a3 a4 _).2]
 have bX:(if (r.b9.toNat:Int)<s.b9.toNat then (r.b9.toNat:Int) else s.b9.toNat)=(m5 s.b9 r.b9).toNat:=by
  unfold m5;by_cases h:r.b9.toNat<s.b9.toNat
  ·rw [if_pos h,if_pos zO]
  ·rw [if_neg h,if_neg zO]
 have hdec:∀ fr h kk st et,yc fr st 4 ai.kd et=true->lg ai fr h 0 s.data.length (.row (cellsOf ai true s.data) kk st et)=some s.data:=fun fr h kk st et hro=>jy ai fr h true _ kk st et _ rfl rfl hro
 have hP:(cellsOf ai true s.data).take (s.data.length * 4)=cellsOf ai true s.data:=zzp (by rw [jq];exact zza _);have hge:decide (((s.data.length:Nat):Int) ≥ 512)=false:=zq zO;have aD:(s.data.length * 4+4) * 96<=140737488355328:=zO;unfold ofBody Tryz.f68;simp only [↓wR,zT,simprocAttr]
 repeat (first|simp only [↓wR,zT,simprocAttr,hg,hr,j7,ho.fit,h1,kq,hd,h2,Ab,ho,wi,yi,dA,cA,Ql,bX,bT,cD,↓l1,↓l3,↓l4,↓s3]|simp (disch:=omega) only [zW])
 refine ⟨zK,.inl ?_⟩;refine ⟨by apply hq;kernel_rfl,?_⟩;refine ⟨zK,.inl ?_⟩
 repeat (first|simp only [↓wR,zT,simprocAttr,Bm,hd,hh,bO,hdec,hge,bT,cD,↓l1,↓l3,↓l4,↓s3]|simp (disch:=omega) only [zW])
 refine ⟨by apply hq;kernel_rfl,?_⟩;refine ⟨zK,.inl ?_⟩
 repeat (first|simp only [↓wR,zT,simprocAttr,u0,hd,↓l1,↓l3,↓l4,↓s3,↓s4,bT,cD,xi,aD,hP]|simp (disch:=omega) only [zW])
 refine ⟨by apply hq;kernel_rfl,?_⟩;simp only [↓wR,zT,simprocAttr,dD,dJ,Ho];rw [tx]
theorem aHs (q:List dt) (p:Nat) (r:dt) (hr:q[p]? = some r) (ks:List mh) (i:Nat) (X Y:List AV) (s:aw) (hX:X.length=i * 5) (bT:AV.names.go X=[]) (dD:∀ τ,X.map (AV.cx τ)=X) (cD:AV.names.go Y=[]) (dJ:∀ τ,Y.map (AV.cx τ)=Y)
 (hk:ln (jf r) 0 ks=some i) (ho:bj r.owner) (hd:ca r.data) (h1:cg r.owner=0) (h2:c8 r.type r.data=0) (hm:ks.length<=1048576) (hpl:q.length<=1048576) (bO:kg s.data) (hn : 0<s.data.length) (hh:m6 s.type s.data r.data=true) :
 wl PP [fh,ml,Bx,nc,D2,qg] 0 ofBody (ou 0 [4,5,15,16,17] (fun vs os=>vs=[.mp 0,.sl 1 0 (ks.length) 5,zr q,zi ((q).length),zi (p+1)]/\os=[some (.map (ij 0 (ks))),some (.row (X ++ zt s.owner :: .sc (.int .u16 s.type.toNat) :: .sc (.int .u16 s.cls.toNat) :: .sc (.int .u32 (m5 s.b9 r.b9).toNat) :: .sl 2 0 s.data.length 4::Y) 0 0 63),some (.row (cellsOf ai true (s.data)) 0 0 116)]) (fun _ _ _=>False))
  (fm [4,5,15,16,17] [.mp 0,.sl 1 0 (ks.length) 5,zr q,zi ((q).length),zi p]) (ay [some (.map (ij 0 (ks))),some (.row (X ++ zt s.owner :: .sc (.int .u16 s.type.toNat) :: .sc (.int .u16 s.cls.toNat) :: .sc (.int .u32 s.b9.toNat) :: .sl 2 0 s.data.length 4::Y) 0 0 63),some (.row (cellsOf ai true (s.data)) 0 0 116)]):=by
 have hq:∀ a b c d,eh a b c=d->eh a b c=d:=fun _ _ _ _ h=>h
 have hlt:p<q.length:=(zg.1 hr).1;have dA:tm PP 164 3 (.agg #[.string (Am r.owner),.int .u16 r.type.toNat,.int .u16 r.cls.toNat]) true (.map (ij 0 ks))=M.pure (.gj [.sc (.int .i64 i),.sc (.bool true)]):=abz ks (jf r) i hk;have hg:decide ((p:Int)<q.length)=true:=zp zO;have cA:i<ks.length:=by have:=Gj ks 0 i hk;omega
 have l1:∀ a0 a1 a2 a3 a4 k st et,jk PP 50 (i * 5+1) (.row (X++a0::a1::a2::a3::a4::Y) k st et) = .pure a1:=fun a0 a1 a2 a3 a4 k st et=>ko zK (pn X Y hX a0 a1 a2 a3 a4).1 k st et
 have l3:∀ a0 a1 a2 a3 a4 k st et,jk PP 60 (i * 5+3) (.row (X++a0::a1::a2::a3::a4::Y) k st et) = .pure a3:=fun a0 a1 a2 a3 a4 k st et=>ko zK (pn X Y hX a0 a1 a2 a3 a4).2.1 k st et
 have l4:∀ ty (_:mc PP ty=some false) a0 a1 a2 a3 a4 k st et,jk PP ty (i * 5+4) (.row (X++a0::a1::a2::a3::a4::Y) k st et) = .pure a4:=fun ty dE a0 a1 a2 a3 a4 k st et=>ko dE (pn X Y hX a0 a1 a2 a3 a4).2.2 k st et
 have s3:∀ a0 a1 a2 a3 a4 x id k et,lf id (i * 5+3) 1 [.sc (.int .u32 x)] (.row (X++a0::a1::a2::a3::a4::Y) 0 k et)=(ki id (.row (X++a0::a1::a2 :: .sc (.int .u32 x)::a4::Y) 0 k et)).bind fun _=>.pure (.sc undef):=fun a0 a1 a2 a3 a4 x id k et=>by rw [pc (by simp;omega) _ (by rfl),(sx X Y hX a0 a1 a2 a3 a4 _).1]
 have s4:∀ a0 a1 a2 a3 a4 o f l z id k et,lf id (i * 5+4) 1 [.sl o f l z] (.row (X++a0::a1::a2::a3::a4::Y) 0 k et)=(ki id (.row (X++a0::a1::a2::a3 :: .sl o f l z::Y) 0 k et)).bind fun _=>.pure (.sc undef):=fun a0 a1 a2 a3 a4 o f l z id k et=>by rw [pc (by simp;omega) _ rfl,(sx X Y hX a0 a1 a2 a3 a4 _).2]
 have bX:(if (r.b9.toNat:Int)<s.b9.toNat then (r.b9.toNat:Int) else s.b9.toNat)=(m5 s.b9 r.b9).toNat:=by
  unfold m5;by_cases h:r.b9.toNat<s.b9.toNat
  ·rw [if_pos h,if_pos zO]
  ·rw [if_neg h,if_neg zO]
 have hdec:∀ fr h kk st et,yc fr st 4 ai.kd et=true->lg ai fr h 0 s.data.length (.row (cellsOf ai true s.data) kk st et)=some s.data:=fun fr h kk st et hro=>jy ai fr h true _ kk st et _ rfl rfl hro
 have hP:(cellsOf ai true s.data).take (s.data.length * 4)=cellsOf ai true s.data:=zzp (by rw [jq];exact zza _);unfold ofBody Tryz.f68;simp only [↓wR,zT,simprocAttr]
 repeat (first|simp only [↓wR,zT,simprocAttr,hg,hr,j7,ho.fit,h1,kq,hd,h2,Ab,ho,wi,yi,dA,cA,Ql,bX,bT,cD,↓l1,↓l3,↓l4,↓s3]|simp (disch:=omega) only [zW])
 refine ⟨zK,.inl ?_⟩;refine ⟨by apply hq;kernel_rfl,?_⟩;refine ⟨zK,.inl ?_⟩
 repeat (first|simp only [↓wR,zT,simprocAttr,Bm,hd,hh,bO,hdec,bT,cD,xi,↓l1,↓l3,↓l4,↓s3]|simp (disch:=omega) only [zW])
 refine ⟨by apply hq;kernel_rfl,?_⟩;simp only [↓wR,zT,simprocAttr,dD,dJ,Ho]
theorem aG6 (q:List dt) (p:Nat) (r:dt) (hr:q[p]? = some r) (ks:List mh) (i:Nat) (X Y:List AV) (s:aw) (hX:X.length=i * 5) (bT:AV.names.go X=[]) (dD:∀ τ,X.map (AV.cx τ)=X) (cD:AV.names.go Y=[]) (dJ:∀ τ,Y.map (AV.cx τ)=Y)
 (hk:ln (jf r) 0 ks=some i) (ho:bj r.owner) (hd:ca r.data) (h1:cg r.owner=0) (h2:c8 r.type r.data=0) (hm:ks.length<=1048576) (hpl:q.length<=1048576) (bO:kg s.data) (hn : 0<s.data.length) (sZ : 512<=s.data.length) (hh:m6 s.type s.data r.data=false) :
 wl PP [fh,ml,Bx,nc,D2,qg] 0 ofBody (ou 0 [4,5,15,16,17] (fun _ _=>False) (fun e L st=>match e with|.ret=>di PP Tryz.f68.results.toList (fun rr st=>(r2 (bw aj) (bh .i64)).get true st.h rr=some ([],(3))) .ret L st|_=>False))
  (fm [4,5,15,16,17] [.mp 0,.sl 1 0 (ks.length) 5,zr q,zi ((q).length),zi p]) (ay [some (.map (ij 0 (ks))),some (.row (X ++ zt s.owner :: .sc (.int .u16 s.type.toNat) :: .sc (.int .u16 s.cls.toNat) :: .sc (.int .u32 s.b9.toNat) :: .sl 2 0 s.data.length 4::Y) 0 0 63),some (.row (cellsOf ai true (s.data)) 0 0 116)]):=by
 have hq:∀ a b c d,eh a b c=d->eh a b c=d:=fun _ _ _ _ h=>h
 have hlt:p<q.length:=(zg.1 hr).1;have dA:tm PP 164 3 (.agg #[.string (Am r.owner),.int .u16 r.type.toNat,.int .u16 r.cls.toNat]) true (.map (ij 0 ks))=M.pure (.gj [.sc (.int .i64 i),.sc (.bool true)]):=abz ks (jf r) i hk;have hg:decide ((p:Int)<q.length)=true:=zp zO;have cA:i<ks.length:=by have:=Gj ks 0 i hk;omega
 have l1:∀ a0 a1 a2 a3 a4 k st et,jk PP 50 (i * 5+1) (.row (X++a0::a1::a2::a3::a4::Y) k st et) = .pure a1:=fun a0 a1 a2 a3 a4 k st et=>ko zK (pn X Y hX a0 a1 a2 a3 a4).1 k st et
 have l3:∀ a0 a1 a2 a3 a4 k st et,jk PP 60 (i * 5+3) (.row (X++a0::a1::a2::a3::a4::Y) k st et) = .pure a3:=fun a0 a1 a2 a3 a4 k st et=>ko zK (pn X Y hX a0 a1 a2 a3 a4).2.1 k st et
 have l4:∀ ty (_:mc PP ty=some false) a0 a1 a2 a3 a4 k st et,jk PP ty (i * 5+4) (.row (X++a0::a1::a2::a3::a4::Y) k st et) = .pure a4:=fun ty dE a0 a1 a2 a3 a4 k st et=>ko dE (pn X Y hX a0 a1 a2 a3 a4).2.2 k st et
 have s3:∀ a0 a1 a2 a3 a4 x id k et,lf id (i * 5+3) 1 [.sc (.int .u32 x)] (.row (X++a0::a1::a2::a3::a4::Y) 0 k et)=(ki id (.row (X++a0::a1::a2 :: .sc (.int .u32 x)::a4::Y) 0 k et)).bind fun _=>.pure (.sc undef):=fun a0 a1 a2 a3 a4 x id k et=>by rw [pc (by simp;omega) _ (by rfl),(sx X Y hX a0 a1 a2 a3 a4 _).1]
 have s4:∀ a0 a1 a2 a3 a4 o f l z id k et,lf id (i * 5+4) 1 [.sl o f l z] (.row (X++a0::a1::a2::a3::a4::Y) 0 k et)=(ki id (.row (X++a0::a1::a2::a3 :: .sl o f l z::Y) 0 k et)).bind fun _=>.pure (.sc undef):=fun a0 a1 a2 a3 a4 o f l z id k et=>by rw [pc (by simp;omega) _ rfl,(sx X Y hX a0 a1 a2 a3 a4 _).2]
 have bX:(if (r.b9.toNat:Int)<s.b9.toNat then (r.b9.toNat:Int) else s.b9.toNat)=(m5 s.b9 r.b9).toNat:=by
  unfold m5;by_cases h:r.b9.toNat<s.b9.toNat
  ·rw [if_pos h,if_pos zO]
  ·rw [if_neg h,if_neg zO]
 have hdec:∀ fr h kk st et,yc fr st 4 ai.kd et=true->lg ai fr h 0 s.data.length (.row (cellsOf ai true s.data) kk st et)=some s.data:=fun fr h kk st et hro=>jy ai fr h true _ kk st et _ rfl rfl hro
 have hge:decide (((s.data.length:Nat):Int) ≥ 512)=true:=zp zO;unfold ofBody Tryz.f68;simp only [↓wR,zT,simprocAttr]
 repeat (first|simp only [↓wR,zT,simprocAttr,hg,hr,j7,ho.fit,h1,kq,hd,h2,Ab,ho,wi,yi,dA,cA,Ql,bX,bT,cD,↓l1,↓l3,↓l4,↓s3]|simp (disch:=omega) only [zW])
 refine ⟨zK,.inl ?_⟩;refine ⟨by apply hq;kernel_rfl,?_⟩;refine ⟨zK,.inl ?_⟩
 repeat (first|simp only [↓wR,zT,simprocAttr,Bm,hd,hh,bO,hdec,hge,bT,cD,↓l1,↓l3,↓l4,↓s3]|simp (disch:=omega) only [zW])
 apply hq;kernel_rfl
theorem aGp (q:List dt) (p:Nat) (r:dt) (hr:q[p]? = some r) (ks:List mh) (X:List AV) (hX:X.length=ks.length * 5) (ho:bj r.owner) (h1:cg r.owner≠0) (hpl:q.length<=1048576) :
 wl PP [fh,ml,Bx,nc,D2,qg] 0 ofBody (ou 0 [4,5,15,16,17] (fun _ _=>False) (fun e L st=>match e with|.ret=>di PP Tryz.f68.results.toList (fun rr st=>(r2 (bw aj) (bh .i64)).get true st.h rr=some ([],(cg r.owner))) .ret L st|_=>False))
  (fm [4,5,15,16,17] [.mp 0,.sl 1 0 (ks.length) 5,zr q,zi ((q).length),zi p]) (ay [some (.map (ij 0 (ks))),some (.row (X) 0 0 63)]):=by
 have hlt:p<q.length:=(zg.1 hr).1;have hg:decide ((p:Int)<q.length)=true:=zp zO;unfold ofBody Tryz.f68;simp only [↓wR,zT,simprocAttr]
 repeat (first|simp only [↓wR,zT,simprocAttr,hg,hr,j7,ho.fit]|simp (disch:=omega) only [zW])
 rw [de];refine ⟨fun ⟨h3,e3⟩=>?_,fun ⟨h3,e3⟩=>?_⟩
 ·simp only [↓wR,zT,simprocAttr,h3]
 ·omega
theorem aGn (q:List dt) (p:Nat) (r:dt) (hr:q[p]? = some r) (ks:List mh) (X:List AV) (hX:X.length=ks.length * 5) (ho:bj r.owner) (hd:ca r.data) (h1:cg r.owner=0) (h2:c8 r.type r.data≠0) (hpl:q.length<=1048576) :
 wl PP [fh,ml,Bx,nc,D2,qg] 0 ofBody (ou 0 [4,5,15,16,17] (fun _ _=>False) (fun e L st=>match e with|.ret=>di PP Tryz.f68.results.toList (fun rr st=>(r2 (bw aj) (bh .i64)).get true st.h rr=some ([],(c8 r.type r.data))) .ret L st|_=>False))
  (fm [4,5,15,16,17] [.mp 0,.sl 1 0 (ks.length) 5,zr q,zi ((q).length),zi p]) (ay [some (.map (ij 0 (ks))),some (.row (X) 0 0 63)]):=by
 have hlt:p<q.length:=(zg.1 hr).1;have hg:decide ((p:Int)<q.length)=true:=zp zO;unfold ofBody Tryz.f68;simp only [↓wR,zT,simprocAttr]
 repeat (first|simp only [↓wR,zT,simprocAttr,hg,hr,j7,ho.fit,h1,kq,hd]|simp (disch:=omega) only [zW])
 rw [de];refine ⟨fun ⟨h3,e3⟩=>?_,fun ⟨h3,e3⟩=>?_⟩
 ·simp only [↓wR,zT,simprocAttr,h3]
 ·omega
theorem aJl (q:List dt) (m:Nat) (O:List (Option bk)) :
 wl PP [fh,ml,Bx,nc,D2,qg] 0 ofBody (ou 0 [4,5,15,16,17] (fun _ _=>False) (fun e L st=>e = .exit 0/\lk L 5 = .sl 1 0 m 5/\st=ay O))
  (fm [4,5,15,16,17] [.mp 0,.sl 1 0 (m) 5,zr q,zi ((q).length),zi q.length]) (ay O):=by
 have hg:decide ((q.length:Int)<q.length)=false:=zq zO;unfold ofBody Tryz.f68;simp only [↓wR,zT,simprocAttr,hg]
noncomputable def fe:List dt->List aw->List aw × Int
 | [],L=>(L,0)
 |r::rs,L=>
  if cg r.owner≠0 then ([],cg r.owner)
  else if c8 r.type r.data≠0 then ([],c8 r.type r.data)
  else match ln (jf r) 0 (L.map ef) with
   |none=>fe rs (L++[k6 r.owner r.type r.cls r.b9 [r.data]])
   |some i=>match L[i]? with
    |none=>([],0)
    |some s=>if m6 s.type s.data r.data=true then fe rs (L.set i (k6 s.owner s.type s.cls (m5 s.b9 r.b9) s.data))
     else if 512<=s.data.length then ([],3) else fe rs (L.set i (k6 s.owner s.type s.cls (m5 s.b9 r.b9) (s.data++[r.data])))
noncomputable def D8 (s:aw) (v:Value):List AV:=[zt s.owner,.sc (.int .u16 s.type.toNat),.sc (.int .u16 s.cls.toNat),.sc (.int .u32 s.b9.toNat),.sc v]
noncomputable def dh:List aw->List Value->List AV
 |s::L,v::vs=>D8 s v++dh L vs
 |_,_=>[]
theorem A0:∀ (L:List aw) (vs:List Value),vs.length=L.length->(dh L vs).length=L.length * 5
 | [],[],_=>rfl
 |s::L,v::vs,h=>by have:=A0 L vs (by simpa using h);show (D8 s v++dh L vs).length=_;rw [za,this,List.length_cons,Nat.succ_mul,Nat.add_comm];rfl
theorem m8:∀ (L:List aw) (vs:List Value),AV.names.go (dh L vs)=[]
 | [],_=>rfl
 |s::L,[]=>rfl
 |s::L,v::vs=>m8 L vs
theorem Gk (τ:Nat->Option Nat) (n:Name):(zt n).cx τ = zt n:=by show AV.vl true 1 (AV.cx.go τ (n.map (ah.val false)))=_;rw [kr,List.map_map];rfl
theorem aBr (τ:Nat->Option Nat) (s:aw) (v:Value):(D8 s v).map (AV.cx τ)=D8 s v:=by unfold D8;simp only [List.map_cons,List.map_nil,Gk];rfl
theorem m7 (τ:Nat->Option Nat):∀ (L:List aw) (vs:List Value),(dh L vs).map (AV.cx τ)=dh L vs
 | [],_=>rfl
 |s::L,[]=>rfl
 |s::L,v::vs=>by show (D8 s v++dh L vs).map (AV.cx τ)=_;rw [zzw,aBr,m7 τ L vs];rfl
theorem amn:∀ (L M:List aw) (vs us:List Value),vs.length=L.length->dh (L++M) (vs++us)=dh L vs++dh M us
 | [],M,[],us,_=>rfl
 |s::L,M,v::vs,us,h=>by show D8 s v++dh (L++M) (vs++us)=(D8 s v++dh L vs)++dh M us;rw [amn L M vs us (by simpa using h),zzc]
theorem W4 {L:List aw} {vs:List Value} {i:Nat} (s:aw) (v:Value) (hl:vs.length=L.length) (hi:i<L.length):dh (L.set i s) (vs.set i v)=dh (L.take i) (vs.take i)++(D8 s v++dh (L.drop (i+1)) (vs.drop (i+1))):=by rw [List.set_eq_take_append_cons_drop,if_pos hi,List.set_eq_take_append_cons_drop,if_pos zO,amn _ _ _ _ (by simp;omega)];rfl
theorem ab2 {L:List aw} {vs:List Value} {i:Nat} {s:aw} {v:Value} (hl:vs.length=L.length) (hs:L[i]? = some s) (hv:vs[i]? = some v):dh L vs=dh (L.take i) (vs.take i)++(D8 s v++dh (L.drop (i+1)) (vs.drop (i+1))):=by obtain ⟨hi,rfl⟩:=zg.1 hs;obtain ⟨hi',rfl⟩:=zg.1 hv;rw [<- W4 _ _ hl hi,List.set_getElem_self,List.set_getElem_self]
theorem ais {L:List aw} {i:Nat} {s s':aw} (hs:L[i]? = some s) (h:ef s'=ef s):(L.set i s').map ef=L.map ef:=by
 obtain ⟨hi,rfl⟩:=zg.1 hs;rw [List.map_set,h];apply List.ext_getElem? ;intro j;by_cases e:i=j
 ·subst e;rw [List.getElem?_set_self (by simpa using hi),zzj,zh hi];rfl
 ·rw [zyf e]
end Go.Proofs.YtjagjbceegbaiaaGreat
end
namespace Go.Vm
variable [TK]
noncomputable section
theorem aK7 {B:dz} {nt L g a w} {X Y:List AV} {cells:List AV} {et ey:TypeId} {n sz m z t0:Nat} (aF:B.iw) (hO:∀ b,¬ B.O b) (hp:B.bg=0) (hn : 0<n) (hcl:jt cells) (cM:lk L t0 = .sl 0 0 m z) (hm : 0<m)
 (hX:X.map (AV.cx (qz 1))=X) (hY:Y.map (AV.cx (qz 1))=Y) (hL:∀ t,(lk L t).cx (qz 1)=lk L t)
 (hh:ew B nt L (ay [some (.row (X++AV.sl 1 0 n sz::Y) 0 0 et),some (.row cells 0 0 ey)]) g a w) :
 ∃ v b g',ew B nt L (ay [some (.row (X++AV.sc v::Y) 0 0 et)]) g' a w/\iu B g' (ay [some (.row (X++AV.sc v::Y) 0 0 et)]) w cells ey n sz v b /\
  ∀ cs e2 n2 cE v2 b2,jt cs->iu B g (ay [some (.row (X++AV.sl 1 0 n sz::Y) 0 0 et),some (.row cells 0 0 ey)]) w cs e2 n2 cE v2 b2->b2≠b/\iu B g' (ay [some (.row (X++AV.sc v::Y) 0 0 et)]) w cs e2 n2 cE v2 b2:=by
 have hlen:∀ x y:Option bk,[x,y].length<=cz:=fun x y=>by simp [cz]
 obtain ⟨st,hst⟩:∃ st,st=ay [some (.row (X++AV.sl 1 0 n sz::Y) 0 0 et),some (.row cells 0 0 ey)]:=⟨_,rfl⟩;have g1:st.h.get 0=some (.row (X++AV.sl 1 0 n sz::Y) 0 0 et):=by rw [hst,si _ _ (hlen _ _)];rfl
 have g2:st.h.get 1=some (.row cells 0 0 ey):=by rw [hst,si _ _ (hlen _ _)];rfl
 have gx:∀ o,st.h.get o=if o=0 then some (.row (X++AV.sl 1 0 n sz::Y) 0 0 et) else if o=1 then some (.row cells 0 0 ey) else none:=fun o=>by
  rw [hst,si _ _ (hlen _ _)]
  match o with
  |0=>rfl
  |1=>rfl
  |o+2=>simp
 have bN:st.nx=2:=by rw [hst];rfl
 rw [<- hst] at hh ⊢;have hi:∃ p,g.inj 0=some p:=by
  have:=hh.sl.2 t0;rw [cM] at this;generalize a.tmps.getD t0 undef=u at this;cases this with
  |sl _ _ _ _ b base cap hi=>exact ⟨_,hi⟩
  |ug=>omega
  |uw=>omega
 have l1 : 0<=cz:=zzb _;have l2 : 1<=cz:=by simp [cz]
 obtain ⟨pa,gZ,hv2⟩:=hh.pa g1 hi;have aV:X.length<pa.length:=by rw [hv2.1];simp
 obtain ⟨v,hv⟩:∃ v,pa[X.length]? = some v:=⟨_,zh aV⟩;have sI:Rel g w (.sl 1 0 n sz) v:=hv2.2 X.length _ v (by rw [zzd (zza _),Nat.sub_self];rfl) hv;have hv3:bz g w (X++AV.sc v::Y) pa:=F0 hv2 (fun u hu=>by rw [hv] at hu;cases hu;exact .sc _);have H1:=hh.G7 l1 g1 gZ hv2 hv3;obtain ⟨fg,bM⟩:∃ fg,fg = { st with h:=Tr.set depth st.h 0 (some (bk.row (X++AV.sc v::Y) 0 0 et)) }:=⟨_,rfl⟩;rw [<- bM] at H1;have jA:∀ o,fg.h.get o=if o=0 then some (.row (X++AV.sc v::Y) 0 0 et) else st.h.get o:=fun o=>by rw [bM];exact gp _ _ _ _ l1
 have uW:fg.h.get 1=some (.row cells 0 0 ey):=by rw [jA,if_neg zO,g2]
 obtain ⟨b,H2,O2,vF⟩:=H1.release hO l2 uW hn sI;have fO:∀ o,(fg.less 1).h.get o=if o=1 then none else fg.h.get o:=fun o=>gp _ _ _ _ l2
 have mU:∀ o,(fg.less 1).h.get o=(ay [some (.row (X++AV.sc v::Y) 0 0 et)]).h.get o:=fun o=>by
  rw [fO,jA,gx,si _ _ (by simp [cz])]
  match o with
  |0=>rfl
  |1=>rfl
  |o+2=>simp
 have lW:(fg.less 1).nx=2:=by rw [show (fg.less 1).nx=fg.nx from rfl,bM];exact bN
 obtain ⟨H3,vE⟩:=H2.cut (m:=1) aF (by rw [lW];omega) zO hL (fun o x hx=>by
  rw [mU,si _ _ (by simp [cz])] at hx
  match o with
  |0=>
   have:some (bk.row (X++AV.sc v::Y) 0 0 et)=some x:=hx;cases this;refine ⟨zO,?_⟩;simp only [bk.cx,kr,zzw,List.map_cons,hX,hY];rfl
  |o+1=>simp at hx)
 have H4:=H3.congr (st':=ay [some (.row (X++AV.sc v::Y) 0 0 et)]) rfl (fun o=>(mU o).symm);have gW:∀ {cs e2 n2 cE v2 b2},jt cs->iu B g (fg.less 1) w cs e2 n2 cE v2 b2->iu B (g.cx (ff 0 1)) (ay [some (.row (X++AV.sc v::Y) 0 0 et)]) w cs e2 n2 cE v2 b2:=fun hc ho=>by have h1:=ho.move (g':=g.cx (ff 0 1)) (st':=fg.less 1) hc rfl (fun _ _ h=>h) (fun _ h=>h) (vE _ ho.un);exact h1.congr (fun o=>(mU o).symm)
 refine ⟨v,b,_,H4,?_,fun cs e2 n2 cE v2 b2 hc ho=>?_⟩
 ·exact gW hcl O2
 ·have hu:=(vF b2 (ho.Dc l1 g1 bM).un);have ho1:iu B g (fg.less 1) w cs e2 n2 cE v2 b2:=(ho.Dc l1 g1 bM).move hc rfl (fun _ _ h=>h) (fun _ h=>h) hu.2;exact ⟨hu.1,gW hc ho1⟩
theorem aE3 {B:dz} {nt L g a w} {X Y:List AV} {cells:List AV} {et ey:TypeId} {n sz m z t0:Nat} {v:Value} {b:Nat} (aF:B.iw) (cM:lk L t0 = .sl 0 0 m z) (hm : 0<m)
 (hh:ew B nt L (ay [some (.row (X++AV.sc v::Y) 0 0 et)]) g a w) (ho:iu B g (ay [some (.row (X++AV.sc v::Y) 0 0 et)]) w cells ey n sz v b) :
 ∃ g',ew B nt L (ay [some (.row (X++AV.sl 1 0 n sz::Y) 0 0 et),some (.row cells 0 0 ey)]) g' a w /\
  ∀ cs e2 n2 cE v2 b2,jt cs->b2≠b->iu B g (ay [some (.row (X++AV.sc v::Y) 0 0 et)]) w cs e2 n2 cE v2 b2->iu B g' (ay [some (.row (X++AV.sl 1 0 n sz::Y) 0 0 et),some (.row cells 0 0 ey)]) w cs e2 n2 cE v2 b2:=by
 obtain ⟨st,hst⟩:∃ st,st=ay [some (.row (X++AV.sc v::Y) 0 0 et)]:=⟨_,rfl⟩;have gx:∀ o,st.h.get o=if o=0 then some (.row (X++AV.sc v::Y) 0 0 et) else none:=fun o=>by
  rw [hst,si _ _ (by simp [cz])]
  match o with
  |0=>rfl
  |o+1=>simp
 have bN:st.nx=1:=by rw [hst];rfl
 have l1 : 0<=cz:=zzb _;have l2 : 1<=cz:=by simp [cz]
 rw [<- hst] at hh ho ⊢;obtain ⟨g',H1,hr,hx,hK,hu,aO⟩:=hh.focus aF (by rw [bN];exact l2) ho;have hi:∃ p,g'.inj 0=some p:=by
  have:=H1.sl.2 t0;rw [cM] at this;generalize a.tmps.getD t0 undef=u at this;cases this with
  |sl _ _ _ _ b base cap hi=>exact ⟨_,hi⟩
  |ug=>omega
  |uw=>omega
 obtain ⟨fg,bM⟩:∃ fg,fg=st.more (.row cells 0 0 ey):=⟨_,rfl⟩;rw [<- bM] at H1 hu;rw [bN] at hr;have jA:∀ o,fg.h.get o=if o=1 then some (.row cells 0 0 ey) else st.h.get o:=fun o=>by rw [bM];show (Tr.set depth st.h st.nx _).get o=_;rw [bN];exact gp _ _ _ _ l2
 have g1:fg.h.get 0=some (.row (X++AV.sc v::Y) 0 0 et):=by rw [jA,gx];rfl
 obtain ⟨pa,gZ,hv2⟩:=H1.pa g1 hi;have hv3:bz g' w (X++AV.sl 1 0 n sz::Y) pa:=F0 hv2 (fun u hu=>by have:=hv2.2 X.length _ u (by rw [zzd (zza _),Nat.sub_self];rfl) hu;have:=this.exact (x:=v) rfl;subst this;exact hr)
 have H2:=H1.G7 l1 g1 gZ hv2 hv3;obtain ⟨cO,bL⟩:∃ cO,cO = { fg with h:=Tr.set depth fg.h 0 (some (bk.row (X++AV.sl 1 0 n sz::Y) 0 0 et)) }:=⟨_,rfl⟩;rw [<- bL] at H2;have fO:∀ o,(ay [some (.row (X++AV.sl 1 0 n sz::Y) 0 0 et),some (.row cells 0 0 ey)]).h.get o=cO.h.get o:=fun o=>by
  have:cO.h.get o=if o=0 then some (.row (X++AV.sl 1 0 n sz::Y) 0 0 et) else fg.h.get o:=by rw [bL];exact gp _ _ _ _ l1
  rw [this,jA,gx,si _ _ (by simp [cz])]
  match o with
  |0=>rfl
  |1=>rfl
  |o+2=>simp
 have fA:cO.nx=2:=by rw [bL];show fg.nx=2;rw [bM];show st.nx+1=2;rw [bN]
 refine ⟨g',H2.congr fA.symm fO,fun cs e2 n2 cE v2 b2 hc hne h2=>?_⟩;have q1:=h2.move (g':=g') (st':=fg) hc hx.b0 hx.K (fun j hj=>hK _ j hj) (hu b2 h2.un hne);exact (q1.Dc l1 g1 bL).congr fO
theorem aIv {B:dz} {nt L g a w} {X Y es:List AV} {et ey:TypeId} {n sz m z t0:Nat} {v:Value} {b:Nat} (lF:TK.sz ey=some sz) (hz1:sz≠1) (cM:lk L t0 = .sl 0 0 m z) (hm : 0<m) (hcl:jt (es.flatMap AV.cells)) (hsz:∀ e ∈ es,e.cells.length=sz) (hn:es.length=n)
 (hh:ew B nt L (ay [some (.row (X++AV.sc v::Y) 0 0 et)]) g a w) (ho:iu B g (ay [some (.row (X++AV.sc v::Y) 0 0 et)]) w (es.flatMap AV.cells) ey n sz v b) :
 ∃ g',ew B nt L (ay [some (.row (X++AV.vl true sz es::Y) 0 0 et)]) g' a w /\
  ∀ cs e2 n2 cE v2 b2,jt cs->b2≠b->iu B g (ay [some (.row (X++AV.sc v::Y) 0 0 et)]) w cs e2 n2 cE v2 b2->iu B g' (ay [some (.row (X++AV.vl true sz es::Y) 0 0 et)]) w cs e2 n2 cE v2 b2:=by
 obtain ⟨st,hst⟩:∃ st,st=ay [some (.row (X++AV.sc v::Y) 0 0 et)]:=⟨_,rfl⟩;have gx:∀ o,st.h.get o=if o=0 then some (.row (X++AV.sc v::Y) 0 0 et) else none:=fun o=>by
  rw [hst,si _ _ (by simp [cz])]
  match o with
  |0=>rfl
  |o+1=>simp
 have bN:st.nx=1:=by rw [hst];rfl
 have l1 : 0<=cz:=zzb _;rw [<- hst] at hh ho ⊢;obtain ⟨g',H1,hr,hx,aO,hK⟩:=hh.freeze lF hz1 hcl hsz hn ho;have hi:∃ p,g'.inj 0=some p:=by
  have:=H1.sl.2 t0;rw [cM] at this;generalize a.tmps.getD t0 undef=u at this;cases this with
  |sl _ _ _ _ b base cap hi=>exact ⟨_,hi⟩
  |ug=>omega
  |uw=>omega
 have g1:st.h.get 0=some (.row (X++AV.sc v::Y) 0 0 et):=by rw [gx];rfl
 obtain ⟨pa,gZ,hv2⟩:=H1.pa g1 hi;have hv3:bz g' w (X++AV.vl true sz es::Y) pa:=F0 hv2 (fun u hu=>by have:=hv2.2 X.length _ u (by rw [zzd (zza _),Nat.sub_self];rfl) hu;have:=this.exact (x:=v) rfl;subst this;exact hr)
 have H2:=H1.G7 l1 g1 gZ hv2 hv3;obtain ⟨cO,bL⟩:∃ cO,cO = { st with h:=Tr.set depth st.h 0 (some (bk.row (X++AV.vl true sz es::Y) 0 0 et)) }:=⟨_,rfl⟩;rw [<- bL] at H2;have fO:∀ o,(ay [some (.row (X++AV.vl true sz es::Y) 0 0 et)]).h.get o=cO.h.get o:=fun o=>by
  have:cO.h.get o=if o=0 then some (.row (X++AV.vl true sz es::Y) 0 0 et) else st.h.get o:=by rw [bL];exact gp _ _ _ _ l1
  rw [this,gx,si _ _ (by simp [cz])]
  match o with
  |0=>rfl
  |o+1=>simp
 have fA:cO.nx=1:=by rw [bL];exact bN
 refine ⟨g',H2.congr fA.symm fO,fun cs e2 n2 cE v2 b2 hc hne h2=>?_⟩;have q1:=h2.move (g':=g') (st':=st) hc hx.b0 hx.K (fun j hj=>hK _ j hne hj) (fun o base h3 h4=>h2.un o base h3 (by rw [<- aO];exact h4));exact (q1.Dc l1 g1 bL).congr fO
end
end Go.Vm
section
namespace Go.Proofs.YtjagjbceegbaiaaGreat
open Go.Vm
structure Iw (L:List aw) (c:List AV):Prop where
 len:c.length=L.length * 5
 own:∀ (j:Nat) s,L[j]? = some s->c[j * 5]? = some (zt s.owner)/\c[j * 5+1]? = some (.sc (.int .u16 s.type.toNat))/\c[j * 5+2]? = some (.sc (.int .u16 s.cls.toNat))
set_option maxHeartbeats 1000000 in
theorem aC8 (L:List aw) (c:List AV) (hc:Iw L c) (dZ:AV.names.go c=[]) (hcr:∀ τ,c.map (AV.cx τ)=c) (fr:Bool) (n:Name) (t k:UInt16) (hl:L.length<=1048576) (hL:∀ s ∈ L,bj s.owner) (hn:bj n) :
 iz PP 124 [.sl 0 0 L.length 5,.vl fr 1 (n.map (ah.val false)),.sc (.int .u16 t.toNat),.sc (.int .u16 k.toNat)] (ay [some (.row (c) 0 0 63)])
 (fun r st'=>r = zi (atR n t k L 0)/\st'=ay [some (.row (c) 0 0 63)]):=by
 have l0:∀ i s,L[i]? = some s->∀ kk st et,jk PP 23 (i * 5) (.row c kk st et) = .pure (zt s.owner):=fun i s hs kk st et=>ko zK (hc.own i s hs).1 kk st et
 have l1:∀ i s,L[i]? = some s->∀ kk st et,jk PP 50 (i * 5+1) (.row c kk st et) = .pure (.sc (.int .u16 s.type.toNat)):=fun i s hs kk st et=>ko zK (hc.own i s hs).2.1 kk st et
 have l2:∀ i s,L[i]? = some s->∀ kk st et,jk PP 59 (i * 5+2) (.row c kk st et) = .pure (.sc (.int .u16 s.cls.toNat)):=fun i s hs kk st et=>ko zK (hc.own i s hs).2.2 kk st et
 refine dr _ rfl ?_ (fun r st' h=>h);refine cb (T:=[sd]) (ak.cons (aq yk) (ak.nil PP)) mixed Tryz.func124 rfl zK zK zK zK ?_;unfold Tryz.f124;simp only [↓wR,zT,simprocAttr];refine da [0,1,2,3,9] (fun (i:Nat)=>[.sl 0 0 L.length 5,.vl fr 1 (n.map (ah.val false)),.sc (.int .u16 t.toNat),.sc (.int .u16 k.toNat),zi i]) (fun _=>[some (.row (c) 0 0 63)]) (fun i=>i<=L.length/\atR n t k L 0=atR n t k (L.drop i) i) (fun i=>L.length - i) 0 ⟨zzb _,rfl⟩ (by simp only [↓wR,zT,simprocAttr,dZ,hcr]<;>rfl) (by simp only [↓wR,zT,simprocAttr,dZ,hcr]<;>rfl) ?_;rintro i ⟨hi,hx⟩;simp only [↓wR,zT,simprocAttr];rw [az];refine ⟨fun h=>?_,fun h=>?_⟩
 ·obtain ⟨s,hs,aH,hlt⟩:=fi (zp h);rw [aAg aH] at hx;have gD:=hL s (zm hs);have m0:=l0 i s hs;have m1:=l1 i s hs;have m2:=l2 i s hs;simp only [↓wR,zT,simprocAttr,h,hlt,↓m0,↓m1,↓m2];rw [cp];refine ⟨fun ⟨h1,e1⟩=>?_,fun ⟨h1,e1⟩=>?_⟩
  ·simp only [↓wR,zT,simprocAttr,h1,hlt,↓m0,↓m1,↓m2];rw [cp];refine ⟨fun ⟨h2,e2⟩=>?_,fun ⟨h2,e2⟩=>?_⟩
   ·simp only [↓wR,zT,simprocAttr,h2,hlt,↓m0,↓m1,↓m2,Bf,gD,hn];rw [dv];refine ⟨fun h3=>?_,fun h3=>?_⟩
    ·have hp:Da n t k s=true:=by simp [Da,e1,e2,h3]
     rw [if_pos hp] at hx;rw [hx];simp only [↓wR,zT,simprocAttr,h3,i4,ir,ig,dZ,hcr]
    ·have hp:Da n t k s=false:=by simp [Da,h3]
     rw [hp,if_neg (by decide)] at hx
     repeat (first|simp only [↓wR,zT,simprocAttr,h3,dZ,hcr]|simp (disch:=omega) only [zW])
     exact ⟨i+1,⟨hlt,hx⟩,zO,zF⟩
   ·have hp:Da n t k s=false:=by simp [Da,e2]
    rw [hp,if_neg (by decide)] at hx
    repeat (first|simp only [↓wR,zT,simprocAttr,h2,dZ,hcr]|simp (disch:=omega) only [zW])
    exact ⟨i+1,⟨hlt,hx⟩,zO,zF⟩
  ·have hp:Da n t k s=false:=by simp [Da,e1]
   rw [hp,if_neg (by decide)] at hx
   repeat (first|simp only [↓wR,zT,simprocAttr,h1,dZ,hcr]|simp (disch:=omega) only [zW])
   exact ⟨i+1,⟨hlt,hx⟩,zO,zF⟩
 ·rw [gz (zq h)] at hx;rw [hx];simp only [↓wR,zT,simprocAttr,h,i4,ir,ig,dZ,hcr]
  try rfl
set_option maxHeartbeats 1000000 in
theorem Xf (L:List aw) (c:List AV) (hc:Iw L c) (X Y:List AV) (a0 a1 a2 a3:AV) (m:Nat) (d:List bp) (he:c=X++a0::a1::a2::a3 :: .sl 1 0 m 4::Y) (dZ:AV.names.go c=[1]) (hcr:∀ τ,τ 1=some 1->c.map (AV.cx τ)=c) (fr:Bool) (n:Name) (t k:UInt16) (hl:L.length<=1048576) (hL:∀ s ∈ L,bj s.owner) (hn:bj n) :
 iz PP 124 [.sl 0 0 L.length 5,.vl fr 1 (n.map (ah.val false)),.sc (.int .u16 t.toNat),.sc (.int .u16 k.toNat)] (ay [some (.row (c) 0 0 63),some (.row (cellsOf ai true (d)) 0 0 116)])
 (fun r st'=>r = zi (atR n t k L 0)/\st'=ay [some (.row (c) 0 0 63),some (.row (cellsOf ai true (d)) 0 0 116)]):=by
 have l0:∀ i s,L[i]? = some s->∀ kk st et,jk PP 23 (i * 5) (.row c kk st et) = .pure (zt s.owner):=fun i s hs kk st et=>ko zK (hc.own i s hs).1 kk st et
 have l1:∀ i s,L[i]? = some s->∀ kk st et,jk PP 50 (i * 5+1) (.row c kk st et) = .pure (.sc (.int .u16 s.type.toNat)):=fun i s hs kk st et=>ko zK (hc.own i s hs).2.1 kk st et
 have l2:∀ i s,L[i]? = some s->∀ kk st et,jk PP 59 (i * 5+2) (.row c kk st et) = .pure (.sc (.int .u16 s.cls.toNat)):=fun i s hs kk st et=>ko zK (hc.own i s hs).2.2 kk st et
 refine dr _ rfl ?_ (fun r st' h=>h);refine cb (T:=[sd]) (ak.cons (aq yk) (ak.nil PP)) mixed Tryz.func124 rfl zK zK zK zK ?_;unfold Tryz.f124;simp only [↓wR,zT,simprocAttr];refine da [0,1,2,3,9] (fun (i:Nat)=>[.sl 0 0 L.length 5,.vl fr 1 (n.map (ah.val false)),.sc (.int .u16 t.toNat),.sc (.int .u16 k.toNat),zi i]) (fun _=>[some (.row (c) 0 0 63),some (.row (cellsOf ai true (d)) 0 0 116)]) (fun i=>i<=L.length/\atR n t k L 0=atR n t k (L.drop i) i) (fun i=>L.length - i) 0 ⟨zzb _,rfl⟩ (by simp only [↓wR,zT,simprocAttr,dZ,hcr]<;>rfl) (by simp only [↓wR,zT,simprocAttr,dZ,hcr]<;>rfl) ?_;rintro i ⟨hi,hx⟩;simp only [↓wR,zT,simprocAttr];rw [az];refine ⟨fun h=>?_,fun h=>?_⟩
 ·obtain ⟨s,hs,aH,hlt⟩:=fi (zp h);rw [aAg aH] at hx;have gD:=hL s (zm hs);have m0:=l0 i s hs;have m1:=l1 i s hs;have m2:=l2 i s hs;simp only [↓wR,zT,simprocAttr,h,hlt,↓m0,↓m1,↓m2];rw [cp];refine ⟨fun ⟨h1,e1⟩=>?_,fun ⟨h1,e1⟩=>?_⟩
  ·simp only [↓wR,zT,simprocAttr,h1,hlt,↓m0,↓m1,↓m2];rw [cp];refine ⟨fun ⟨h2,e2⟩=>?_,fun ⟨h2,e2⟩=>?_⟩
   ·simp only [↓wR,zT,simprocAttr,h2,hlt,↓m0,↓m1,↓m2,Bf,gD,hn];rw [dv];refine ⟨fun h3=>?_,fun h3=>?_⟩
    ·have hp:Da n t k s=true:=by simp [Da,e1,e2,h3]
     rw [if_pos hp] at hx;rw [hx];simp only [↓wR,zT,simprocAttr,h3,i4,ir,ig,dZ,hcr]
    ·have hp:Da n t k s=false:=by simp [Da,h3]
     rw [hp,if_neg (by decide)] at hx
     repeat (first|simp only [↓wR,zT,simprocAttr,h3,dZ,hcr]|simp (disch:=omega) only [zW])
     exact ⟨i+1,⟨hlt,hx⟩,zO,zF⟩
   ·have hp:Da n t k s=false:=by simp [Da,e2]
    rw [hp,if_neg (by decide)] at hx
    repeat (first|simp only [↓wR,zT,simprocAttr,h2,dZ,hcr]|simp (disch:=omega) only [zW])
    exact ⟨i+1,⟨hlt,hx⟩,zO,zF⟩
  ·have hp:Da n t k s=false:=by simp [Da,e1]
   rw [hp,if_neg (by decide)] at hx
   repeat (first|simp only [↓wR,zT,simprocAttr,h1,dZ,hcr]|simp (disch:=omega) only [zW])
   exact ⟨i+1,⟨hlt,hx⟩,zO,zF⟩
 ·rw [gz (zq h)] at hx;rw [hx];simp only [↓wR,zT,simprocAttr,h,i4,ir,ig,dZ,hcr]
  try rfl
theorem aEv (m p:Nat) (q:List dt) (t:Nat):(lk (fm [4,5,15,16,17] [.mp 0,.sl 1 0 (m) 5,zr q,zi ((q).length),zi p]) t).cx (qz 2)=lk (fm [4,5,15,16,17] [.mp 0,.sl 1 0 (m) 5,zr q,zi ((q).length),zi p]) t:=by
 have hv:(zr q).cx (qz 2) = zr q:=I0 (bw bu) (qz 2) false q;simp only [fm,pq]
 split
 ·rfl
 split
 ·rfl
 split
 ·exact hv
 split
 ·rfl
 split
 ·rfl
 ·rfl
structure OAt (B:dz) (q:List dt) (p:Nat) (L:List aw) (vs:List Value) (bs:List Nat) (g:Gh) (a:Act) (w:World):Prop where
 here:ew B Tryz.f68.ntmps (fm [4,5,15,16,17] [.mp 0,.sl 1 0 ((L.map ef).length) 5,zr q,zi ((q).length),zi p]) (ay [some (.map (ij 0 ((L).map ef))),some (.row (dh (L) (vs)) 0 0 63)]) g a w
 lv:vs.length=L.length
 lb:bs.length=L.length
 nd:∀ (j k:Nat) b,j≠k->bs[j]? = some b->bs[k]? ≠ some b
 own:∀ (j:Nat) s v b,L[j]? = some s->vs[j]? = some v->bs[j]? = some b->iu B g (ay [some (.map (ij 0 ((L).map ef))),some (.row (dh (L) (vs)) 0 0 63)]) w (cellsOf ai true s.data) 116 s.data.length 4 v b
theorem aic {B:dz} (aF:B.iw) (hp:B.bg=0) (hO:∀ b,¬ B.O b) {q:List dt} {p:Nat} {L:List aw} {vs:List Value} {bs:List Nat} {i:Nat} {s:aw} {g:Gh} {a:Act} {w:World} (hs:L[i]? = some s) (hn : 0<s.data.length) (hlv:vs.length=L.length) (fC:bs.length=L.length)
 (hh:ew B Tryz.f68.ntmps (fm [4,5,15,16,17] [.mp 0,.sl 1 0 ((L.map ef).length) 5,zr q,zi ((q).length),zi p]) (ay [some (.map (ij 0 (L.map ef))),some (.row (dh (L.take i) (vs.take i)++zt s.owner :: .sc (.int .u16 s.type.toNat) :: .sc (.int .u16 s.cls.toNat) :: .sc (.int .u32 s.b9.toNat) :: .sl 2 0 s.data.length 4::dh (L.drop (i+1)) (vs.drop (i+1))) 0 0 63),some (.row (cellsOf ai true (s.data)) 0 0 116)]) g a w)
 (cR:∀ (j k:Nat) b,j≠i->k≠i->j≠k->bs[j]? = some b->bs[k]? ≠ some b)
 (hown:∀ (j:Nat) s2 v b,j≠i->L[j]? = some s2->vs[j]? = some v->bs[j]? = some b->iu B g (ay [some (.map (ij 0 (L.map ef))),some (.row (dh (L.take i) (vs.take i)++zt s.owner :: .sc (.int .u16 s.type.toNat) :: .sc (.int .u16 s.cls.toNat) :: .sc (.int .u32 s.b9.toNat) :: .sl 2 0 s.data.length 4::dh (L.drop (i+1)) (vs.drop (i+1))) 0 0 63),some (.row (cellsOf ai true (s.data)) 0 0 116)]) w (cellsOf ai true s2.data) 116 s2.data.length 4 v b) :
 ∃ vs' dV g',OAt B q p L vs' dV g' a w:=by
 obtain ⟨hi,gF⟩:=zg.1 hs;have e1:∀ x:AV,dh (L.take i) (vs.take i)++zt s.owner :: .sc (.int .u16 s.type.toNat) :: .sc (.int .u16 s.cls.toNat) :: .sc (.int .u32 s.b9.toNat)::x::dh (L.drop (i+1)) (vs.drop (i+1))=(dh (L.take i) (vs.take i)++[zt s.owner,.sc (.int .u16 s.type.toNat),.sc (.int .u16 s.cls.toNat),.sc (.int .u32 s.b9.toNat)])++x::dh (L.drop (i+1)) (vs.drop (i+1)):=fun x=>by rw [zzc];rfl
 have hcl:∀ l:List bp,jt (cellsOf ai true l):=fun l=>oq ai _ true l
 rw [e1] at hh;have hX:(dh (L.take i) (vs.take i)++[zt s.owner,.sc (.int .u16 s.type.toNat),.sc (.int .u16 s.cls.toNat),.sc (.int .u32 s.b9.toNat)]).map (AV.cx (qz 2))=dh (L.take i) (vs.take i)++[zt s.owner,.sc (.int .u16 s.type.toNat),.sc (.int .u16 s.cls.toNat),.sc (.int .u32 s.b9.toNat)]:=by rw [zzw,m7];simp only [List.map_cons,List.map_nil,Gk];rfl
 obtain ⟨v,b,g',H,O,kZ⟩:=aL2 (t0:=5) (m:=(L.map ef).length) (z:=5) aF hO hp hn (hcl s.data) rfl (by rw [zzo];omega) (by simp only [bk.cx,Ho]) hX (m7 _ _ _) (aEv _ _ _) hh;have e2:(dh (L.take i) (vs.take i)++[zt s.owner,.sc (.int .u16 s.type.toNat),.sc (.int .u16 s.cls.toNat),.sc (.int .u32 s.b9.toNat)])++AV.sc v::dh (L.drop (i+1)) (vs.drop (i+1))=dh L (vs.set i v):=by have:=W4 s v hlv hi;rw [<- gF,List.set_getElem_self] at this;rw [this,<- e1,gF];rfl
 rw [e2] at H O;refine ⟨vs.set i v,bs.set i b,g',H,by simpa using hlv,by simpa using fC,fun j k c hjk hj hk=>?_,fun j s2 v2 b2 h1 h2 h3=>?_⟩
 ·by_cases ej:j=i
  ·subst ej;rw [List.getElem?_set_self zO] at hj;cases hj;rw [zyf hjk] at hk;have dB:k<L.length:=by have:=(zg.1 hk).1;omega
   exact (kZ _ _ _ _ _ _ (hcl _) (by rw [<- e1];exact hown k L[k] vs[k] b (Ne.symm hjk) (zh dB) (zh zO) hk)).1 rfl
  ·rw [zyf (Ne.symm ej)] at hj;by_cases ek:k=i
   ·subst ek;rw [List.getElem?_set_self zO] at hk;cases hk;have fW:j<L.length:=by have:=(zg.1 hj).1;omega
    exact (kZ _ _ _ _ _ _ (hcl _) (by rw [<- e1];exact hown j L[j] vs[j] b ej (zh fW) (zh zO) hj)).1 rfl
   ·rw [zyf (Ne.symm ek)] at hk;exact cR j k c ej ek hjk hj hk
 ·by_cases ej:j=i
  ·subst ej;rw [List.getElem?_set_self zO] at h2 h3;cases h2;cases h3;rw [hs] at h1;cases h1;exact O
  ·rw [zyf (Ne.symm ej)] at h2 h3;have:=(kZ _ _ _ _ _ _ (hcl _) (by rw [<- e1];exact hown j s2 v2 b2 ej h1 h2 h3)).2;rw [e2] at this;exact this
def jb (r:dt):Nat:=ly r.data
theorem z8:ak PP [fh,ml,Bx,nc,D2,qg]:=.cons (aq u7) (.cons (aq x5) (.cons (aq ati) (.cons (aq ua) (.cons (aq ad0) (.cons (aq H8) (.nil PP))))))
theorem of_next {B:dz} {st0 st':St} {g g':Gh} {a':Act} {w w':World} {L':SL} {V:List AV} {O:List (Option bk)} (aF:B.iw) (hp:B.bg=0) (hh:ew B Tryz.f68.ntmps L' st' g' a' w') (hb:ub (lr g st0.h w B.bg (fun _=>False)) g' st'.h w')
 (hv:dq 0 [4,5,15,16,17] L' st'=V) (ho:gk 0 [4,5,15,16,17] L' st'=O):∃ g2,ew B Tryz.f68.ntmps (fm [4,5,15,16,17] V) (ay O) g2 a' w'/\∀ cs e n sz v b,jt cs->iu B g st0 w cs e n sz v b->iu B g2 (ay O) w' cs e n sz v b:=by
 have H:=hh.canon aF zO [4,5,15,16,17];rw [hp,hv,ho] at H;refine ⟨_,H,fun cs e n sz v b hcl hd=>?_⟩;have:=(hd.keep hcl hb).canon zO hcl [4,5,15,16,17] L';rw [hp,ho] at this;exact this
structure m9 (q:List dt):Prop where
 owner:∀ r ∈ q,bj r.owner
 data:dk jb q<=16777216
 len:q.length<=1048576
def Ug (B:dz) (q:List dt) (p:Nat) (x:List aw × Int) (a:Act) (w:World):Prop:=
 ∃ L vs bs g,x=fe (q.drop p) L/\L.length<=p/\(∀ s ∈ L,0<s.data.length/\dk ly s.data<=dk jb (q.take p))/\OAt B q p L vs bs g a w
theorem aox {B:dz} (aF:B.iw) (hp:B.bg=0) (hO:∀ b,¬ B.O b) (aL:B.n0<=B.w.heap.size) {q:List dt} (hq:m9 q) {p:Nat} {r:dt} (hr:q[p]? = some r) {L:List aw} {vs:List Value} {bs:List Nat} {g:Gh} {a:Act} {w:World}
 (h:OAt B q p L vs bs g a w) (iZ:L.length<=p) (hw:∀ s ∈ L,0<s.data.length/\dk ly s.data<=dk jb (q.take p)) (h1:cg r.owner=0) (h2:c8 r.type r.data=0) (hk:ln (jf r) 0 (L.map ef)=none) :
 ofBody.wpIn (fw none) 0 PP (fun ex a' w'=>ex = .normal/\Ug B q (p+1) (fe (q.drop p) L) a' w') a w:=by
 have hlt:p<q.length:=(zg.1 hr).1;have cN:=zm hr;have lL:jb r<dk jb q:=u3 cN;have eH:=hq.len;have iH:=hq.data;have hd:ca r.data:=by unfold ca;unfold jb at lL iH;unfold jb at *;omega
 have bK:q.drop p=r::q.drop (p+1):=by rw [zzs hlt];obtain ⟨_,e⟩:=zg.1 hr;rw [e]
 have cX:q.take (p+1)=q.take p++[r]:=jg hr;have hwt:dk jb (q.take (p+1))=dk jb (q.take p)+(ly r.data+0+1):=by rw [cX,ux];rfl
 have hmap:(L.map ef).length=L.length:=by rw [zzo]
 have hstep:=aIu q p r hr (L.map ef) (dh L vs) (by rw [A0 _ _ h.lv,hmap]) (m8 _ _) (fun τ=>m7 τ _ _) hk (hq.owner r cN) hd h1 h2 zO eH;refine wpIn_mono (piece z8 zK aF zO aL zK (by rw [hp];exact hstep) h.here) ?_;rintro ex a' w' ⟨e,L',st',g',rfl,hQ,bH,hb⟩;cases e with
 |ret=>exact hQ.elim
 |exit id=>exact hQ.elim
 |normal=>
  obtain ⟨e1,e2⟩:=hQ;obtain ⟨g2,H,keep⟩:=of_next aF hp bH hb e1 e2;have hcl:∀ l:List bp,jt (cellsOf ai true l):=fun l=>oq ai _ true l
  have hs1:(L++[k6 r.owner r.type r.cls r.b9 [r.data]])[L.length]? = some (k6 r.owner r.type r.cls r.b9 [r.data]):=by rw [zzd (zza _),Nat.sub_self];rfl
  have lZ:(L++[k6 r.owner r.type r.cls r.b9 [r.data]]).map ef=L.map ef++[jf r]:=by rw [zzw];rfl
  have t1:(L++[k6 r.owner r.type r.cls r.b9 [r.data]]).take L.length=L:=List.take_left' rfl;have t2:(vs++[undef]).take L.length=vs:=List.take_left' h.lv;have t3:(L++[k6 r.owner r.type r.cls r.b9 [r.data]]).drop (L.length+1)=[]:=zzx (by simp);have iY:(ay [some (.map (ij 0 ((L++[k6 r.owner r.type r.cls r.b9 [r.data]]).map ef))),some (.row (dh ((L++[k6 r.owner r.type r.cls r.b9 [r.data]]).take L.length) ((vs++[undef]).take L.length) ++ zt r.owner :: .sc (.int .u16 r.type.toNat) :: .sc (.int .u16 r.cls.toNat) :: .sc (.int .u32 r.b9.toNat) :: .sl 2 0 1 4::dh ((L++[k6 r.owner r.type r.cls r.b9 [r.data]]).drop (L.length+1)) ((vs++[undef]).drop (L.length+1))) 0 0 63),some (.row (cellsOf ai true ([r.data])) 0 0 116)]) =
   ay [some (.map (ij 0 (L.map ef++[jf r]))),some (.row (dh L vs++[zt r.owner,.sc (.int .u16 r.type.toNat),.sc (.int .u16 r.cls.toNat),.sc (.int .u32 r.b9.toNat),.sl 2 0 1 4]) 0 0 63),some (.row (cellsOf ai true ([r.data])) 0 0 116)]:=by
   rw [lZ,t1,t2,t3];rfl
  have fC:=h.lb;have hlv:=h.lv;obtain ⟨vs',dV,g3,hat⟩:=aic (i:=L.length) (L:=L++[k6 r.owner r.type r.cls r.b9 [r.data]]) (vs:=vs++[undef]) (bs:=bs++[0]) aF hp hO hs1 (by show 0<1;omega) (by simp [hlv]) (by simp [fC]) (g:=g2) (a:=a') (w:=w') (q:=q) (p:=p+1)
   (by
    have e3:((L++[k6 r.owner r.type r.cls r.b9 [r.data]]).map ef).length=(L.map ef).length+1:=by rw [lZ,za];rfl
    rw [e3];exact (congrArg (fun x=>ew B Tryz.f68.ntmps (fm [4,5,15,16,17] [.mp 0,.sl 1 0 ((L.map ef).length+1) 5,zr q,zi ((q).length),zi (p+1)]) x g2 a' w') iY).mpr H)
   (fun j k b hj hk hjk h5 h6=>by
    have hj':j<bs.length:=by have:=(zg.1 h5).1;simp at this;omega
    have fV:k<bs.length:=by have:=(zg.1 h6).1;simp at this;omega
    rw [zzi hj'] at h5;rw [zzi fV] at h6;exact h.nd j k b hjk h5 h6)
   (fun j s2 v b hj h5 h6 h7=>by
    have hj':j<bs.length:=by have:=(zg.1 h7).1;simp at this;omega
    rw [zzi zO] at h5 h6 h7;exact (congrArg (fun x=>iu B g2 x w' (cellsOf ai true s2.data) 116 s2.data.length 4 v b) iY).mpr (keep _ _ _ _ _ _ (hcl _) (h.own j s2 v b h5 h6 h7)))
  refine ⟨rfl,_,vs',dV,g3,?_,by simp;omega,fun s hs=>?_,hat⟩
  ·rw [bK,fe,if_neg (by rw [h1];simp),if_neg (by rw [h2];simp),hk]
  ·rcases zzq.1 hs with q1|q1
   ·have:=hw s q1;exact ⟨this.1,zO⟩
   ·simp only [zz0] at q1;subst q1;refine ⟨by show 0<1;omega,?_⟩;show ly r.data+0+1<=_;omega
theorem aim {L:List aw} {i:Nat} {s':aw} (hi:i<L.length):(L.set i s').take i=L.take i/\(L.set i s').drop (i+1)=L.drop (i+1)/\(L.set i s')[i]? = some s':=by
 refine ⟨?_,?_,List.getElem?_set_self hi⟩
 ·rw [List.set_eq_take_append_cons_drop,if_pos hi,List.take_left' (by simp;omega)]
 ·rw [List.set_eq_take_append_cons_drop,if_pos hi,List.drop_append,zzx (by simp;omega)];have:i+1 - (L.take i).length=1:=by simp;omega
  rw [this];rfl
theorem aGw {B:dz} (aF:B.iw) {q:List dt} {p:Nat} {L:List aw} {vs:List Value} {bs:List Nat} {g:Gh} {a:Act} {w:World} {i:Nat} {s:aw} (h:OAt B q p L vs bs g a w) (hs:L[i]? = some s) :
 ∃ g',ew B Tryz.f68.ntmps (fm [4,5,15,16,17] [.mp 0,.sl 1 0 ((L.map ef).length) 5,zr q,zi ((q).length),zi p]) (ay [some (.map (ij 0 (L.map ef))),some (.row (dh ((L).take (i)) ((vs).take (i))++zt s.owner :: .sc (.int .u16 s.type.toNat) :: .sc (.int .u16 s.cls.toNat) :: .sc (.int .u32 (s.b9).toNat) :: .sl 2 0 (s.data.length) 4::dh ((L).drop ((i)+1)) ((vs).drop ((i)+1))) 0 0 63),some (.row (cellsOf ai true (s.data)) 0 0 116)]) g' a w /\
  ∀ (j:Nat) s2 v b,j≠i->L[j]? = some s2->vs[j]? = some v->bs[j]? = some b->iu B g' (ay [some (.map (ij 0 (L.map ef))),some (.row (dh ((L).take (i)) ((vs).take (i))++zt s.owner :: .sc (.int .u16 s.type.toNat) :: .sc (.int .u16 s.cls.toNat) :: .sc (.int .u32 (s.b9).toNat) :: .sl 2 0 (s.data.length) 4::dh ((L).drop ((i)+1)) ((vs).drop ((i)+1))) 0 0 63),some (.row (cellsOf ai true (s.data)) 0 0 116)]) w (cellsOf ai true s2.data) 116 s2.data.length 4 v b:=by
 obtain ⟨hi,gF⟩:=zg.1 hs;have hlv:=h.lv;have fC:=h.lb;have hv:vs[i]? = some (vs[i]'zO):=zh zO;have hb:bs[i]? = some (bs[i]'zO):=zh zO;have hcl:∀ l:List bp,jt (cellsOf ai true l):=fun l=>oq ai _ true l
 have e1:∀ x:AV,dh (L.take i) (vs.take i)++zt s.owner :: .sc (.int .u16 s.type.toNat) :: .sc (.int .u16 s.cls.toNat) :: .sc (.int .u32 s.b9.toNat)::x::dh (L.drop (i+1)) (vs.drop (i+1))=(dh (L.take i) (vs.take i)++[zt s.owner,.sc (.int .u16 s.type.toNat),.sc (.int .u16 s.cls.toNat),.sc (.int .u32 s.b9.toNat)])++x::dh (L.drop (i+1)) (vs.drop (i+1)):=fun x=>by rw [zzc];rfl
 have e2:dh L vs=(dh (L.take i) (vs.take i)++[zt s.owner,.sc (.int .u16 s.type.toNat),.sc (.int .u16 s.cls.toNat),.sc (.int .u32 s.b9.toNat)])++AV.sc (vs[i]'zO)::dh (L.drop (i+1)) (vs.drop (i+1)):=by rw [ab2 hlv hs hv,<- e1];rfl
 have H:=h.here;have O:=h.own i s _ _ hs hv hb;rw [e2] at H O;obtain ⟨g',H2,keep⟩:=aHn (t0:=5) (m:=(L.map ef).length) (z:=5) aF rfl (by rw [zzo];omega) H O;rw [<- e1] at H2;refine ⟨g',H2,fun j s2 v b hj h1 h2 h3=>?_⟩;have hne:b≠bs[i]'zO:=fun e=>h.nd j i b hj h3 (by rw [hb,e])
 have q1:=h.own j s2 v b h1 h2 h3;rw [e2] at q1;have:=keep _ _ _ _ _ _ (hcl _) hne q1;rw [<- e1] at this;exact this
theorem arh {B:dz} (aF:B.iw) (hp:B.bg=0) (hO:∀ b,¬ B.O b) {q:List dt} {p:Nat} {L:List aw} {vs:List Value} {bs:List Nat} {g0 g:Gh} {a0 a:Act} {w0 w:World} {i:Nat} {s:aw} {t:UInt32} {d:List bp} (h:OAt B q p L vs bs g0 a0 w0) (hs:L[i]? = some s) (hd : 0<d.length)
 (H:ew B Tryz.f68.ntmps (fm [4,5,15,16,17] [.mp 0,.sl 1 0 ((L.map ef).length) 5,zr q,zi ((q).length),zi (p+1)]) (ay [some (.map (ij 0 (L.map ef))),some (.row (dh ((L).take (i)) ((vs).take (i))++zt s.owner :: .sc (.int .u16 s.type.toNat) :: .sc (.int .u16 s.cls.toNat) :: .sc (.int .u32 (t).toNat) :: .sl 2 0 (d.length) 4::dh ((L).drop ((i)+1)) ((vs).drop ((i)+1))) 0 0 63),some (.row (cellsOf ai true (d)) 0 0 116)]) g a w)
 (keep:∀ (j:Nat) s2 v b,j≠i->L[j]? = some s2->vs[j]? = some v->bs[j]? = some b->iu B g (ay [some (.map (ij 0 (L.map ef))),some (.row (dh ((L).take (i)) ((vs).take (i))++zt s.owner :: .sc (.int .u16 s.type.toNat) :: .sc (.int .u16 s.cls.toNat) :: .sc (.int .u32 (t).toNat) :: .sl 2 0 (d.length) 4::dh ((L).drop ((i)+1)) ((vs).drop ((i)+1))) 0 0 63),some (.row (cellsOf ai true (d)) 0 0 116)]) w (cellsOf ai true s2.data) 116 s2.data.length 4 v b) :
 ∃ vs' dV g',OAt B q (p+1) (L.set i (k6 s.owner s.type s.cls (t) (d))) vs' dV g' a w:=by
 obtain ⟨hi,gF⟩:=zg.1 hs;obtain ⟨t1,t2,t3⟩:=aim (s':=(k6 s.owner s.type s.cls (t) (d))) hi;have hm:(L.set i (k6 s.owner s.type s.cls (t) (d))).map ef=L.map ef:=ais hs rfl;have iY:(ay [some (.map (ij 0 ((L.set i (k6 s.owner s.type s.cls (t) (d))).map ef))),some (.row (dh ((L.set i (k6 s.owner s.type s.cls (t) (d))).take i) (vs.take i)++zt s.owner :: .sc (.int .u16 s.type.toNat) :: .sc (.int .u16 s.cls.toNat) :: .sc (.int .u32 t.toNat) :: .sl 2 0 d.length 4::dh ((L.set i (k6 s.owner s.type s.cls (t) (d))).drop (i+1)) (vs.drop (i+1))) 0 0 63),some (.row (cellsOf ai true (d)) 0 0 116)])=ay [some (.map (ij 0 (L.map ef))),some (.row (dh ((L).take (i)) ((vs).take (i))++zt s.owner :: .sc (.int .u16 s.type.toNat) :: .sc (.int .u16 s.cls.toNat) :: .sc (.int .u32 (t).toNat) :: .sl 2 0 (d.length) 4::dh ((L).drop ((i)+1)) ((vs).drop ((i)+1))) 0 0 63),some (.row (cellsOf ai true (d)) 0 0 116)]:=by rw [hm,t1,t2]
 refine aic (i:=i) (vs:=vs) (bs:=bs) (g:=g) aF hp hO t3 hd (by rw [List.length_set];exact h.lv) (by rw [List.length_set];exact h.lb) ?_ (fun j k b _ _ hjk h5 h6=>h.nd j k b hjk h5 h6) (fun j s2 v b hj h5 h6 h7=>?_)
 ·rw [show ((L.set i (k6 s.owner s.type s.cls (t) (d))).map ef).length=(L.map ef).length by rw [hm]];exact (congrArg (fun x=>ew B Tryz.f68.ntmps (fm [4,5,15,16,17] [.mp 0,.sl 1 0 ((L.map ef).length) 5,zr q,zi ((q).length),zi (p+1)]) x g a w) iY).mpr H
 ·rw [zyf (Ne.symm hj)] at h5;exact (congrArg (fun x=>iu B g x w (cellsOf ai true s2.data) 116 s2.data.length 4 v b) iY).mpr (keep j s2 v b hj h5 h6 h7)
theorem apu {B:dz} (aF:B.iw) (hp:B.bg=0) (hO:∀ b,¬ B.O b) (aL:B.n0<=B.w.heap.size) {q:List dt} (hq:m9 q) {p:Nat} {r:dt} (hr:q[p]? = some r) {L:List aw} {vs:List Value} {bs:List Nat} {g:Gh} {a:Act} {w:World} {i:Nat} {s:aw}
 (h:OAt B q p L vs bs g a w) (iZ:L.length<=p) (hw:∀ s ∈ L,0<s.data.length/\dk ly s.data<=dk jb (q.take p)) (h1:cg r.owner=0) (h2:c8 r.type r.data=0) (hk:ln (jf r) 0 (L.map ef)=some i) (hs:L[i]? = some s) :
 ofBody.wpIn (fw none) 0 PP (fun ex a' w'=>(ex = .normal/\Ug B q (p+1) (fe (q.drop p) L) a' w')\/(ex = .ret/\Fin B Tryz.f68.ntmps (di PP Tryz.f68.results.toList (fun rr st=>(r2 (bw aj) (bh .i64)).get true st.h rr=some (fe (q.drop p) L))) .ret a' w')) a w:=by
 have hlt:p<q.length:=(zg.1 hr).1;have cN:=zm hr;have lL:jb r<dk jb q:=u3 cN;have eH:=hq.len;have iH:=hq.data;have hd:ca r.data:=by unfold ca;unfold jb at *;omega
 have bK:q.drop p=r::q.drop (p+1):=by rw [zzs hlt];obtain ⟨_,e⟩:=zg.1 hr;rw [e]
 have cX:q.take (p+1)=q.take p++[r]:=jg hr;have hwt:dk jb (q.take (p+1))=dk jb (q.take p)+(ly r.data+0+1):=by rw [cX,ux];rfl
 have yJ:dk jb q=dk jb (q.take p)+dk jb (q.drop p):=by rw [<- ux,zzm]
 have hmap:(L.map ef).length=L.length:=by rw [zzo]
 obtain ⟨hi,gF⟩:=zg.1 hs;have hsm:=zm hs;obtain ⟨hn,yI⟩:=hw s hsm;have bO:kg s.data:=by unfold kg;omega
 have hlv:=h.lv;have hX:(dh (L.take i) (vs.take i)).length=i * 5:=by rw [A0 _ _ (by simp;omega),zzl,Nat.min_eq_left zO]
 have hcl:∀ l:List bp,jt (cellsOf ai true l):=fun l=>oq ai _ true l
 obtain ⟨g1,H1,eE⟩:=aGw aF h hs;have ki:∀ (s':aw),(0<s'.data.length/\dk ly s'.data<=dk jb (q.take (p+1)))->∀ x ∈ L.set i s',0<x.data.length/\dk ly x.data<=dk jb (q.take (p+1)):=fun s' hs' x hx=>by
  rcases List.mem_or_eq_of_mem_set hx with q1|q1
  ·have:=hw x q1;exact ⟨this.1,zO⟩
  ·subst q1;exact hs'
 have aQ:fe (q.drop p) L=if m6 s.type s.data r.data=true then fe (q.drop (p+1)) (L.set i (k6 s.owner s.type s.cls (m5 s.b9 r.b9) (s.data))) else if 512<=s.data.length then ([],3) else fe (q.drop (p+1)) (L.set i (k6 s.owner s.type s.cls (m5 s.b9 r.b9) (s.data++[r.data]))):=by rw [bK,fe,if_neg (by rw [h1];simp),if_neg (by rw [h2];simp),hk];simp only [hs]
 by_cases hh:m6 s.type s.data r.data=true
 ·rw [if_pos hh] at aQ;have hstep:=aHs q p r hr (L.map ef) i (dh (L.take i) (vs.take i)) (dh (L.drop (i+1)) (vs.drop (i+1))) s hX (m8 _ _) (fun τ=>m7 τ _ _) (m8 _ _) (fun τ=>m7 τ _ _) hk (hq.owner r cN) hd h1 h2 zO eH bO hn hh;refine wpIn_mono (piece z8 zK aF zO aL zK (by rw [hp];exact hstep) H1) ?_;rintro ex a' w' ⟨e,L',st',g',rfl,hQ,bH,hb⟩;cases e with
  |ret=>exact hQ.elim
  |exit id=>exact hQ.elim
  |normal=>
   obtain ⟨e1,e2⟩:=hQ;obtain ⟨g2,H,keep⟩:=of_next aF hp bH hb e1 e2;obtain ⟨vs',dV,g3,hat⟩:=arh aF hp hO h hs hn H (fun j s2 v b hj h5 h6 h7=>keep _ _ _ _ _ _ (hcl _) (eE j s2 v b hj h5 h6 h7));exact .inl ⟨rfl,_,vs',dV,g3,aQ,by rw [List.length_set];omega,ki _ ⟨hn,by show dk ly s.data<=_;omega⟩,hat⟩
 have bH:m6 s.type s.data r.data=false:=by simpa using hh
 rw [if_neg hh] at aQ;by_cases h5 : 512<=s.data.length
 ·rw [if_pos h5] at aQ;have hstep:=aG6 q p r hr (L.map ef) i (dh (L.take i) (vs.take i)) (dh (L.drop (i+1)) (vs.drop (i+1))) s hX (m8 _ _) (fun τ=>m7 τ _ _) (m8 _ _) (fun τ=>m7 τ _ _) hk (hq.owner r cN) hd h1 h2 zO eH bO hn h5 bH;refine wpIn_mono (piece z8 zK aF zO aL zK (by rw [hp];exact hstep) H1) ?_;rintro ex a' w' ⟨e,L',st',g',rfl,hQ,bF,hb⟩;cases e with
  |normal=>exact hQ.elim
  |exit id=>exact hQ.elim
  |ret=>
   refine .inr ⟨rfl,?_⟩;rw [aQ];exact ⟨.ret,L',st',g',rfl,hQ,bF.cur,bF.sl,bF.uf⟩
 ·rw [if_neg h5] at aQ;have hstep:=aI9 q p r hr (L.map ef) i (dh (L.take i) (vs.take i)) (dh (L.drop (i+1)) (vs.drop (i+1))) s hX (m8 _ _) (fun τ=>m7 τ _ _) (m8 _ _) (fun τ=>m7 τ _ _) hk (hq.owner r cN) hd h1 h2 zO eH bO hn zO bH;refine wpIn_mono (piece z8 zK aF zO aL zK (by rw [hp];exact hstep) H1) ?_;rintro ex a' w' ⟨e,L',st',g',rfl,hQ,bF,hb⟩;cases e with
  |ret=>exact hQ.elim
  |exit id=>exact hQ.elim
  |normal=>
   obtain ⟨e1,e2⟩:=hQ;have hl2:s.data.length+1=(s.data++[r.data]).length:=by simp
   rw [hl2] at e2;obtain ⟨g2,H,keep⟩:=of_next aF hp bF hb e1 e2;obtain ⟨vs',dV,g3,hat⟩:=arh aF hp hO h hs (by simp) H (fun j s2 v b hj h5 h6 h7=>keep _ _ _ _ _ _ (hcl _) (eE j s2 v b hj h5 h6 h7));refine .inl ⟨rfl,_,vs',dV,g3,aQ,by rw [List.length_set];omega,ki _ ⟨by show 0<(s.data++[r.data]).length;simp,?_⟩,hat⟩;show dk ly (s.data++[r.data])<=_;rw [ux];show dk ly s.data+(ly r.data+0+1)<=_;omega
theorem aFs {B:dz} (aF:B.iw) (hp:B.bg=0) (hO:∀ b,¬ B.O b) (aL:B.n0<=B.w.heap.size) {q:List dt} (hq:m9 q) {p:Nat} (hlt:p<q.length) {x:List aw × Int} {a:Act} {w:World} (h:Ug B q p x a w) :
 ofBody.wpIn (fw none) 0 PP (fun ex a' w'=>(ex = .normal/\Ug B q (p+1) x a' w')\/(ex = .ret/\Fin B Tryz.f68.ntmps (di PP Tryz.f68.results.toList (fun rr st=>(r2 (bw aj) (bh .i64)).get true st.h rr=some (x))) .ret a' w')) a w:=by
 obtain ⟨L,vs,bs,g,rfl,iZ,hw,hat⟩:=h;obtain ⟨r,hr⟩:∃ r,q[p]? = some r:=⟨_,zh hlt⟩;have cN:=zm hr;have lL:jb r<dk jb q:=u3 cN;have eH:=hq.len;have iH:=hq.data;have hd:ca r.data:=by unfold ca;unfold jb at *;omega
 have bK:q.drop p=r::q.drop (p+1):=by rw [zzs hlt];obtain ⟨_,e⟩:=zg.1 hr;rw [e]
 have hlv:=hat.lv;by_cases h1:cg r.owner=0;rotate_left
 ·have hstep:=aGp q p r hr (L.map ef) (dh L vs) (by rw [A0 _ _ hlv,zzo]) (hq.owner r cN) h1 eH;have aQ:fe (q.drop p) L=([],cg r.owner):=by rw [bK,fe,if_pos h1]
  refine wpIn_mono (piece z8 zK aF zO aL zK (by rw [hp];exact hstep) hat.here) ?_;rintro ex a' w' ⟨e,L',st',g',rfl,hQ,bF,hb⟩;cases e with
  |normal=>exact hQ.elim
  |exit id=>exact hQ.elim
  |ret=>
   refine .inr ⟨rfl,?_⟩;rw [aQ];exact ⟨.ret,L',st',g',rfl,hQ,bF.cur,bF.sl,bF.uf⟩
 by_cases h2:c8 r.type r.data=0;rotate_left
 ·have hstep:=aGn q p r hr (L.map ef) (dh L vs) (by rw [A0 _ _ hlv,zzo]) (hq.owner r cN) hd h1 h2 eH;have aQ:fe (q.drop p) L=([],c8 r.type r.data):=by rw [bK,fe,if_neg (by rw [h1];simp),if_pos h2]
  refine wpIn_mono (piece z8 zK aF zO aL zK (by rw [hp];exact hstep) hat.here) ?_;rintro ex a' w' ⟨e,L',st',g',rfl,hQ,bF,hb⟩;cases e with
  |normal=>exact hQ.elim
  |exit id=>exact hQ.elim
  |ret=>
   refine .inr ⟨rfl,?_⟩;rw [aQ];exact ⟨.ret,L',st',g',rfl,hQ,bF.cur,bF.sl,bF.uf⟩
 cases hk:ln (jf r) 0 (L.map ef) with
 |none=>exact wpIn_mono (aox aF hp hO aL hq hr hat iZ hw h1 h2 hk) (fun ex a' w' h=>.inl h)
 |some i=>
  have hi:=(Gj _ 0 i hk).2;rw [zzo,Nat.zero_add] at hi;exact apu aF hp hO aL hq hr hat iZ hw h1 h2 hk (zh hi)
theorem ai3 {B:dz} {q:List dt} {p:Nat} {L:List aw} {vs:List Value} {bs:List Nat} {g:Gh} {a:Act} {w:World} (h:OAt B q p L vs bs g a w):∀ (k:Nat),k<=L.length ->
 ∃ g',ew B Tryz.f68.ntmps (fm [4,5,15,16,17] [.mp 0,.sl 1 0 ((L.map ef).length) 5,zr q,zi ((q).length),zi p]) (ay [some (.map (ij 0 (L.map ef))),some (.row (cellsOf aj true (L.take k)++dh (L.drop k) (vs.drop k)) 0 0 63)]) g' a w /\
  ∀ (j:Nat) s v b,k<=j->L[j]? = some s->vs[j]? = some v->bs[j]? = some b->iu B g' (ay [some (.map (ij 0 (L.map ef))),some (.row (cellsOf aj true (L.take k)++dh (L.drop k) (vs.drop k)) 0 0 63)]) w (cellsOf ai true s.data) 116 s.data.length 4 v b
 |0,_=>⟨g,h.here,fun j s v b _ h1 h2 h3=>h.own j s v b h1 h2 h3⟩
 |k+1,hk=>by
  obtain ⟨g1,H,own⟩:=ai3 h k zO;have hlv:=h.lv;have fC:=h.lb;have hcl:∀ l:List bp,jt (cellsOf ai true l):=fun l=>oq ai _ true l
  have hs:L[k]? = some (L[k]'zO):=zh zO;have hv:vs[k]? = some (vs[k]'zO):=zh zO;have hb:bs[k]? = some (bs[k]'zO):=zh zO;generalize L[k]'zO=s at hs;generalize vs[k]'zO=v at hv;generalize bs[k]'zO=b at hb;have d1:L.drop k=s::L.drop (k+1):=by obtain ⟨hi,rfl⟩:=zg.1 hs;exact zzs hi
  have d2:vs.drop k=v::vs.drop (k+1):=by obtain ⟨hi,rfl⟩:=zg.1 hv;exact zzs hi
  have e1:cellsOf aj true (L.take k)++dh (L.drop k) (vs.drop k)=(cellsOf aj true (L.take k)++[zt s.owner,.sc (.int .u16 s.type.toNat),.sc (.int .u16 s.cls.toNat),.sc (.int .u32 s.b9.toNat)])++AV.sc v::dh (L.drop (k+1)) (vs.drop (k+1)):=by rw [d1,d2,zzc];rfl
  have e2:(cellsOf aj true (L.take k)++[zt s.owner,.sc (.int .u16 s.type.toNat),.sc (.int .u16 s.cls.toNat),.sc (.int .u32 s.b9.toNat)])++AV.vl true 4 (s.data.map (ai.val true))::dh (L.drop (k+1)) (vs.drop (k+1))=cellsOf aj true (L.take (k+1))++dh (L.drop (k+1)) (vs.drop (k+1)):=by rw [jg hs,uy,xd,zzc,zzc];rfl
  have O:=own k s v b (zza _) hs hv hb;rw [e1] at H O;have gO:(s.data.map (ai.val true)).flatMap AV.cells=cellsOf ai true s.data:=Rf true s.data;have O':iu B g1 (ay [some (.map (ij 0 (L.map ef))),some (.row ((cellsOf aj true (L.take k)++[zt s.owner,.sc (.int .u16 s.type.toNat),.sc (.int .u16 s.cls.toNat),.sc (.int .u32 s.b9.toNat)])++AV.sc v::dh (L.drop (k+1)) (vs.drop (k+1))) 0 0 63)]) w ((s.data.map (ai.val true)).flatMap AV.cells) 116 s.data.length 4 v b:=by rw [gO];exact O
  obtain ⟨g2,H2,keep⟩:=aKq (t0:=5) (m:=(L.map ef).length) (z:=5) (n:=s.data.length) zK (by decide) rfl (by rw [zzo];omega) (by rw [gO];exact hcl _) (fun e he=>by obtain ⟨d,_,rfl⟩:=zyl.1 he;rfl) (by simp) H O'
  rw [e2] at H2 keep;refine ⟨g2,H2,fun j s2 v2 b2 hj h1 h2 h3=>?_⟩;have hne:b2≠b:=fun e=>h.nd j k b2 zO h3 (by rw [hb,e])
  have:=own j s2 v2 b2 zO h1 h2 h3;rw [e1] at this;exact keep _ _ _ _ _ _ (hcl _) hne this
noncomputable def aC9:Code:=match Tryz.f68.body.getD .skip with
 |.seq a (.seq _ (.seq _ (.seq (.seq _ (.block _ (.loop _))) _)))=>a
 |_=>.skip
noncomputable def aBp:Code:=match Tryz.f68.body.getD .skip with
 |.seq _ (.seq a (.seq _ (.seq (.seq _ (.block _ (.loop _))) _)))=>a
 |_=>.skip
noncomputable def aA6:Code:=match Tryz.f68.body.getD .skip with
 |.seq _ (.seq _ (.seq a (.seq (.seq _ (.block _ (.loop _))) _)))=>a
 |_=>.skip
noncomputable def aDm:Code:=match Tryz.f68.body.getD .skip with
 |.seq _ (.seq _ (.seq _ (.seq (.seq a (.block _ (.loop _))) _)))=>a
 |_=>.skip
noncomputable def aDe:Code:=match Tryz.f68.body.getD .skip with
 |.seq _ (.seq _ (.seq _ (.seq (.seq _ (.block _ (.loop _))) a)))=>a
 |_=>.skip
theorem aFk:Tryz.f68.body.getD .skip = .seq aC9 (.seq aBp (.seq aA6 (.seq (.seq aDm (.block 0 (.loop ofBody))) aDe))):=zK
def Io (X:SL->St->Prop):QL:=fun e L st=>match e with|.normal=>X L st|_=>False
theorem aHv (q:List dt):wl PP [fh,ml,Bx,nc,D2,qg] 0 aC9 (Io (wl PP [fh,ml,Bx,nc,D2,qg] 0 aBp (Io (wl PP [fh,ml,Bx,nc,D2,qg] 0 aA6 (Io (wl PP [fh,ml,Bx,nc,D2,qg] 0 aDm (Io (fun L st=>kh 0 (dq 0 [4,5,15,16,17] L st) (gk 0 [4,5,15,16,17] L st) [.mp 0,.sl 1 0 (0) 5,zr q,zi ((q).length),zi 0] [some (.map (ij 0 ([]))),some (.row ([]) 0 0 63)]))))))))
 (cj 0 [(bw bu).val false q]) (ay []):=by
 unfold aC9 aBp aA6 aDm Tryz.f68;simp only [↓wR,zT,simprocAttr,Io,ij,Lk]
 (refine kh.lax [] (by first|exact zB rfl|(simp [cz];omega)) ?_ ?_<;>repeat' first|exact ft.nil|exact cq.nil|exact gn.same _|exact gn.nil _ _ _|exact gn.qb _ _|exact cq.refl _ _|apply ft.cons|apply cq.ghost|apply cq.same|apply cq.row)
theorem aHg (L:List aw) (ks:List mh) (S:SL) (hS:lk S 5 = .sl 1 0 ks.length 5) (hk:ks.length=L.length):wl PP [fh,ml,Bx,nc,D2,qg] 0 aDe (di PP Tryz.f68.results.toList (fun rr st=>(r2 (bw aj) (bh .i64)).get true st.h rr=some ((L,0)))) S (ay [some (.map (ij 0 (ks))),some (.row (cellsOf aj true L) 0 0 63)]):=by
 have hdec:∀ fr h kk st et,yc fr st 5 aj.kd et=true->lg aj fr h 0 L.length (.row (cellsOf aj true L) kk st et)=some L:=fun fr h kk st et hro=>jy aj fr h true _ kk st et _ rfl rfl hro
 rw [hk] at hS;unfold aDe Tryz.f68;simp only [↓wR,zT,simprocAttr,hS,hdec]
theorem aCh {B:dz} (aF:B.iw) (hp:B.bg=0) (hO:∀ b,¬ B.O b) (aL:B.n0<=B.w.heap.size) {q:List dt} (hq:m9 q) {g:Gh} {a:Act} {w:World} (hh:ew B Tryz.f68.ntmps (cj 0 [(bw bu).val false q]) (ay []) g a w) :
 (Tryz.f68.body.getD .skip).wpIn (fw none) 0 PP (Fin B Tryz.f68.ntmps (di PP Tryz.f68.results.toList (fun rr st=>(r2 (bw aj) (bh .i64)).get true st.h rr=some (fe q [])))) a w:=by
 rw [aFk];refine wpIn_seq (wpIn_mono (piece z8 zK aF zO aL zK (by rw [hp];exact aHv q) hh) ?_);rintro ex a w ⟨e,L',st',g,rfl,hQ,hh,_⟩;cases e with
 |ret=>exact hQ.elim
 |exit id=>exact hQ.elim
 |normal=>
 refine wpIn_seq (wpIn_mono (piece z8 zK aF zO aL zK (by rw [hp];exact hQ) hh) ?_);rintro ex a w ⟨e,L',st',g,rfl,hQ,hh,_⟩;cases e with
 |ret=>exact hQ.elim
 |exit id=>exact hQ.elim
 |normal=>
 refine wpIn_seq (wpIn_mono (piece z8 zK aF zO aL zK (by rw [hp];exact hQ) hh) ?_);rintro ex a w ⟨e,L',st',g,rfl,hQ,hh,_⟩;cases e with
 |ret=>exact hQ.elim
 |exit id=>exact hQ.elim
 |normal=>
 refine wpIn_seq (wpIn_seq (wpIn_mono (piece z8 zK aF zO aL zK (by rw [hp];exact hQ) hh) ?_));rintro ex a w ⟨e,L',st',g,rfl,hQ,hh,_⟩;cases e with
 |ret=>exact hQ.elim
 |exit id=>exact hQ.elim
 |normal=>
 refine wpIn_block ?_;have hW:kh 0 (dq 0 [4,5,15,16,17] L' st') (gk 0 [4,5,15,16,17] L' st') [.mp 0,.sl 1 0 (0) 5,zr q,zi ((q).length),zi 0] [some (.map (ij 0 ([]))),some (.row ([]) 0 0 63)]:=hQ;obtain ⟨V,O,g1,⟨rfl,rfl⟩,k1,k2,k3,_⟩:=I3 (X:=fun vs os=>vs=[.mp 0,.sl 1 0 (0) 5,zr q,zi ((q).length),zi 0]/\os=[some (.map (ij 0 ([]))),some (.row ([]) 0 0 63)]) aF zO [4,5,15,16,17] (by rw [hp];exact ⟨_,_,hW,rfl,rfl⟩) hh.cur hh.sl;have h0:Ug B q 0 (fe q []) a w:=by refine ⟨[],[],[],g1,rfl,zza _,fun s hs=>(by cases hs),⟨⟨k1,k2,k3 _ _ _ (Ag zO [4,5,15,16,17] hh.uf)⟩,rfl,rfl,fun j k b _ h1=>(by simp at h1),fun j s v b h1=>(by simp at h1)⟩⟩
 refine Pe (fun (p:Nat) a w=>p<=q.length/\Ug B q p (fe q []) a w) (fun p=>q.length - p) ?_ 0 a w ⟨zzb _,h0⟩;rintro p a w ⟨hpl,hI⟩;by_cases hlt:p<q.length
 ·refine wpIn_mono (aFs aF hp hO aL hq hlt hI) ?_;rintro ex a' w' (⟨rfl,h⟩|⟨rfl,h⟩)
  ·exact ⟨p+1,zO,hlt,h⟩
  ·exact h
 ·have sN:p=q.length:=zO;subst sN;obtain ⟨L,vs,bs,g2,hx,iZ,hw,hat⟩:=hI;rw [List.drop_length] at hx;obtain ⟨g3,H,_⟩:=ai3 hat L.length (zza _);have e0:cellsOf aj true (L.take L.length)++dh (L.drop L.length) (vs.drop L.length)=cellsOf aj true L:=by
   rw [zz7,List.drop_length];exact zzn _
  rw [e0] at H;refine wpIn_mono (piece z8 zK aF zO aL zK (by rw [hp];exact aJl q (L.map ef).length [some (.map (ij 0 (L.map ef))),some (.row (cellsOf aj true L) 0 0 63)]) H) ?_;rintro ex a' w' ⟨e,S,st',g',rfl,hQ,hh,_⟩;cases e with
  |normal=>exact hQ.elim
  |ret=>exact (by cases hQ.1)
  |exit id=>
   obtain ⟨e1,e2,rfl⟩:=hQ;cases e1;refine wpIn_mono (piece z8 zK aF zO aL zK (by rw [hp];exact aHg L (L.map ef) S e2 (by rw [zzo])) hh) ?_;rintro ex a' w' ⟨e,S,st',g',rfl,hQ,hh,_⟩;rw [hx];exact ⟨e,S,st',g',rfl,hQ,hh.cur,hh.sl,hh.uf⟩
noncomputable def Sy (x:List dt × Unit):Option AV:=open Classical in if m9 x.1 then some ((r2 (bw aj) (bh .i64)).E true (fe x.1 [])) else none
theorem au0 (x:List dt × Unit) (r:AV) (h:Sy x=some r):bo PP 68 ((aC (bw bu) a0).E x) r:=by obtain ⟨hc,rfl⟩:=zI h;exact yp (body:=Tryz.f68.body.getD .skip) Tryz.func68 zK zK zL (r2 (bw aj) (bh .i64)) true (fe x.1 []) (fun B g a w aF hp hO aL hh=>aCh aF hp hO aL hc hh)
noncomputable abbrev aJ4:zE:=(68,true,dg (aC (bw bu) a0) Sy)
theorem Hw (s:aw) (N a b n:Nat) (A P M Q Z:List bp) (hN:N=(A++P++M++Q++Z).length) (hs:N<=1048576) (ha:a=A.length) (hp:n=P.length) (hq:n=Q.length) (hb:b=a+n+M.length) :
 iz PP 219 [.sl 0 0 N 4,zi a,zi b,zi n,(.fn (.func 170) [] [.ptr 1 0])] (ay [some (.row (cellsOf ai true ((A++P++M++Q++Z))) 0 0 116),(zY s)])
  (fun r st'=>r = .gj []/\st'=ay [some (.row (cellsOf ai true ((A++Q++M++P++Z))) 0 0 116),(zY s)]):=by
 have hc:∀ a b c d,eh a b c=d->eh a b c=d:=fun _ _ _ _ h=>h
 have hlen:N=A.length+P.length+M.length+Q.length+Z.length:=by rw [hN];simp;omega
 refine dr _ rfl ?_ (fun r st' h=>h);refine cb (T:=[]) (ak.nil PP) mixed Tryz.func219 rfl zK zK zK zK ?_;unfold Tryz.f219;simp only [↓wR,zT,simprocAttr];refine da [0,1,2,3,10] (fun (i:Nat)=>[.sl 0 0 N 4,zi a,zi b,zi n,zi i]) (fun i=>[some (.row (cellsOf ai true ((A++Q.take i++P.drop i++M++P.take i++Q.drop i++Z))) 0 0 116),(zY s)]) (fun i=>i<=n) (fun i=>n - i) 0 (zzb _) (by simp only [↓wR,zT,simprocAttr]<;>simp) (by simp only [↓wR,zT,simprocAttr]<;>simp) ?_;intro i hi;simp only [↓wR,zT,simprocAttr];rw [az];refine ⟨fun h=>?_,fun h=>?_⟩
 ·have hlt:i<n:=zO;obtain ⟨p,nB⟩:∃ p,P[i]? = some p:=⟨_,zh zO⟩;obtain ⟨q,lQ⟩:∃ q,Q[i]? = some q:=⟨_,zh zO⟩;obtain ⟨X,hX⟩:∃ X,X=A++Q.take i:=⟨_,rfl⟩;obtain ⟨Y,hY⟩:∃ Y,Y=P.drop (i+1)++M++P.take i:=⟨_,rfl⟩;obtain ⟨W,hW⟩:∃ W,W=Q.drop (i+1)++Z:=⟨_,rfl⟩;have hx1:X.length=a+i:=by rw [hX,za,zzl];omega
  have hy1:Y.length=n - 1+M.length:=by rw [hY];simp;omega
  have sO:P.drop i=p::P.drop (i+1):=by obtain ⟨_,rfl⟩:=zg.1 nB;exact zzs _
  have iH:Q.drop i=q::Q.drop (i+1):=by obtain ⟨_,rfl⟩:=zg.1 lQ;exact zzs _
  have sM:P.take (i+1)=P.take i++[p]:=by rw [List.take_add_one,nB];rfl
  have sK:Q.take (i+1)=Q.take i++[q]:=by rw [List.take_add_one,lQ];rfl
  have bE:A++Q.take i++P.drop i++M++P.take i++Q.drop i++Z=X++p::(Y++q::W):=by rw [hX,hY,hW,sO,iH];simp
  have lq:A++Q.take (i+1)++P.drop (i+1)++M++P.take (i+1)++Q.drop (i+1)++Z=X++q::(Y++p::W):=by rw [hX,hY,hW,sM,sK];simp
  have eP:(a:Int)+i=((a+i:Nat):Int):=zO;have bG:(b:Int)+i=((b+i:Nat):Int):=zO;have g1:(X++p::(Y++q::W))[a+i]? = some p:=by rw [<- hx1];exact get_at X _ p
  have gX:(X++p::Y).length=b+i:=by rw [za,List.length_cons,hx1,hy1];omega
  have g2:(X++p::(Y++q::W))[b+i]? = some q:=by have:=get_at (X++p::Y) W q;rw [gX] at this;rw [<- this];simp
  have s1:(X++p::(Y++q::W)).set (a+i) q=X++q::(Y++q::W):=by rw [<- hx1];exact uj X _ p q
  have g3:(X++q::(Y++q::W))[b+i]? = some q:=by have:=get_at (X++q::Y) W q;rw [show (X++q::Y).length=b+i by rw [<- gX];simp] at this;rw [<- this];simp
  have s2:(X++q::(Y++q::W)).set (b+i) p=X++q::(Y++p::W):=by have:=uj (X++q::Y) W q p;rw [show (X++q::Y).length=b+i by rw [<- gX];simp] at this;simpa using this
  have l1:=my 0 0 116 g1;have l2:=my 0 0 116 g2;have t1:=wa q 0 116 0 g1;have t2:=wa p 0 116 0 g3;rw [s1] at t1;rw [s2] at t2;rw [bE]
  repeat (first|simp only [↓wR,zT,simprocAttr,h,eP,bG,↓l1,↓l2,↓t1,↓t2]|simp (disch:=omega) only [zW])
  refine ⟨zK,.inl ?_⟩;exact ⟨by apply hc;kernel_rfl,i+1,hlt,zO,zF,by rw [lq]⟩
 ·have hin:i=n:=zO;subst hin;have e1:Q.take i=Q:=by rw [hq,zz7]
  have e2:P.drop i=[]:=by rw [hp,List.drop_length]
  have e3:P.take i=P:=by rw [hp,zz7]
  have e4:Q.drop i=[]:=by rw [hq,List.drop_length]
  rw [e1,e2,e3,e4];simp only [↓wR,zT,simprocAttr,h,i4,ir,ig,zzn]
theorem aj3 (s:aw) (N a m b:Nat) (A L R Z:List bp) (hN:N=(A++L++R++Z).length) (hs:N<=1048576) (ha:a=A.length) (hm:m=a+L.length) (hb:b=m+R.length) (hl : 0<L.length) (hr : 0<R.length) :
 iz PP 216 [.sl 0 0 N 4,zi a,zi m,zi b,(.fn (.func 170) [] [.ptr 1 0])] (ay [some (.row (cellsOf ai true ((A++L++R++Z))) 0 0 116),(zY s)])
  (fun r st'=>r = .gj []/\st'=ay [some (.row (cellsOf ai true ((A++R++L++Z))) 0 0 116),(zY s)]):=by
 have hlen:N=A.length+L.length+R.length+Z.length:=by rw [hN];simp;omega
 refine dr _ rfl ?_ (fun r st' h=>h);refine cb (T:=[]) (ak.nil PP) mixed Tryz.func216 rfl zK zK zK zK ?_;unfold Tryz.f216;have eP:(m:Int) - a=((L.length:Nat):Int):=zO;have bG:(b:Int) - m=((R.length:Nat):Int):=zO
 repeat (first|simp only [↓wR,zT,simprocAttr,eP,bG]|simp (disch:=omega) only [zW])
 refine da [0,2,4,10,11] (fun (x:List bp × List bp × List bp × List bp)=>[.sl 0 0 N 4,zi m,(.fn (.func 170) [] [.ptr 1 0]),zi x.2.1.length,zi x.2.2.1.length]) (fun x=>[some (.row (cellsOf ai true ((x.1++x.2.1++x.2.2.1++x.2.2.2))) 0 0 116),(zY s)]) (fun x=>x.1++x.2.2.1++x.2.1++x.2.2.2=A++R++L++Z/\x.1.length+x.2.1.length=m/\0<x.2.1.length/\0<x.2.2.1.length) (fun x=>x.2.1.length+x.2.2.1.length) (A,L,R,Z) ⟨rfl,by show A.length+L.length=m;omega,hl,hr⟩ zS zS ?_;rintro ⟨A',P,Q,Z'⟩ ⟨h1,h2,h3,h4⟩;have h5:=congrArg List.length h1;simp only [za] at h1 h2 h3 h4 h5;simp only [];simp only [↓wR,zT,simprocAttr];rw [de];refine ⟨fun ⟨h,e⟩=>?_,fun ⟨h,e⟩=>?_⟩
 ·have hne:P.length≠Q.length:=zO;simp only [↓wR,zT,simprocAttr,h];have fE:(m:Int) - P.length=((A'.length:Nat):Int):=zO;rw [az];refine ⟨fun hg=>?_,fun hg=>?_⟩
  ·have hlt:Q.length<P.length:=zO;obtain ⟨P1,qQ⟩:∃ P1,P1=P.take Q.length:=⟨_,rfl⟩;obtain ⟨P2,qP⟩:∃ P2,P2=P.drop Q.length:=⟨_,rfl⟩;have hp:P=P1++P2:=by rw [qQ,qP,zzm]
   have bY:P1.length=Q.length:=by rw [qQ,zzl];omega
   have hl2:P2.length=P.length - Q.length:=by rw [qP,zzt]
   have mH:(P.length:Int) - Q.length=((P2.length:Nat):Int):=zO
   repeat (first|simp only [↓wR,zT,simprocAttr,hg,fE]|simp (disch:=omega) only [zW])
   refine fy (R0:=fun r st'=>r = .gj []/\st'=ay [some (.row (cellsOf ai true ((A'++Q++P2++P1++Z'))) 0 0 116),(zY s)]) ?_ ?_
   ·have:=Hw s N A'.length m Q.length A' P1 P2 Q Z' (by simp only [za];omega) hs rfl bY.symm rfl zO;rw [show A'++P++Q++Z'=A'++P1++P2++Q++Z' by rw [hp];simp];exact this
   ·rintro _ _ ⟨rfl,rfl⟩
    repeat (first|simp only [↓wR,zT,simprocAttr,dm,mH]|simp (disch:=omega) only [zW])
    refine ⟨(A'++Q,P2,P1,Z'),⟨?_,?_,?_,?_⟩,?_,?_,?_⟩
    ·rw [<- h1,hp];simp
    ·simp only [za];omega
    ·show 0<P2.length;omega
    ·show 0<P1.length;omega
    ·show P2.length+P1.length<P.length+Q.length;omega
    ·rw [bY]
    ·simp only [zzc]
  ·have hlt:P.length<Q.length:=zO;obtain ⟨Q1,qO⟩:∃ Q1,Q1=Q.take (Q.length - P.length):=⟨_,rfl⟩;obtain ⟨Q2,qN⟩:∃ Q2,Q2=Q.drop (Q.length - P.length):=⟨_,rfl⟩;have hp:Q=Q1++Q2:=by rw [qO,qN,zzm]
   have bY:Q1.length=Q.length - P.length:=by rw [qO,zzl];omega
   have hl2:Q2.length=P.length:=by rw [qN,zzt];omega
   have mH:(Q.length:Int) - P.length=((Q1.length:Nat):Int):=zO;have tN:(m:Int)+Q.length - P.length=((m+Q1.length:Nat):Int):=zO
   repeat (first|simp only [↓wR,zT,simprocAttr,hg,fE,tN]|simp (disch:=omega) only [zW])
   refine fy (R0:=fun r st'=>r = .gj []/\st'=ay [some (.row (cellsOf ai true ((A'++Q2++Q1++P++Z'))) 0 0 116),(zY s)]) ?_ ?_
   ·have:=Hw s N A'.length (m+Q1.length) P.length A' P Q1 Q2 Z' (by simp only [za];omega) hs rfl rfl hl2.symm zO;rw [show A'++P++Q++Z'=A'++P++Q1++Q2++Z' by rw [hp];simp];exact this
   ·rintro _ _ ⟨rfl,rfl⟩
    repeat (first|simp only [↓wR,zT,simprocAttr,dm,mH]|simp (disch:=omega) only [zW])
    refine ⟨(A',Q2,Q1,P++Z'),⟨?_,?_,?_,?_⟩,?_,?_,?_⟩
    ·rw [<- h1,hp];simp
    ·show A'.length+Q2.length=m;omega
    ·show 0<Q2.length;omega
    ·show 0<Q1.length;omega
    ·show Q2.length+Q1.length<P.length+Q.length;omega
    ·rw [hl2]
    ·simp only [zzc]
 ·have hne:P.length=Q.length:=zO;simp only [↓wR,zT,simprocAttr,h];have fE:(m:Int) - P.length=((A'.length:Nat):Int):=zO
  repeat (first|simp only [↓wR,zT,simprocAttr,fE]|simp (disch:=omega) only [zW])
  refine fy (R0:=fun r st'=>r = .gj []/\st'=ay [some (.row (cellsOf ai true ((A++R++L++Z))) 0 0 116),(zY s)]) ?_ ?_
  ·have:=Hw s N A'.length m P.length A' P [] Q Z' (by simp only [za,List.length_nil];omega) hs rfl rfl hne (by simp only [List.length_nil];omega);rw [zzn,zzn,zzc (A'++Q),<- zzc (A'++Q),h1] at this;exact this
  ·rintro _ _ ⟨rfl,rfl⟩;simp only [↓wR,zT,simprocAttr,dm,i4,ir,ig]
theorem Tq (s:aw) (N a b:Nat) (A L Z:List bp) (hN:N=(A++L++Z).length) (hs:N<=1048576) (ha:a=A.length) (hb:b=a+L.length) (hV:∀ x ∈ L,vq s.type x) :
 iz PP 212 [.sl 0 0 N 4,zi a,zi b,(.fn (.func 170) [] [.ptr 1 0])] (ay [some (.row (cellsOf ai true ((A++L++Z))) 0 0 116),(zY s)])
  (fun r st'=>r = .gj []/\st'=ay [some (.row (cellsOf ai true ((A++ec (fo s.type) L++Z))) 0 0 116),(zY s)]):=by
 have hc:∀ a b c d,eh a b c=d->eh a b c=d:=fun _ _ _ _ h=>h
 have hlen:N=A.length+L.length+Z.length:=by rw [hN];simp;omega
 refine dr _ rfl ?_ (fun r st' h=>h);refine cb (T:=[ah6]) (ak.cons (aq Px) (ak.nil PP)) mixed Tryz.func212 rfl zK zK zK zK ?_;unfold Tryz.f212;simp only [↓wR,zT,simprocAttr];refine da [0,1,2,3,8] (fun (i:Nat)=>[.sl 0 0 N 4,zi a,zi b,(.fn (.func 170) [] [.ptr 1 0]),zi i]) (fun i=>[some (.row (cellsOf ai true ((A++ec (fo s.type) (L.take (i - a))++L.drop (i - a)++Z))) 0 0 116),(zY s)]) (fun i=>a<i/\(i<=b\/i=a+1)) (fun i=>b - i) (a+1) ⟨zO,.inr rfl⟩ (by simp only [↓wR,zT,simprocAttr];repeat (simp (disch:=omega) only [zW];try simp only [↓wR,zT,simprocAttr])<;>rfl) (by
  simp only [↓wR,zT,simprocAttr];cases L with
  |nil=>simp [ec]
  |cons x l=>simp [ec,l7]) ?_
 rintro i ⟨fX,hi⟩;simp only [↓wR,zT,simprocAttr];rw [az];refine ⟨fun h=>?_,fun h=>?_⟩
 ·have hlt:i<b:=zO;obtain ⟨x,hx⟩:∃ x,L[i - a]? = some x:=⟨_,zh zO⟩;have cV:=hV x (zm hx);obtain ⟨sp,fQ⟩:∃ sp,sp=ec (fo s.type) (L.take (i - a)):=⟨_,rfl⟩;have cM:sp.length=i - a:=by rw [fQ,fl,zzl];omega
  have oJ:∀ y ∈ sp,vq s.type y:=fun y hy=>hV y (zzr (lx.1 (by rw [<- fQ];exact hy)))
  have sG:ke (fo s.type) sp:=by rw [fQ];exact om (sr s.type) _ (fun y hy=>hV y (zzr hy))
  have eJ:ec (fo s.type) (L.take (i+1 - a))=l7 (fo s.type) x sp:=by rw [show i+1 - a=i - a+1 by omega,jg hx,wb,<- fQ]
  obtain ⟨W,hW⟩:∃ W,W=L.drop (i+1 - a)++Z:=⟨_,rfl⟩;have bE:A++ec (fo s.type) (L.take (i - a))++L.drop (i - a)++Z=A++sp++x::W:=by rw [<- fQ,qj hx,hW,show i+1 - a=i - a+1 by omega];simp
  rw [bE];simp only [↓wR,zT,simprocAttr,h];refine da [0,1,2,3,8,9] (fun (j:Nat)=>[.sl 0 0 N 4,zi a,zi b,(.fn (.func 170) [] [.ptr 1 0]),zi i,zi j]) (fun j=>[some (.row (cellsOf ai true ((A++sp.take (j - a)++x::(sp.drop (j - a)++W)))) 0 0 116),(zY s)]) (fun j=>a<=j/\j<=i/\∀ y,sp[j - a]? = some y->(fo s.type) x y=true) (fun j=>j - a) i ⟨zO,zza _,fun y hy=>by rw [zzy zO] at hy;cases hy⟩ zS (by
   simp only [↓wR,zT,simprocAttr];rw [show List.take (i - a) sp=sp from zzp zO,show List.drop (i - a) sp=[] from zzx zO];simp) ?_
  rintro j ⟨hj0,kP,iQ⟩;simp only [↓wR,zT,simprocAttr];by_cases zQ:a<j
  ·obtain ⟨y,hy⟩:∃ y,sp[j - 1 - a]? = some y:=⟨_,zh zO⟩;have cU:=oJ y (zm hy);have mL:decide ((j:Int) > (a:Int))=true:=zp zO;have pN:(j:Int) - 1=((j - 1:Nat):Int):=zO;have mF:j - a=j - 1 - a+1:=zO;have hc2:A++sp.take (j - a)++x::(sp.drop (j - a)++W)=A++sp.take (j - 1 - a)++y::(x::(sp.drop (j - a)++W)):=by rw [mF,jg hy];simp
   obtain ⟨X,hX⟩:∃ X,X=A++sp.take (j - 1 - a):=⟨_,rfl⟩;obtain ⟨Y,hY⟩:∃ Y,Y=sp.drop (j - a)++W:=⟨_,rfl⟩;have aV:X.length=j - 1:=by rw [hX,za,zzl];omega
   have g1:(X++y::x::Y)[j - 1]? = some y:=by rw [<- aV];exact get_at X _ y
   have g2:(X++y::x::Y)[j]? = some x:=by have:=get_at (X++[y]) Y x;rw [show (X++[y]).length=j by rw [za,aV,zyi];omega] at this;rw [<- this];simp
   have l1:=my 0 0 116 g1;have l2:=my 0 0 116 g2;rw [hc2,<- hX,<- hY]
   repeat (first|simp only [↓wR,zT,simprocAttr,mL,pN,↓l1,↓l2,ph,cV.1,cU.1]|simp (disch:=omega) only [zW])
   refine ⟨zK,.inl ?_⟩;rw [A6 (g:=170) (a:=[]) (b:=[.ptr 1 0])];rotate_left
   ·rfl
   simp only [↓wR,zT,simprocAttr];refine ⟨by apply hc;kernel_rfl,?_⟩;rw [az];refine ⟨fun hl=>?_,fun hl=>?_⟩
   ·have aY:(fo s.type) x y=true:=zp hl;have s1:(X++y::x::Y).set j y=X++y::y::Y:=by
     have:=uj (X++[y]) Y x y;rw [show (X++[y]).length=j by rw [za,aV,zyi];omega] at this;simpa using this
    have s2:(X++y::y::Y).set (j - 1) x=X++x::y::Y:=by rw [<- aV];exact uj X _ y x
    have g3:(X++y::y::Y)[j - 1]? = some y:=by rw [<- aV];exact get_at X _ y
    have t1:=wa y 0 116 0 g2;have t2:=wa x 0 116 0 g3;rw [s1] at t1;rw [s2] at t2
    repeat (first|simp only [↓wR,zT,simprocAttr,hl,pN,↓l1,↓l2,↓t1,↓t2]|simp (disch:=omega) only [zW])
    refine ⟨zK,.inl ?_⟩;refine ⟨by apply hc;kernel_rfl,j - 1,⟨zO,zO,fun z hz=>?_⟩,zO,zF,?_⟩
    ·rw [hy] at hz;cases hz;exact aY
    ·rw [hX,hY,mF,qj hy];simp
   ·have aY:(fo s.type) x y=false:=zq hl;have hA:∀ z ∈ sp.take (j - a),(fo s.type) x z=false:=by
     refine Le (sr s.type) oJ sG cV zO (fun c _ hcc=>?_);rw [show j - a - 1=j - 1 - a by omega,hy] at hcc;cases hcc;exact aY
    have aT:l7 (fo s.type) x sp=sp.take (j - a)++x::sp.drop (j - a):=by have:=J3 (lt:=(fo s.type)) (x:=x) (sp.take (j - a)) (sp.drop (j - a)) hA (fun z hz=>by rw [List.head?_drop] at hz;exact iQ z hz);rw [zzm] at this;exact this
    repeat (first|simp only [↓wR,zT,simprocAttr,hl]|simp (disch:=omega) only [zW])
    refine ⟨i+1,⟨zO,zO⟩,zO,zF,?_⟩;rw [eJ,aT,hX,hY,hW,mF,jg hy];simp
  ·have mG:j=a:=zO;subst mG;have aT:l7 (fo s.type) x sp=x::sp:=by
    have:=J3 (lt:=(fo s.type)) (x:=x) [] sp (fun z hz=>by cases hz) (fun z hz=>by rw [Nat.sub_self] at iQ;rw [List.head?_eq_getElem?] at hz;exact iQ z hz);exact this
   have mL:decide ((j:Int) > (j:Int))=false:=zq zO
   repeat (first|simp only [↓wR,zT,simprocAttr,mL]|simp (disch:=omega) only [zW])
   refine ⟨zK,.inl ?_⟩;refine ⟨by apply hc;kernel_rfl,i+1,⟨zO,zO⟩,zO,zF,?_⟩;rw [eJ,aT,hW];simp
 ·have hin:L.length<=i - a:=zO;rw [zzp hin,zzx hin];simp only [↓wR,zT,simprocAttr,h,i4,ir,ig,zzn]
theorem H9 (N a b n:Nat) (A P M Q Z:List aw) (hN:N=(A++P++M++Q++Z).length) (hs:N<=1048576) (ha:a=A.length) (hp:n=P.length) (hq:n=Q.length) (hb:b=a+n+M.length) :
 iz PP 217 [.sl 0 0 N 5,zi a,zi b,zi n,(.sc (.func (.func 164) #[] #[]))] (ay [some (.row (cellsOf aj true ((A++P++M++Q++Z))) 0 0 63)])
  (fun r st'=>r = .gj []/\st'=ay [some (.row (cellsOf aj true ((A++Q++M++P++Z))) 0 0 63)]):=by
 have hc:∀ a b c d,eh a b c=d->eh a b c=d:=fun _ _ _ _ h=>h
 have hlen:N=A.length+P.length+M.length+Q.length+Z.length:=by rw [hN];simp;omega
 refine dr _ rfl ?_ (fun r st' h=>h);refine cb (T:=[]) (ak.nil PP) mixed Tryz.func217 rfl zK zK zK zK ?_;unfold Tryz.f217;simp only [↓wR,zT,simprocAttr];refine da [0,1,2,3,10] (fun (i:Nat)=>[.sl 0 0 N 5,zi a,zi b,zi n,zi i]) (fun i=>[some (.row (cellsOf aj true ((A++Q.take i++P.drop i++M++P.take i++Q.drop i++Z))) 0 0 63)]) (fun i=>i<=n) (fun i=>n - i) 0 (zzb _) (by simp only [↓wR,zT,simprocAttr]<;>simp) (by simp only [↓wR,zT,simprocAttr]<;>simp) ?_;intro i hi;simp only [↓wR,zT,simprocAttr];rw [az];refine ⟨fun h=>?_,fun h=>?_⟩
 ·have hlt:i<n:=zO;obtain ⟨p,nB⟩:∃ p,P[i]? = some p:=⟨_,zh zO⟩;obtain ⟨q,lQ⟩:∃ q,Q[i]? = some q:=⟨_,zh zO⟩;obtain ⟨X,hX⟩:∃ X,X=A++Q.take i:=⟨_,rfl⟩;obtain ⟨Y,hY⟩:∃ Y,Y=P.drop (i+1)++M++P.take i:=⟨_,rfl⟩;obtain ⟨W,hW⟩:∃ W,W=Q.drop (i+1)++Z:=⟨_,rfl⟩;have hx1:X.length=a+i:=by rw [hX,za,zzl];omega
  have hy1:Y.length=n - 1+M.length:=by rw [hY];simp;omega
  have sO:P.drop i=p::P.drop (i+1):=by obtain ⟨_,rfl⟩:=zg.1 nB;exact zzs _
  have iH:Q.drop i=q::Q.drop (i+1):=by obtain ⟨_,rfl⟩:=zg.1 lQ;exact zzs _
  have sM:P.take (i+1)=P.take i++[p]:=by rw [List.take_add_one,nB];rfl
  have sK:Q.take (i+1)=Q.take i++[q]:=by rw [List.take_add_one,lQ];rfl
  have bE:A++Q.take i++P.drop i++M++P.take i++Q.drop i++Z=X++p::(Y++q::W):=by rw [hX,hY,hW,sO,iH];simp
  have lq:A++Q.take (i+1)++P.drop (i+1)++M++P.take (i+1)++Q.drop (i+1)++Z=X++q::(Y++p::W):=by rw [hX,hY,hW,sM,sK];simp
  have eP:(a:Int)+i=((a+i:Nat):Int):=zO;have bG:(b:Int)+i=((b+i:Nat):Int):=zO;have g1:(X++p::(Y++q::W))[a+i]? = some p:=by rw [<- hx1];exact get_at X _ p
  have gX:(X++p::Y).length=b+i:=by rw [za,List.length_cons,hx1,hy1];omega
  have g2:(X++p::(Y++q::W))[b+i]? = some q:=by have:=get_at (X++p::Y) W q;rw [gX] at this;rw [<- this];simp
  have s1:(X++p::(Y++q::W)).set (a+i) q=X++q::(Y++q::W):=by rw [<- hx1];exact uj X _ p q
  have g3:(X++q::(Y++q::W))[b+i]? = some q:=by have:=get_at (X++q::Y) W q;rw [show (X++q::Y).length=b+i by rw [<- gX];simp] at this;rw [<- this];simp
  have s2:(X++q::(Y++q::W)).set (b+i) p=X++q::(Y++p::W):=by have:=uj (X++q::Y) W q p;rw [show (X++q::Y).length=b+i by rw [<- gX];simp] at this;simpa using this
  have l1:=oa 0 0 63 g1;have l2:=oa 0 0 63 g2;have t1:=yf q 0 63 0 g1;have t2:=yf p 0 63 0 g3;rw [s1] at t1;rw [s2] at t2;rw [bE]
  repeat (first|simp only [↓wR,zT,simprocAttr,h,eP,bG,↓l1,↓l2,↓t1,↓t2]|simp (disch:=omega) only [zW])
  refine ⟨zK,.inl ?_⟩;exact ⟨by apply hc;kernel_rfl,i+1,hlt,zO,zF,by rw [lq]⟩
 ·have hin:i=n:=zO;subst hin;have e1:Q.take i=Q:=by rw [hq,zz7]
  have e2:P.drop i=[]:=by rw [hp,List.drop_length]
  have e3:P.take i=P:=by rw [hp,zz7]
  have e4:Q.drop i=[]:=by rw [hq,List.drop_length]
  rw [e1,e2,e3,e4];simp only [↓wR,zT,simprocAttr,h,i4,ir,ig,zzn]
theorem alx (N a m b:Nat) (A L R Z:List aw) (hN:N=(A++L++R++Z).length) (hs:N<=1048576) (ha:a=A.length) (hm:m=a+L.length) (hb:b=m+R.length) (hl : 0<L.length) (hr : 0<R.length) :
 iz PP 214 [.sl 0 0 N 5,zi a,zi m,zi b,(.sc (.func (.func 164) #[] #[]))] (ay [some (.row (cellsOf aj true ((A++L++R++Z))) 0 0 63)])
  (fun r st'=>r = .gj []/\st'=ay [some (.row (cellsOf aj true ((A++R++L++Z))) 0 0 63)]):=by
 have hlen:N=A.length+L.length+R.length+Z.length:=by rw [hN];simp;omega
 refine dr _ rfl ?_ (fun r st' h=>h);refine cb (T:=[]) (ak.nil PP) mixed Tryz.func214 rfl zK zK zK zK ?_;unfold Tryz.f214;have eP:(m:Int) - a=((L.length:Nat):Int):=zO;have bG:(b:Int) - m=((R.length:Nat):Int):=zO
 repeat (first|simp only [↓wR,zT,simprocAttr,eP,bG]|simp (disch:=omega) only [zW])
 refine da [0,2,4,10,11] (fun (x:List aw × List aw × List aw × List aw)=>[.sl 0 0 N 5,zi m,(.sc (.func (.func 164) #[] #[])),zi x.2.1.length,zi x.2.2.1.length]) (fun x=>[some (.row (cellsOf aj true ((x.1++x.2.1++x.2.2.1++x.2.2.2))) 0 0 63)]) (fun x=>x.1++x.2.2.1++x.2.1++x.2.2.2=A++R++L++Z/\x.1.length+x.2.1.length=m/\0<x.2.1.length/\0<x.2.2.1.length) (fun x=>x.2.1.length+x.2.2.1.length) (A,L,R,Z) ⟨rfl,by show A.length+L.length=m;omega,hl,hr⟩ zS zS ?_;rintro ⟨A',P,Q,Z'⟩ ⟨h1,h2,h3,h4⟩;have h5:=congrArg List.length h1;simp only [za] at h1 h2 h3 h4 h5;simp only [];simp only [↓wR,zT,simprocAttr];rw [de];refine ⟨fun ⟨h,e⟩=>?_,fun ⟨h,e⟩=>?_⟩
 ·have hne:P.length≠Q.length:=zO;simp only [↓wR,zT,simprocAttr,h];have fE:(m:Int) - P.length=((A'.length:Nat):Int):=zO;rw [az];refine ⟨fun hg=>?_,fun hg=>?_⟩
  ·have hlt:Q.length<P.length:=zO;obtain ⟨P1,qQ⟩:∃ P1,P1=P.take Q.length:=⟨_,rfl⟩;obtain ⟨P2,qP⟩:∃ P2,P2=P.drop Q.length:=⟨_,rfl⟩;have hp:P=P1++P2:=by rw [qQ,qP,zzm]
   have bY:P1.length=Q.length:=by rw [qQ,zzl];omega
   have hl2:P2.length=P.length - Q.length:=by rw [qP,zzt]
   have mH:(P.length:Int) - Q.length=((P2.length:Nat):Int):=zO
   repeat (first|simp only [↓wR,zT,simprocAttr,hg,fE]|simp (disch:=omega) only [zW])
   refine fy (R0:=fun r st'=>r = .gj []/\st'=ay [some (.row (cellsOf aj true ((A'++Q++P2++P1++Z'))) 0 0 63)]) ?_ ?_
   ·have:=H9 N A'.length m Q.length A' P1 P2 Q Z' (by simp only [za];omega) hs rfl bY.symm rfl zO;rw [show A'++P++Q++Z'=A'++P1++P2++Q++Z' by rw [hp];simp];exact this
   ·rintro _ _ ⟨rfl,rfl⟩
    repeat (first|simp only [↓wR,zT,simprocAttr,dm,mH]|simp (disch:=omega) only [zW])
    refine ⟨(A'++Q,P2,P1,Z'),⟨?_,?_,?_,?_⟩,?_,?_,?_⟩
    ·rw [<- h1,hp];simp
    ·simp only [za];omega
    ·show 0<P2.length;omega
    ·show 0<P1.length;omega
    ·show P2.length+P1.length<P.length+Q.length;omega
    ·rw [bY]
    ·simp only [zzc]
  ·have hlt:P.length<Q.length:=zO;obtain ⟨Q1,qO⟩:∃ Q1,Q1=Q.take (Q.length - P.length):=⟨_,rfl⟩;obtain ⟨Q2,qN⟩:∃ Q2,Q2=Q.drop (Q.length - P.length):=⟨_,rfl⟩;have hp:Q=Q1++Q2:=by rw [qO,qN,zzm]
   have bY:Q1.length=Q.length - P.length:=by rw [qO,zzl];omega
   have hl2:Q2.length=P.length:=by rw [qN,zzt];omega
   have mH:(Q.length:Int) - P.length=((Q1.length:Nat):Int):=zO;have tN:(m:Int)+Q.length - P.length=((m+Q1.length:Nat):Int):=zO
   repeat (first|simp only [↓wR,zT,simprocAttr,hg,fE,tN]|simp (disch:=omega) only [zW])
   refine fy (R0:=fun r st'=>r = .gj []/\st'=ay [some (.row (cellsOf aj true ((A'++Q2++Q1++P++Z'))) 0 0 63)]) ?_ ?_
   ·have:=H9 N A'.length (m+Q1.length) P.length A' P Q1 Q2 Z' (by simp only [za];omega) hs rfl rfl hl2.symm zO;rw [show A'++P++Q++Z'=A'++P++Q1++Q2++Z' by rw [hp];simp];exact this
   ·rintro _ _ ⟨rfl,rfl⟩
    repeat (first|simp only [↓wR,zT,simprocAttr,dm,mH]|simp (disch:=omega) only [zW])
    refine ⟨(A',Q2,Q1,P++Z'),⟨?_,?_,?_,?_⟩,?_,?_,?_⟩
    ·rw [<- h1,hp];simp
    ·show A'.length+Q2.length=m;omega
    ·show 0<Q2.length;omega
    ·show 0<Q1.length;omega
    ·show Q2.length+Q1.length<P.length+Q.length;omega
    ·rw [hl2]
    ·simp only [zzc]
 ·have hne:P.length=Q.length:=zO;simp only [↓wR,zT,simprocAttr,h];have fE:(m:Int) - P.length=((A'.length:Nat):Int):=zO
  repeat (first|simp only [↓wR,zT,simprocAttr,fE]|simp (disch:=omega) only [zW])
  refine fy (R0:=fun r st'=>r = .gj []/\st'=ay [some (.row (cellsOf aj true ((A++R++L++Z))) 0 0 63)]) ?_ ?_
  ·have:=H9 N A'.length m P.length A' P [] Q Z' (by simp only [za,List.length_nil];omega) hs rfl rfl hne (by simp only [List.length_nil];omega);rw [zzn,zzn,zzc (A'++Q),<- zzc (A'++Q),h1] at this;exact this
  ·rintro _ _ ⟨rfl,rfl⟩;simp only [↓wR,zT,simprocAttr,dm,i4,ir,ig]
theorem Qr (N a b:Nat) (A L Z:List aw) (hN:N=(A++L++Z).length) (hs:N<=1048576) (ha:a=A.length) (hb:b=a+L.length) (hV:∀ x ∈ L,cw x) :
 iz PP 209 [.sl 0 0 N 5,zi a,zi b,(.sc (.func (.func 164) #[] #[]))] (ay [some (.row (cellsOf aj true ((A++L++Z))) 0 0 63)])
  (fun r st'=>r = .gj []/\st'=ay [some (.row (cellsOf aj true ((A++ec fj L++Z))) 0 0 63)]):=by
 have hc:∀ a b c d,eh a b c=d->eh a b c=d:=fun _ _ _ _ h=>h
 have hlen:N=A.length+L.length+Z.length:=by rw [hN];simp;omega
 refine dr _ rfl ?_ (fun r st' h=>h);refine cb (T:=[anl]) (ak.cons (aq Qa) (ak.nil PP)) mixed Tryz.func209 rfl zK zK zK zK ?_;unfold Tryz.f209;simp only [↓wR,zT,simprocAttr];refine da [0,1,2,3,8] (fun (i:Nat)=>[.sl 0 0 N 5,zi a,zi b,(.sc (.func (.func 164) #[] #[])),zi i]) (fun i=>[some (.row (cellsOf aj true ((A++ec fj (L.take (i - a))++L.drop (i - a)++Z))) 0 0 63)]) (fun i=>a<i/\(i<=b\/i=a+1)) (fun i=>b - i) (a+1) ⟨zO,.inr rfl⟩ (by simp only [↓wR,zT,simprocAttr];repeat (simp (disch:=omega) only [zW];try simp only [↓wR,zT,simprocAttr])<;>rfl) (by
  simp only [↓wR,zT,simprocAttr];cases L with
  |nil=>simp [ec]
  |cons x l=>simp [ec,l7]) ?_
 rintro i ⟨fX,hi⟩;simp only [↓wR,zT,simprocAttr];rw [az];refine ⟨fun h=>?_,fun h=>?_⟩
 ·have hlt:i<b:=zO;obtain ⟨x,hx⟩:∃ x,L[i - a]? = some x:=⟨_,zh zO⟩;have cV:=hV x (zm hx);obtain ⟨sp,fQ⟩:∃ sp,sp=ec fj (L.take (i - a)):=⟨_,rfl⟩;have cM:sp.length=i - a:=by rw [fQ,fl,zzl];omega
  have oJ:∀ y ∈ sp,cw y:=fun y hy=>hV y (zzr (lx.1 (by rw [<- fQ];exact hy)))
  have sG:ke fj sp:=by rw [fQ];exact om sq _ (fun y hy=>hV y (zzr hy))
  have eJ:ec fj (L.take (i+1 - a))=l7 fj x sp:=by rw [show i+1 - a=i - a+1 by omega,jg hx,wb,<- fQ]
  obtain ⟨W,hW⟩:∃ W,W=L.drop (i+1 - a)++Z:=⟨_,rfl⟩;have bE:A++ec fj (L.take (i - a))++L.drop (i - a)++Z=A++sp++x::W:=by rw [<- fQ,qj hx,hW,show i+1 - a=i - a+1 by omega];simp
  rw [bE];simp only [↓wR,zT,simprocAttr,h];refine da [0,1,2,3,8,9] (fun (j:Nat)=>[.sl 0 0 N 5,zi a,zi b,(.sc (.func (.func 164) #[] #[])),zi i,zi j]) (fun j=>[some (.row (cellsOf aj true ((A++sp.take (j - a)++x::(sp.drop (j - a)++W)))) 0 0 63)]) (fun j=>a<=j/\j<=i/\∀ y,sp[j - a]? = some y->fj x y=true) (fun j=>j - a) i ⟨zO,zza _,fun y hy=>by rw [zzy zO] at hy;cases hy⟩ zS (by
   simp only [↓wR,zT,simprocAttr];rw [show List.take (i - a) sp=sp from zzp zO,show List.drop (i - a) sp=[] from zzx zO];simp) ?_
  rintro j ⟨hj0,kP,iQ⟩;simp only [↓wR,zT,simprocAttr];by_cases zQ:a<j
  ·obtain ⟨y,hy⟩:∃ y,sp[j - 1 - a]? = some y:=⟨_,zh zO⟩;have cU:=oJ y (zm hy);have mL:decide ((j:Int) > (a:Int))=true:=zp zO;have pN:(j:Int) - 1=((j - 1:Nat):Int):=zO;have mF:j - a=j - 1 - a+1:=zO;have hc2:A++sp.take (j - a)++x::(sp.drop (j - a)++W)=A++sp.take (j - 1 - a)++y::(x::(sp.drop (j - a)++W)):=by rw [mF,jg hy];simp
   obtain ⟨X,hX⟩:∃ X,X=A++sp.take (j - 1 - a):=⟨_,rfl⟩;obtain ⟨Y,hY⟩:∃ Y,Y=sp.drop (j - a)++W:=⟨_,rfl⟩;have aV:X.length=j - 1:=by rw [hX,za,zzl];omega
   have g1:(X++y::x::Y)[j - 1]? = some y:=by rw [<- aV];exact get_at X _ y
   have g2:(X++y::x::Y)[j]? = some x:=by have:=get_at (X++[y]) Y x;rw [show (X++[y]).length=j by rw [za,aV,zyi];omega] at this;rw [<- this];simp
   have l1:=oa 0 0 63 g1;have l2:=oa 0 0 63 g2;rw [hc2,<- hX,<- hY]
   repeat (first|simp only [↓wR,zT,simprocAttr,mL,pN,↓l1,↓l2,pj,cV,cU]|simp (disch:=omega) only [zW])
   refine ⟨zK,.inl ?_⟩
   (try simp only [↓wR,zT,simprocAttr,Jr])
   refine ⟨by apply hc;kernel_rfl,?_⟩;rw [az];refine ⟨fun hl=>?_,fun hl=>?_⟩
   ·have aY:fj x y=true:=zp hl;have s1:(X++y::x::Y).set j y=X++y::y::Y:=by
     have:=uj (X++[y]) Y x y;rw [show (X++[y]).length=j by rw [za,aV,zyi];omega] at this;simpa using this
    have s2:(X++y::y::Y).set (j - 1) x=X++x::y::Y:=by rw [<- aV];exact uj X _ y x
    have g3:(X++y::y::Y)[j - 1]? = some y:=by rw [<- aV];exact get_at X _ y
    have t1:=yf y 0 63 0 g2;have t2:=yf x 0 63 0 g3;rw [s1] at t1;rw [s2] at t2
    repeat (first|simp only [↓wR,zT,simprocAttr,hl,pN,↓l1,↓l2,↓t1,↓t2]|simp (disch:=omega) only [zW])
    refine ⟨zK,.inl ?_⟩;refine ⟨by apply hc;kernel_rfl,j - 1,⟨zO,zO,fun z hz=>?_⟩,zO,zF,?_⟩
    ·rw [hy] at hz;cases hz;exact aY
    ·rw [hX,hY,mF,qj hy];simp
   ·have aY:fj x y=false:=zq hl;have hA:∀ z ∈ sp.take (j - a),fj x z=false:=by
     refine Le sq oJ sG cV zO (fun c _ hcc=>?_);rw [show j - a - 1=j - 1 - a by omega,hy] at hcc;cases hcc;exact aY
    have aT:l7 fj x sp=sp.take (j - a)++x::sp.drop (j - a):=by have:=J3 (lt:=fj) (x:=x) (sp.take (j - a)) (sp.drop (j - a)) hA (fun z hz=>by rw [List.head?_drop] at hz;exact iQ z hz);rw [zzm] at this;exact this
    repeat (first|simp only [↓wR,zT,simprocAttr,hl]|simp (disch:=omega) only [zW])
    refine ⟨i+1,⟨zO,zO⟩,zO,zF,?_⟩;rw [eJ,aT,hX,hY,hW,mF,jg hy];simp
  ·have mG:j=a:=zO;subst mG;have aT:l7 fj x sp=x::sp:=by
    have:=J3 (lt:=fj) (x:=x) [] sp (fun z hz=>by cases hz) (fun z hz=>by rw [Nat.sub_self] at iQ;rw [List.head?_eq_getElem?] at hz;exact iQ z hz);exact this
   have mL:decide ((j:Int) > (j:Int))=false:=zq zO
   repeat (first|simp only [↓wR,zT,simprocAttr,mL]|simp (disch:=omega) only [zW])
   refine ⟨zK,.inl ?_⟩;refine ⟨by apply hc;kernel_rfl,i+1,⟨zO,zO⟩,zO,zF,?_⟩;rw [eJ,aT,hW];simp
 ·have hin:L.length<=i - a:=zO;rw [zzp hin,zzx hin];simp only [↓wR,zT,simprocAttr,h,i4,ir,ig,zzn]
theorem aFd (x:Int) (h0 : 0<=x) (h1:x<9223372036854775808):IntKind.u64.wrap x=x:=by
 simp only [IntKind.wrap,IntKind.bits];have h2:x % 18446744073709551616=x:=Int.emod_eq_of_lt h0 zO
 first|(simp [IntKind.signed];omega)|(simp;omega)
theorem half (i j:Nat) (h:i+j<=4611686018427387904):IntKind.i64.wrap ((IntKind.u64.wrap ((i:Int)+j)).fdiv 2)=(((i+j) / 2:Nat):Int):=by rw [aFd _ zO zO,<- Int.natCast_add,aIj,ag _ zO zO]
theorem B2 (a b:Nat):decide ((a:Int)<(b:Int))=decide (a<b):=by simp
theorem Ni {p:Prop} [Decidable p]:(!decide p)=decide (¬ p):=by by_cases h:p<;>simp [h]
set_option maxHeartbeats 20000000 in
theorem Q3 (d:Nat):∀ (N a m b:Nat) (A L R Z:List aw),b - a<=d->N=(A++L++R++Z).length->N<=1048576->a=A.length->m=a+L.length->b=m+R.length->0<L.length->0<R.length->(∀ x ∈ L,cw x)->(∀ x ∈ R,cw x)->ke fj L->ke fj R ->
 iz PP 210 [.sl 0 0 N 5,zi a,zi m,zi b,(.sc (.func (.func 164) #[] #[]))] (ay [some (.row (cellsOf aj true ((A++L++R++Z))) 0 0 63)])
  (fun r st'=>r = .gj []/\st'=ay [some (.row (cellsOf aj true ((A++fu fj L R++Z))) 0 0 63)]):=by
 induction d with
 |zero=>intro N a m b A L R Z hd hN hs ha hm hb hl hr;omega
 |succ d ih=>
 intro N a m b A L R Z hd hN hs ha hm hb hl hr eT fL jY mR;have hc:∀ a b c d,eh a b c=d->eh a b c=d:=fun _ _ _ _ h=>h
 have hlen:N=A.length+L.length+R.length+Z.length:=by rw [hN];simp;omega
 refine dr _ rfl ?_ (fun r st' h=>h);refine cb (T:=[anl]) (ak.cons (aq Qa) (ak.nil PP)) mixed Tryz.func210 rfl zK zK zK zK ?_;unfold Tryz.f210;have eP:(m:Int) - a=((L.length:Nat):Int):=zO
 repeat (first|simp only [↓wR,zT,simprocAttr,eP]|simp (disch:=omega) only [zW])
 rw [cp];refine ⟨fun ⟨h1,e1⟩=>?_,fun ⟨h1,e1⟩=>?_⟩
 ·have jJ:L.length=1:=zO;obtain ⟨x,rfl⟩:∃ x,L=[x]:=List.length_eq_one_iff.1 jJ;have cV:=eT x (by simp);have uO:∀ k c,R[k]? = some c->(A++[x]++R++Z)[m+k]? = some c:=fun k c hk=>by
   have dB:=(zg.1 hk).1;rw [zzc (A++[x]),zzd (by simp at hm ⊢;omega),show m+k - (A++[x]).length=k by simp at hm ⊢;omega,zzi dB,hk]
  have gx:(A++[x]++R++Z)[a]? = some x:=by rw [zzc,zzc,ha];exact get_at A _ x
  repeat (first|simp only [↓wR,zT,simprocAttr,h1]|simp (disch:=omega) only [zW])
  refine da [0,1,4,10,11] (fun (p:Nat × Nat)=>[.sl 0 0 N 5,zi a,(.sc (.func (.func 164) #[] #[])),zi p.1,zi p.2]) (fun _=>[some (.row (cellsOf aj true ((A++[x]++R++Z))) 0 0 63)]) (fun p=>m<=p.1/\p.1<=p.2/\p.2<=b/\(∀ c,0<p.1 - m->R[p.1 - m - 1]? = some c->fj c x=true)/\(∀ c,R[p.2 - m]? = some c->fj c x=false)) (fun p=>p.2 - p.1) (m,b) ⟨zza _,by show m<=b;omega,zza _,fun c hq=>by simp at hq,fun c hq=>by rw [zzy (by show R.length<=b - m;omega)] at hq;cases hq⟩ zS zS ?_;rintro ⟨i,j⟩ ⟨p1,p2,p3,p4,p5⟩;simp only [] at p1 p2 p3 p4 p5 ⊢;simp only [↓wR,zT,simprocAttr];rw [az];refine ⟨fun h=>?_,fun h=>?_⟩
  ·have hlt:i<j:=zO;obtain ⟨u,hu⟩:∃ u,u=(i+j) / 2:=⟨_,rfl⟩;have lD:i<=u/\u<j:=zO;have bB:=half i j zO;rw [<- hu] at bB;obtain ⟨y,hy⟩:∃ y,R[u - m]? = some y:=⟨_,zh zO⟩;have cU:=fL y (zm hy);have gy:=uO _ _ hy;rw [show m+(u - m)=u by omega] at gy;have l1:=oa 0 0 63 gx;have l2:=oa 0 0 63 gy
   repeat (first|simp only [↓wR,zT,simprocAttr,h,bB,↓l1,↓l2,pj,cV,cU]|simp (disch:=omega) only [zW])
   refine ⟨zK,.inl ?_⟩
   (try simp only [↓wR,zT,simprocAttr,Jr])
   refine ⟨by apply hc;kernel_rfl,?_⟩;rw [az];refine ⟨fun hl=>?_,fun hl=>?_⟩
   ·have aY:fj y x=true:=zp hl
    repeat (first|simp only [↓wR,zT,simprocAttr,hl]|simp (disch:=omega) only [zW])
    exact ⟨(u+1,j),⟨by show m<=u+1;omega,by show u+1<=j;omega,p3,fun c _ hcc=>by have aM:R[u+1 - m - 1]? = some c:=hcc;rw [show u+1 - m - 1=u - m by omega,hy] at aM;cases aM;exact aY,p5⟩,by show j - (u+1)<j - i;omega,zF⟩
   ·have aY:fj y x=false:=zq hl
    repeat (first|simp only [↓wR,zT,simprocAttr,hl]|simp (disch:=omega) only [zW])
    exact ⟨(i,u),⟨p1,by show i<=u;omega,by show u<=b;omega,p4,fun c hcc=>by have aM:R[u - m]? = some c:=hcc;rw [hy] at aM;cases aM;exact aY⟩,by show u - i<j - i;omega,zF⟩
  ·have cJ:j=i:=zO;subst cJ;have dY:=afe (lt:=fj) (x:=x) (l:=R) (i:=j - m) (ad4 sq fL mR cV zO p4) p5;obtain ⟨R1,hR1⟩:∃ R1,R1=R.take (j - m):=⟨_,rfl⟩;obtain ⟨R2,hR2⟩:∃ R2,R2=R.drop (j - m):=⟨_,rfl⟩;have fK:R=R1++R2:=by rw [hR1,hR2,zzm]
   have uP:R1.length=j - m:=by rw [hR1,zzl];omega
   rw [<- hR1,<- hR2] at dY;rw [dY];simp only [↓wR,zT,simprocAttr,h];refine da [0,10,13] (fun (k:Nat)=>[.sl 0 0 N 5,zi j,zi k]) (fun k=>[some (.row (cellsOf aj true ((A++R1.take (k - a)++x::(R1.drop (k - a)++R2++Z)))) 0 0 63)]) (fun k=>a<=k/\k+1<=j) (fun k=>j - k) a ⟨zza _,zO⟩ zS (by simp only [↓wR,zT,simprocAttr];rw [fK];simp) ?_;rintro k ⟨k1,k2⟩
   repeat (first|simp only [↓wR,zT,simprocAttr]|simp (disch:=omega) only [zW])
   rw [az];refine ⟨fun hk=>?_,fun hk=>?_⟩
   ·have dB:k+1<j:=zO;obtain ⟨y,hy⟩:∃ y,R1[k - a]? = some y:=⟨_,zh zO⟩;obtain ⟨X,hX⟩:∃ X,X=A++R1.take (k - a):=⟨_,rfl⟩;obtain ⟨W,hW⟩:∃ W,W=R1.drop (k - a+1)++R2++Z:=⟨_,rfl⟩;have aV:X.length=k:=by rw [hX,za,zzl];omega
    have bE:A++R1.take (k - a)++x::(R1.drop (k - a)++R2++Z)=X++x::y::W:=by rw [hX,hW,qj hy];simp
    have lq:A++R1.take (k+1 - a)++x::(R1.drop (k+1 - a)++R2++Z)=X++y::x::W:=by rw [hX,hW,show k+1 - a=k - a+1 by omega,jg hy];simp
    have g1:(X++x::y::W)[k]? = some x:=by rw [<- aV];exact get_at X _ x
    have hx1:(X++[x]).length=k+1:=by rw [za,aV];rfl
    have hy1:(X++[y]).length=k+1:=by rw [za,aV];rfl
    have g2:(X++x::y::W)[k+1]? = some y:=by have:=get_at (X++[x]) W y;rw [hx1] at this;rw [<- this];simp
    have s1:(X++x::y::W).set k y=X++y::y::W:=by rw [<- aV];exact uj X _ x y
    have g3:(X++y::y::W)[k+1]? = some y:=by have:=get_at (X++[y]) W y;rw [hy1] at this;rw [<- this];simp
    have s2:(X++y::y::W).set (k+1) x=X++y::x::W:=by have:=uj (X++[y]) W y x;rw [hy1] at this;simpa using this
    have l1:=oa 0 0 63 g1;have l2:=oa 0 0 63 g2;have t1:=yf y 0 63 0 g1;have t2:=yf x 0 63 0 g3;rw [s1] at t1;rw [s2] at t2;have eN:(k:Int)+1=((k+1:Nat):Int):=zO;rw [bE]
    repeat (first|simp only [↓wR,zT,simprocAttr,hk,eN,↓l1,↓l2,↓t1,↓t2]|simp (disch:=omega) only [zW])
    refine ⟨zK,.inl ?_⟩;exact ⟨by apply hc;kernel_rfl,k+1,⟨zO,zO⟩,zO,zF,by rw [lq]⟩
   ·have hkj:k - a=R1.length:=zO;rw [hkj,zz7,List.drop_length];simp only [↓wR,zT,simprocAttr,hk,i4,ir,ig,zzn];simp
 ·have jJ:L.length≠1:=zO;have bG:(b:Int) - m=((R.length:Nat):Int):=zO
  repeat (first|simp only [↓wR,zT,simprocAttr,h1,bG]|simp (disch:=omega) only [zW])
  rw [cp];refine ⟨fun ⟨h2,e2⟩=>?_,fun ⟨h2,e2⟩=>?_⟩
  ·have hR1:R.length=1:=zO;obtain ⟨y,rfl⟩:∃ y,R=[y]:=List.length_eq_one_iff.1 hR1;have cU:=fL y (by simp);have uR:∀ k c,L[k]? = some c->(A++L++[y]++Z)[a+k]? = some c:=fun k c hk=>by
    have dB:=(zg.1 hk).1;rw [zzc,zzc,zzd zO,show a+k - A.length=k by omega,zzi dB,hk]
   have gy:(A++L++[y]++Z)[m]? = some y:=by rw [zzc,show m=(A++L).length by rw [za];omega];exact get_at (A++L) _ y
   repeat (first|simp only [↓wR,zT,simprocAttr,h2]|simp (disch:=omega) only [zW])
   refine da [0,2,4,14,15] (fun (p:Nat × Nat)=>[.sl 0 0 N 5,zi m,(.sc (.func (.func 164) #[] #[])),zi p.1,zi p.2]) (fun _=>[some (.row (cellsOf aj true ((A++L++[y]++Z))) 0 0 63)]) (fun p=>a<=p.1/\p.1<=p.2/\p.2<=m/\(∀ c,0<p.1 - a->L[p.1 - a - 1]? = some c->fj y c=false)/\(∀ c,L[p.2 - a]? = some c->fj y c=true)) (fun p=>p.2 - p.1) (a,m) ⟨zza _,by show a<=m;omega,zza _,fun c hq=>by simp at hq,fun c hq=>by rw [zzy (by show L.length<=m - a;omega)] at hq;cases hq⟩ zS zS ?_;rintro ⟨i,j⟩ ⟨p1,p2,p3,p4,p5⟩;simp only [] at p1 p2 p3 p4 p5 ⊢;simp only [↓wR,zT,simprocAttr];rw [az];refine ⟨fun h=>?_,fun h=>?_⟩
   ·have hlt:i<j:=zO;obtain ⟨u,hu⟩:∃ u,u=(i+j) / 2:=⟨_,rfl⟩;have lD:i<=u/\u<j:=zO;have bB:=half i j zO;rw [<- hu] at bB;obtain ⟨x,hx⟩:∃ x,L[u - a]? = some x:=⟨_,zh zO⟩;have cV:=eT x (zm hx);have gx:=uR _ _ hx;rw [show a+(u - a)=u by omega] at gx;have l1:=oa 0 0 63 gx;have l2:=oa 0 0 63 gy
    repeat (first|simp only [↓wR,zT,simprocAttr,h,bB,↓l1,↓l2,pj,cV,cU]|simp (disch:=omega) only [zW])
    refine ⟨zK,.inl ?_⟩;simp only [↓wR,zT,simprocAttr,Jr,Ni];refine ⟨by apply hc;kernel_rfl,?_⟩;rw [az];refine ⟨fun hl=>?_,fun hl=>?_⟩
    ·have aY:fj y x=false:=zq hl
     repeat (first|simp only [↓wR,zT,simprocAttr,hl]|simp (disch:=omega) only [zW])
     exact ⟨(u+1,j),⟨by show a<=u+1;omega,by show u+1<=j;omega,p3,fun c _ hcc=>by have aM:L[u+1 - a - 1]? = some c:=hcc;rw [show u+1 - a - 1=u - a by omega,hx] at aM;cases aM;exact aY,p5⟩,by show j - (u+1)<j - i;omega,zF⟩
    ·have aY:fj y x=true:=zp (Decidable.not_not.1 hl)
     repeat (first|simp only [↓wR,zT,simprocAttr,hl]|simp (disch:=omega) only [zW])
     exact ⟨(i,u),⟨p1,by show i<=u;omega,by show u<=m;omega,p4,fun c hcc=>by have aM:L[u - a]? = some c:=hcc;rw [hx] at aM;cases aM;exact aY⟩,by show u - i<j - i;omega,zF⟩
   ·have cJ:j=i:=zO;subst cJ;have dY:=Ys (lt:=fj) (y:=y) (l:=L) (i:=j - a) (Le sq eT jY cU zO p4) (afd sq eT jY cU p5);obtain ⟨L1,bV⟩:∃ L1,L1=L.take (j - a):=⟨_,rfl⟩;obtain ⟨L2,bU⟩:∃ L2,L2=L.drop (j - a):=⟨_,rfl⟩;have fM:L=L1++L2:=by rw [bV,bU,zzm]
    have bY:L1.length=j - a:=by rw [bV,zzl];omega
    have hl2:L2.length=m - j:=by rw [bU,zzt];omega
    rw [<- bV,<- bU] at dY;rw [dY];simp only [↓wR,zT,simprocAttr,h];refine da [0,14,17] (fun (k:Nat)=>[.sl 0 0 N 5,zi j,zi k]) (fun k=>[some (.row (cellsOf aj true ((A++L1++L2.take (k - j)++y::(L2.drop (k - j)++Z)))) 0 0 63)]) (fun k=>j<=k/\k<=m) (fun k=>k) m ⟨zO,zza _⟩ zS (by simp only [↓wR,zT,simprocAttr];rw [<- hl2,zz7,List.drop_length,fM];simp) ?_;rintro k ⟨k1,k2⟩
    repeat (first|simp only [↓wR,zT,simprocAttr]|simp (disch:=omega) only [zW])
    rw [az];refine ⟨fun hk=>?_,fun hk=>?_⟩
    ·have dB:j<k:=zO;obtain ⟨x,hx⟩:∃ x,L2[k - 1 - j]? = some x:=⟨_,zh zO⟩;obtain ⟨X,hX⟩:∃ X,X=A++L1++L2.take (k - 1 - j):=⟨_,rfl⟩;obtain ⟨W,hW⟩:∃ W,W=L2.drop (k - j)++Z:=⟨_,rfl⟩;have mE:k - j=k - 1 - j+1:=zO;have aV:X.length=k - 1:=by rw [hX,za,za,zzl];omega
     have bE:A++L1++L2.take (k - j)++y::(L2.drop (k - j)++Z)=X++x::y::W:=by rw [hX,hW,mE,jg hx];simp
     have lq:A++L1++L2.take (k - 1 - j)++y::(L2.drop (k - 1 - j)++Z)=X++y::x::W:=by rw [hX,hW,qj hx,mE];simp
     have g1:(X++x::y::W)[k - 1]? = some x:=by rw [<- aV];exact get_at X _ x
     have hx1:(X++[x]).length=k:=by rw [za,aV,zyi];omega
     have g2:(X++x::y::W)[k]? = some y:=by have:=get_at (X++[x]) W y;rw [hx1] at this;rw [<- this];simp
     have s1:(X++x::y::W).set k x=X++x::x::W:=by have:=uj (X++[x]) W y x;rw [hx1] at this;simpa using this
     have g3:(X++x::x::W)[k - 1]? = some x:=by rw [<- aV];exact get_at X _ x
     have s2:(X++x::x::W).set (k - 1) y=X++y::x::W:=by rw [<- aV];exact uj X _ x y
     have l1:=oa 0 0 63 g1;have l2:=oa 0 0 63 g2;have t1:=yf x 0 63 0 g2;have t2:=yf y 0 63 0 g3;rw [s1] at t1;rw [s2] at t2;have eN:(k:Int) - 1=((k - 1:Nat):Int):=zO;rw [bE]
     repeat (first|simp only [↓wR,zT,simprocAttr,hk,eN,↓l1,↓l2,↓t1,↓t2]|simp (disch:=omega) only [zW])
     refine ⟨zK,.inl ?_⟩;exact ⟨by apply hc;kernel_rfl,k - 1,⟨zO,zO⟩,zO,zF,by rw [lq]⟩
    ·have hkj:k - j=0:=zO;rw [hkj];simp only [↓wR,zT,simprocAttr,hk,i4,ir,ig,zzn];simp
  ·have hR1:R.length≠1:=zO;obtain ⟨mid,eL⟩:∃ mid,mid=(a+b) / 2:=⟨_,rfl⟩;have bB:=half a b zO;rw [<- eL] at bB;have hmm:(mid:Int)+m=((mid+m:Nat):Int):=zO;obtain ⟨n,hn⟩:∃ n,n=mid+m:=⟨_,rfl⟩;rw [<- hn] at hmm;obtain ⟨s0,hs0⟩:∃ s0,s0=if mid<m then n - b else a:=⟨_,rfl⟩;obtain ⟨r0,iG⟩:∃ r0,r0=if mid<m then mid else m:=⟨_,rfl⟩;have eU:(n:Int) - 1=((n - 1:Nat):Int):=zO;have oD:a<=s0/\s0<=r0/\r0<=m/\r0<=mid/\n - b<=s0:=by subst hs0 iG;split<;>omega
   obtain ⟨X0,fJ⟩:∃ X0,X0=A++L++R++Z:=⟨_,rfl⟩;have qM:∀ k c,L[k]? = some c->X0[a+k]? = some c:=fun k c hk=>by have dB:=(zg.1 hk).1;rw [fJ,zzc,zzc,zzd zO,show a+k - A.length=k by omega,zzi dB,hk]
   have qL:∀ k c,R[k]? = some c->X0[m+k]? = some c:=fun k c hk=>by have dB:=(zg.1 hk).1;rw [fJ,zzc (A++L),zzd (by rw [za];omega),za,show m+k - (A.length+L.length)=k by omega,zzi dB,hk]
   rw [<- fJ];have iV:∀ st,s0<=st->st<=r0->(∀ c e,s0<st->L[st - 1 - a]? = some c->R[n - st - m]? = some e->fj e c=false)->(∀ c e,st<r0->L[st - a]? = some c->R[n - 1 - st - m]? = some e->fj e c=true) ->
    ∃ X1 X2,(st<m->m<n - st->iz PP 214 [.sl 0 0 N 5,zi st,zi m,zi ((n - st:Nat)),(.sc (.func (.func 164) #[] #[]))] (ay [some (.row (cellsOf aj true ((X0))) 0 0 63)]) (fun r st'=>r = .gj []/\st'=ay [some (.row (cellsOf aj true ((X1))) 0 0 63)]))/\(¬ (st<m/\m<n - st)->X0=X1) /\
     (a<st->st<mid->iz PP 210 [.sl 0 0 N 5,zi a,zi st,zi mid,(.sc (.func (.func 164) #[] #[]))] (ay [some (.row (cellsOf aj true ((X1))) 0 0 63)]) (fun r st'=>r = .gj []/\st'=ay [some (.row (cellsOf aj true ((X2))) 0 0 63)]))/\(¬ (a<st/\st<mid)->X1=X2) /\
     (mid<n - st->n - st<b->iz PP 210 [.sl 0 0 N 5,zi mid,zi ((n - st:Nat)),zi b,(.sc (.func (.func 164) #[] #[]))] (ay [some (.row (cellsOf aj true ((X2))) 0 0 63)]) (fun r st'=>r = .gj []/\st'=ay [some (.row (cellsOf aj true ((A++fu fj L R++Z))) 0 0 63)]))/\(¬ (mid<n - st/\n - st<b)->X2=A++fu fj L R++Z):=by
    intro st q1 q2 q3 q4;obtain ⟨L1,bV⟩:∃ L1,L1=L.take (st - a):=⟨_,rfl⟩;obtain ⟨L2,bU⟩:∃ L2,L2=L.drop (st - a):=⟨_,rfl⟩;obtain ⟨R1,dU⟩:∃ R1,R1=R.take (mid - st):=⟨_,rfl⟩;obtain ⟨R2,dT⟩:∃ R2,R2=R.drop (mid - st):=⟨_,rfl⟩;have fM:L=L1++L2:=by rw [bV,bU,zzm]
    have fK:R=R1++R2:=by rw [dU,dT,zzm]
    have n1:L1.length=st - a:=by rw [bV,zzl];omega
    have n2:L2.length=m - st:=by rw [bU,zzt];omega
    have n3:R1.length=mid - st:=by rw [dU,zzl];omega
    have n4:R2.length=b - (n - st):=by rw [dT,zzt];omega
    have r1:ke fj L1:=by rw [bV];exact jY.take _
    have r2:ke fj L2:=by rw [bU];exact jY.drop _
    have r3:ke fj R1:=by rw [dU];exact mR.take _
    have r4:ke fj R2:=by rw [dT];exact mR.drop _
    have v1:∀ x ∈ L1,cw x:=fun x hx=>eT x (by rw [fM];simp [hx])
    have v2:∀ x ∈ L2,cw x:=fun x hx=>eT x (by rw [fM];simp [hx])
    have v3:∀ x ∈ R1,cw x:=fun x hx=>fL x (by rw [fK];simp [hx])
    have v4:∀ x ∈ R2,cw x:=fun x hx=>fL x (by rw [fK];simp [hx])
    have f1:∀ x ∈ L1,∀ y ∈ R2,fj y x=false:=by
     by_cases k1:a<st
     ·by_cases k2:n - st<b
      ·obtain ⟨c,hcc⟩:∃ c,L[st - 1 - a]? = some c:=⟨_,zh zO⟩;obtain ⟨e,cC⟩:∃ e,R[n - st - m]? = some e:=⟨_,zh zO⟩;have hlt:=q3 c e (by subst hs0;split<;>omega) hcc cC;have t1:L1=L.take (st - 1 - a)++[c]:=by rw [bV,show st - a=st - 1 - a+1 by omega,jg hcc]
       have t2:R2=e::R.drop (n - st - m+1):=by rw [dT,show mid - st=n - st - m by omega,qj cC]
       rw [t1,t2];exact Rj sq (fun z hz=>v1 z (by rw [t1];exact hz)) (fun z hz=>v4 z (by rw [t2];exact hz)) (by rw [<- t1];exact r1) (by rw [<- t2];exact r4) hlt
      ·have:R2=[]:=zzf zO;rw [this];intro x _ y hy;cases hy
     ·have:L1=[]:=zzf zO;rw [this];intro x hx;cases hx
    have f2:∀ x ∈ L2,∀ y ∈ R1,fj y x=true:=by
     by_cases k1:st<m
     ·by_cases k2:st<mid
      ·obtain ⟨c,hcc⟩:∃ c,L[st - a]? = some c:=⟨_,zh zO⟩;obtain ⟨e,cC⟩:∃ e,R[n - 1 - st - m]? = some e:=⟨_,zh zO⟩;have hlt:=q4 c e (by subst iG;split<;>omega) hcc cC;have t1:L2=c::L.drop (st - a+1):=by rw [bU,qj hcc]
       have t2:R1=R.take (n - 1 - st - m)++[e]:=by rw [dU,show mid - st=n - 1 - st - m+1 by omega,jg cC]
       rw [t1,t2];exact O4 sq (fun z hz=>v2 z (by rw [t1];exact hz)) (fun z hz=>v3 z (by rw [t2];exact hz)) (by rw [<- t1];exact r2) (by rw [<- t2];exact r3) hlt
      ·have:R1=[]:=zzf zO;rw [this];intro x _ y hy;cases hy
     ·have:L2=[]:=zzf zO;rw [this];intro x hx;cases hx
    have pF:fu fj L R=fu fj L1 R1++fu fj L2 R2:=by rw [fM,fK];exact sy L1 L2 R1 R2 f1 f2
    have m1:(fu fj L1 R1).length=mid - a:=by rw [Z5];omega
    have BI:N=A.length+L1.length+L2.length+R1.length+R2.length+Z.length:=zO;refine ⟨A++L1++R1++(L2++R2++Z),A++fu fj L1 R1++(L2++R2++Z),fun k1 k2=>?_,fun k=>?_,fun k1 k2=>?_,fun k=>?_,fun k1 k2=>?_,fun k=>?_⟩
    ·have:=alx N st m (n - st) (A++L1) L2 R1 (R2++Z) (by simp only [za];omega) hs (by rw [za];omega) zO zO zO zO;rw [show A++L1++L2++R1++(R2++Z)=X0 by rw [fJ,fM,fK];simp,show A++L1++R1++L2++(R2++Z)=A++L1++R1++(L2++R2++Z) by simp] at this;exact this
    ·rw [fJ,fM,fK];by_cases k1:st<m
     ·have:R1=[]:=zzf zO;rw [this];simp
     ·have:L2=[]:=zzf zO;rw [this];simp
    ·exact ih N a st mid A L1 R1 (L2++R2++Z) zO (by simp only [za];omega) hs ha zO zO zO zO v1 v3 r1 r3
    ·by_cases k1:a<st
     ·have:R1=[]:=zzf zO;rw [this,k8];simp
     ·have:L1=[]:=zzf zO;rw [this,mb];simp
    ·have:=ih N mid (n - st) b (A++fu fj L1 R1) L2 R2 Z zO (by simp only [za,m1];omega) hs (by rw [za,m1];omega) zO zO zO zO v2 v4 r2 r4;rw [pF];rw [show A++fu fj L1 R1++L2++R2++Z=A++fu fj L1 R1++(L2++R2++Z) by simp,show A++fu fj L1 R1++fu fj L2 R2++Z=A++(fu fj L1 R1++fu fj L2 R2)++Z by simp] at this;exact this
    ·rw [pF];by_cases k1:mid<n - st
     ·have:R2=[]:=zzf zO;rw [this,k8];simp
     ·have:L2=[]:=zzf zO;rw [this,mb];simp
   repeat (first|simp only [↓wR,zT,simprocAttr,h2,bB,hmm]|simp (disch:=omega) only [zW])
   rw [az];refine ⟨fun hg=>?_,fun hg=>?_⟩
   ·have e3:(n:Int) - b=((s0:Nat):Int):=by rw [hs0,if_pos zO];omega
    have e4:((mid:Nat):Int)=((r0:Nat):Int):=by rw [iG,if_pos zO]
    repeat (first|simp only [↓wR,zT,simprocAttr,hg,e3,eU]|simp (disch:=omega) only [zW])
    refine da [0,1,2,3,4,18,19,20,21,22] (fun (p:Nat × Nat)=>[.sl 0 0 N 5,zi a,zi m,zi b,(.sc (.func (.func 164) #[] #[])),zi mid,zi n,zi p.1,zi p.2,zi (((n - 1:Nat):Int))]) (fun _=>[some (.row (cellsOf aj true ((X0))) 0 0 63)]) (fun p=>s0<=p.1/\p.1<=p.2/\p.2<=r0/\(∀ c e,s0<p.1->L[p.1 - 1 - a]? = some c->R[n - p.1 - m]? = some e->fj e c=false)/\(∀ c e,p.2<r0->L[p.2 - a]? = some c->R[n - 1 - p.2 - m]? = some e->fj e c=true)) (fun p=>p.2 - p.1) (s0,r0) ⟨zza _,oD.2.1,zza _,fun _ _ q=>absurd q (Nat.lt_irrefl _),fun _ _ q=>absurd q (Nat.lt_irrefl _)⟩ (by simp only [↓wR,zT,simprocAttr];rw [e4]) zS ?_;rintro ⟨i,j⟩ ⟨p1,p2,p3,p4,p5⟩;simp only [] at p1 p2 p3 p4 p5 ⊢;simp only [↓wR,zT,simprocAttr];rw [az];refine ⟨fun h=>?_,fun h=>?_⟩
    ·have hlt:i<j:=zO;obtain ⟨u,hu⟩:∃ u,u=(i+j) / 2:=⟨_,rfl⟩;have lD:i<=u/\u<j:=zO;have bC:=half i j zO;rw [<- hu] at bC;obtain ⟨x,hx⟩:∃ x,L[u - a]? = some x:=⟨_,zh zO⟩;obtain ⟨y,hy⟩:∃ y,R[n - 1 - u - m]? = some y:=⟨_,zh zO⟩;have cV:=eT x (zm hx);have cU:=fL y (zm hy);have gx:=qM _ _ hx;rw [show a+(u - a)=u by omega] at gx;have gy:=qL _ _ hy;rw [show m+(n - 1 - u - m)=n - 1 - u by omega] at gy;have lR:((n - 1:Nat):Int) - u=((n - 1 - u:Nat):Int):=zO;have l1:=oa 0 0 63 gx;have l2:=oa 0 0 63 gy
     repeat (first|simp only [↓wR,zT,simprocAttr,h,bC,lR,↓l1,↓l2,pj,cV,cU]|simp (disch:=omega) only [zW])
     refine ⟨zK,.inl ?_⟩;simp only [↓wR,zT,simprocAttr,Jr,Ni];refine ⟨by apply hc;kernel_rfl,?_⟩;rw [az];refine ⟨fun hl=>?_,fun hl=>?_⟩
     ·have aY:fj y x=false:=zq hl
      repeat (first|simp only [↓wR,zT,simprocAttr,hl]|simp (disch:=omega) only [zW])
      exact ⟨(u+1,j),⟨by show s0<=u+1;omega,by show u+1<=j;omega,p3,fun c e _ hcc cC=>by have aM:L[u+1 - 1 - a]? = some c:=hcc;have bD:R[n - (u+1) - m]? = some e:=cC;rw [show u+1 - 1 - a=u - a by omega,hx] at aM;rw [show n - (u+1) - m=n - 1 - u - m by omega,hy] at bD;cases aM;cases bD;exact aY,p5⟩,by show j - (u+1)<j - i;omega,zF⟩
     ·have aY:fj y x=true:=zp (Decidable.not_not.1 hl)
      repeat (first|simp only [↓wR,zT,simprocAttr,hl]|simp (disch:=omega) only [zW])
      exact ⟨(i,u),⟨p1,by show i<=u;omega,by show u<=r0;omega,p4,fun c e _ hcc cC=>by have aM:L[u - a]? = some c:=hcc;have bD:R[n - 1 - u - m]? = some e:=cC;rw [hx] at aM;rw [hy] at bD;cases aM;cases bD;exact aY⟩,by show u - i<j - i;omega,zF⟩
    ·have cJ:j=i:=zO;subst cJ;obtain ⟨X1,X2,c1,c2,c3,c4,c5,c6⟩:=iV j p1 p3 p4 p5;have hen:(n:Int) - j=((n - j:Nat):Int):=zO;obtain ⟨en,fH⟩:∃ en,en=n - j:=⟨_,rfl⟩;rw [<- fH] at c1 c2 c5 c6 hen;obtain ⟨X3,mQ⟩:∃ X3,X3=A++fu fj L R++Z:=⟨_,rfl⟩;rw [<- mQ] at c5 c6 ⊢;have b1:m<en↔j<mid:=zO;have b2:mid<en↔j<m:=zO;by_cases k1:a<j<;>by_cases k2:j<m<;>by_cases k3:j<mid<;>by_cases k4:en<b<;>first
      |(exfalso;omega)
      |(
       have d1:=k1;have d2:=k2;have d3:=k3;have d4:=k4;have hwr:IntKind.i64.wrap (en:Int)=en:=ag _ zO zO;have d5:decide (m<en)=decide (j<mid):=decide_eq_decide.2 b1;have d6:decide (mid<en)=decide (j<m):=decide_eq_decide.2 b2
       (try rw [c2 zO])
       simp only [↓wR,zT,simprocAttr,h,hen,hwr,B2,d1,d2,d3,d4,d5,d6]
       (try (refine fy (c1 zO zO) ?_;rintro _ _ ⟨rfl,rfl⟩;simp only [↓wR,zT,simprocAttr,dm,h,hen,hwr,B2,d1,d2,d3,d4,d5,d6]))
       (try rw [c4 zO])
       (try (refine fy (c3 zO zO) ?_;rintro _ _ ⟨rfl,rfl⟩;simp only [↓wR,zT,simprocAttr,dm,h,hen,hwr,B2,d1,d2,d3,d4,d5,d6]))
       (try rw [c6 zO])
       (try (refine fy (c5 zO zO) ?_;rintro _ _ ⟨rfl,rfl⟩;simp only [↓wR,zT,simprocAttr,dm,h,hen,hwr,B2,d1,d2,d3,d4,d5,d6]))
       simp only [↓wR,zT,simprocAttr,i4,ir,ig])
   ·have e3:((a:Nat):Int)=((s0:Nat):Int):=by rw [hs0,if_neg zO]
    have e4:((m:Nat):Int)=((r0:Nat):Int):=by rw [iG,if_neg zO]
    repeat (first|simp only [↓wR,zT,simprocAttr,hg,eU]|simp (disch:=omega) only [zW])
    refine da [0,1,2,3,4,18,19,20,21,22] (fun (p:Nat × Nat)=>[.sl 0 0 N 5,zi a,zi m,zi b,(.sc (.func (.func 164) #[] #[])),zi mid,zi n,zi p.1,zi p.2,zi (((n - 1:Nat):Int))]) (fun _=>[some (.row (cellsOf aj true ((X0))) 0 0 63)]) (fun p=>s0<=p.1/\p.1<=p.2/\p.2<=r0/\(∀ c e,s0<p.1->L[p.1 - 1 - a]? = some c->R[n - p.1 - m]? = some e->fj e c=false)/\(∀ c e,p.2<r0->L[p.2 - a]? = some c->R[n - 1 - p.2 - m]? = some e->fj e c=true)) (fun p=>p.2 - p.1) (s0,r0) ⟨zza _,oD.2.1,zza _,fun _ _ q=>absurd q (Nat.lt_irrefl _),fun _ _ q=>absurd q (Nat.lt_irrefl _)⟩ (by simp only [↓wR,zT,simprocAttr];rw [<- e3,<- e4]) zS ?_;rintro ⟨i,j⟩ ⟨p1,p2,p3,p4,p5⟩;simp only [] at p1 p2 p3 p4 p5 ⊢;simp only [↓wR,zT,simprocAttr];rw [az];refine ⟨fun h=>?_,fun h=>?_⟩
    ·have hlt:i<j:=zO;obtain ⟨u,hu⟩:∃ u,u=(i+j) / 2:=⟨_,rfl⟩;have lD:i<=u/\u<j:=zO;have bC:=half i j zO;rw [<- hu] at bC;obtain ⟨x,hx⟩:∃ x,L[u - a]? = some x:=⟨_,zh zO⟩;obtain ⟨y,hy⟩:∃ y,R[n - 1 - u - m]? = some y:=⟨_,zh zO⟩;have cV:=eT x (zm hx);have cU:=fL y (zm hy);have gx:=qM _ _ hx;rw [show a+(u - a)=u by omega] at gx;have gy:=qL _ _ hy;rw [show m+(n - 1 - u - m)=n - 1 - u by omega] at gy;have lR:((n - 1:Nat):Int) - u=((n - 1 - u:Nat):Int):=zO;have l1:=oa 0 0 63 gx;have l2:=oa 0 0 63 gy
     repeat (first|simp only [↓wR,zT,simprocAttr,h,bC,lR,↓l1,↓l2,pj,cV,cU]|simp (disch:=omega) only [zW])
     refine ⟨zK,.inl ?_⟩;simp only [↓wR,zT,simprocAttr,Jr,Ni];refine ⟨by apply hc;kernel_rfl,?_⟩;rw [az];refine ⟨fun hl=>?_,fun hl=>?_⟩
     ·have aY:fj y x=false:=zq hl
      repeat (first|simp only [↓wR,zT,simprocAttr,hl]|simp (disch:=omega) only [zW])
      exact ⟨(u+1,j),⟨by show s0<=u+1;omega,by show u+1<=j;omega,p3,fun c e _ hcc cC=>by have aM:L[u+1 - 1 - a]? = some c:=hcc;have bD:R[n - (u+1) - m]? = some e:=cC;rw [show u+1 - 1 - a=u - a by omega,hx] at aM;rw [show n - (u+1) - m=n - 1 - u - m by omega,hy] at bD;cases aM;cases bD;exact aY,p5⟩,by show j - (u+1)<j - i;omega,zF⟩
     ·have aY:fj y x=true:=zp (Decidable.not_not.1 hl)
      repeat (first|simp only [↓wR,zT,simprocAttr,hl]|simp (disch:=omega) only [zW])
      exact ⟨(i,u),⟨p1,by show i<=u;omega,by show u<=r0;omega,p4,fun c e _ hcc cC=>by have aM:L[u - a]? = some c:=hcc;have bD:R[n - 1 - u - m]? = some e:=cC;rw [hx] at aM;rw [hy] at bD;cases aM;cases bD;exact aY⟩,by show u - i<j - i;omega,zF⟩
    ·have cJ:j=i:=zO;subst cJ;obtain ⟨X1,X2,c1,c2,c3,c4,c5,c6⟩:=iV j p1 p3 p4 p5;have hen:(n:Int) - j=((n - j:Nat):Int):=zO;obtain ⟨en,fH⟩:∃ en,en=n - j:=⟨_,rfl⟩;rw [<- fH] at c1 c2 c5 c6 hen;obtain ⟨X3,mQ⟩:∃ X3,X3=A++fu fj L R++Z:=⟨_,rfl⟩;rw [<- mQ] at c5 c6 ⊢;have b1:m<en↔j<mid:=zO;have b2:mid<en↔j<m:=zO;by_cases k1:a<j<;>by_cases k2:j<m<;>by_cases k3:j<mid<;>by_cases k4:en<b<;>first
      |(exfalso;omega)
      |(
       have d1:=k1;have d2:=k2;have d3:=k3;have d4:=k4;have hwr:IntKind.i64.wrap (en:Int)=en:=ag _ zO zO;have d5:decide (m<en)=decide (j<mid):=decide_eq_decide.2 b1;have d6:decide (mid<en)=decide (j<m):=decide_eq_decide.2 b2
       (try rw [c2 zO])
       simp only [↓wR,zT,simprocAttr,h,hen,hwr,B2,d1,d2,d3,d4,d5,d6]
       (try (refine fy (c1 zO zO) ?_;rintro _ _ ⟨rfl,rfl⟩;simp only [↓wR,zT,simprocAttr,dm,h,hen,hwr,B2,d1,d2,d3,d4,d5,d6]))
       (try rw [c4 zO])
       (try (refine fy (c3 zO zO) ?_;rintro _ _ ⟨rfl,rfl⟩;simp only [↓wR,zT,simprocAttr,dm,h,hen,hwr,B2,d1,d2,d3,d4,d5,d6]))
       (try rw [c6 zO])
       (try (refine fy (c5 zO zO) ?_;rintro _ _ ⟨rfl,rfl⟩;simp only [↓wR,zT,simprocAttr,dm,h,hen,hwr,B2,d1,d2,d3,d4,d5,d6]))
       simp only [↓wR,zT,simprocAttr,i4,ir,ig])
end Go.Proofs.YtjagjbceegbaiaaGreat
end
