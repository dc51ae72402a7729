/- A piece of the proof of the law AnswerSteps: lemmas. No condition. -/
import Derived.Test.YtgencolcibpcaaaGreatProg
import Derived.Test.YtgencolcibpcaaaGreatRows
import Derived.Test.YtgencolcibpcaaaGreatQ4
set_option linter.unusedSimpArgs false
set_option linter.unusedVariables false
set_option linter.unusedSectionVars false
set_option maxRecDepth 2000000
section
namespace Go.Proofs.YtgencolcibpcaaaGreat
open Go.Vm
theorem awg {t:UInt16} {d:cj} (h:my t=true):l7 t d=d:=by
 have hk:(cz t).names=0:=by
  unfold my at h;unfold cz
  repeat' split
  all_goals first|rfl|(exfalso;simp at h;omega)
 unfold l7;rw [hk,if_neg zO]
theorem afx (t:UInt16) : 0<=(cz t).names:=by
 unfold cz
 repeat' split
 all_goals decide
set_option maxHeartbeats 4000000 in
theorem awk (t:UInt16) (d:cj) (hd:c7 d):wl PP [rOf,afw] 0 (Tryz.f168.body.getD .skip) (c8 PP Tryz.f168.results.toList (fun r st=>(r1 bc).get false st.h r=some (l7 t d))) (cg 0 [cf.val false t,bc.val false d]) (bh []):=by
 have hl:=hd.lens;have aS:=afx t;unfold Tryz.f168;simp only [gq,bw];simp only [↓wR,zT,simprocAttr,ae5,vj];rw [cq];refine ⟨fun hb=>?_,fun hb=>?_⟩
 ·have hb':my t=true:=by simpa using hb
  rw [awg hb'];simp only [↓wR,zT,simprocAttr,hb]
 simp only [↓wR,zT,simprocAttr,hb];unfold l7;rw [bz];refine ⟨fun ⟨h0,e0⟩=>?_,fun ⟨h0,e0⟩=>?_⟩
 ·rw [if_neg zO];simp only [↓wR,zT,simprocAttr,h0]
 rw [if_pos zO];simp only [↓wR,zT,simprocAttr,h0];refine abq [3,4,8,7] (fun (x:List Name)=>[.ptr 0 0,.ptr 1 0,zi x.length,.ptr 2 0]) (fun x=>[some (.row [zv d.names,zu d.nums,zn d.texts,zw d.raw] 0 2 101),some (.row [.sc (.slice none 0 0),.sc (.slice none 0 0),.sc (.slice none 0 0),.sc (.slice none 0 0)] 0 2 101),some (.row [.sl 3 0 x.length 1,zu d.nums,zn d.texts,zw d.raw] 0 2 101),some (.row (x.map (ak.val true)) 0 0 24)]) (fun x=>x.length<=d.names.length/\x++(d.names.drop x.length).map ek=d.names.map ek) (fun x=>d.names.length - x.length) [] ⟨zzb _,rfl⟩ zX ?_;rintro x ⟨hi,hx⟩;simp only [↓wR,zT,simprocAttr];rw [bg];refine ⟨fun h=>?_,fun h=>?_⟩
 ·obtain ⟨c,hc,aF,hlt⟩:=du (zp h);rw [aF,List.map_cons] at hx;have oH:=hd.name c (zm hc);have hcl:=oH.lt;simp only [↓wR,zT,simprocAttr,h];refine fm [3,4,8,10,7,9] (fun (y:Name)=>[.ptr 0 0,.ptr 1 0,zi x.length,zi y.length,.ptr 2 0,.sl 4 0 y.length 1]) (fun y=>[some (.row [zv d.names,zu d.nums,zn d.texts,zw d.raw] 0 2 101),some (.row [.sc (.slice none 0 0),.sc (.slice none 0 0),.sc (.slice none 0 0),.sc (.slice none 0 0)] 0 2 101),some (.row [.sl 3 0 x.length 1,zu d.nums,zn d.texts,zw d.raw] 0 2 101),some (.row (x.map (ak.val true)) 0 0 24),some (.row (y.map (ah.val false)) 0 0 9)]) (fun y=>y.length<=c.length/\y++(c.drop y.length).map fold=ek c) (fun y=>c.length - y.length) [] ⟨zzb _,rfl⟩ zX ?_;rintro y ⟨hj,hy⟩;simp only [↓wR,zT,simprocAttr,hc];rw [bg];refine ⟨fun h2=>?_,fun h2=>?_⟩
  ·obtain ⟨s,hs,gR,hlt2⟩:=du (zp h2);rw [gR,List.map_cons] at hy;have wH:=oH.label s (zm hs)
   repeat (first|simp only [↓wR,zT,simprocAttr,h2,hc,hs,wq,wH,bw]|simp (disch:=omega) only [zW])
   exact ⟨y++[fold s],⟨by simp;omega,by simpa using hy⟩,by simp;omega,zF,zF⟩
  rw [eg (zq h2)] at hy;obtain rfl:y=ek c:=by simpa using hy
  repeat (first|simp only [↓wR,zT,simprocAttr,h2]|simp (disch:=omega) only [zW])
  have gQ:(ek c).length=c.length:=by simp [ek]
  refine ⟨x++[ek c],⟨by simp;omega,by simpa using hx⟩,by simp;omega,?_⟩;rw [show ((x++[ek c]).length:Int)=(x.length:Int)+1 by simp,zzw,za,zyg,List.map_cons,List.map_nil];refine .trans (vs':=[.ptr 0 0,.ptr 1 0,zi ((x.length:Int)+1),.ptr 2 0]) (os':=[some (.row [zv d.names,zu d.nums,zn d.texts,zw d.raw] 0 2 101),some (.row [.sc (.slice none 0 0),.sc (.slice none 0 0),.sc (.slice none 0 0),.sc (.slice none 0 0)] 0 2 101),some (.row [.sl 3 0 (x.length+1) 1,zu d.nums,zn d.texts,zw d.raw] 0 2 101),some (.row (x.map (ak.val true)++[ak.val true (ek c)]) 0 0 24),none]) (jh.lax [4] (zB rfl) (en.refl _ _) (.same (.same (.same (.row (en.aDh _ (.cons (.data (br ah) true (ek c) _ ?_) .nil)) (cp.refl _ _)))))) (jh.aej (by decide) ?_ ?_)<;>simp only [↓wR,zT,simprocAttr,xt,zb,z8,rh]
 ·rw [eg (zq h)] at hx;have iE:x=d.names.map ek:=by simpa using hx
  have bB:d.names.length=x.length:=by rw [iE,zzo]
  rw [<- iE];simp only [↓wR,zT,simprocAttr,h];rfl
noncomputable def N0 (x:UInt16 × cj × Unit):Option AV:=if c7 x.2.1 then some ((r1 bc).E false (l7 x.1 x.2.1)) else none
theorem apv (x:UInt16 × cj × Unit) (r:AV) (h:N0 x=some r):bf PP 168 ((aC cf (aC bc a0)).E x) r:=by obtain ⟨hc,rfl⟩:=zI h;exact aw (ar.cons (aq Tv) (ar.cons (aq Lz) (ar.nil PP))) Tryz.func168 zK zK zK zL (r1 bc) false (l7 x.1 x.2.1) (awk x.1 x.2.1 hc)
noncomputable abbrev aFl:zE:=(168,true,ct (aC cf (aC bc a0)) N0)
theorem Tm:∀ l m:List UInt8,Op.bytesLess l m=decide (Lib.compareBytes l m<0)
 | [],[]=>rfl
 |_::_,[]=>rfl
 | [],_::_=>rfl
 |a::l,b::m=>by
  have ih:=Tm l m;simp only [Op.bytesLess,Lib.compareBytes,ih];by_cases h1:a<b
  ·simp [h1]
  ·by_cases h2:b<a
   ·have:¬ a=b:=fun e=>by subst e;exact h1 h2
    simp [h1,h2,this]
   ·have:a=b:=by rw [UInt8.lt_iff_toNat_lt] at h1 h2;exact UInt8.toNat_inj.1 zO
    subst this;simp [h1]
theorem agn:∀ l m:List UInt8,Lib.compareBytes l m = -1\/Lib.compareBytes l m=0\/Lib.compareBytes l m=1
 | [],[]=>.inr (.inl rfl)
 |_::_,[]=>.inr (.inr rfl)
 | [],_::_=>.inl rfl
 |a::l,b::m=>by
  have ih:=agn l m;simp only [Lib.compareBytes]
  split
  ·exact .inl rfl
  ·split
   ·exact .inr (.inr rfl)
   ·exact ih
theorem cmp_eq (l m:List UInt8):(l == m)=decide (Lib.compareBytes l m=0):=by rw [zyb];simp only [beq_iff_eq,decide_eq_true_eq];exact ⟨fun e=>by rw [e];exact Qt _,fun e=>Xy _ _ e⟩
theorem aog {P:Program} {t:TypeId} (a b:ByteArray):ev P (binOp .lss t (.string a) (.string b))=some (.bool (decide (Lib.compareBytes a.data.toList b.data.toList<0))):=by rw [<- Tm,<- ByteArray.toList_eq,<- ByteArray.toList_eq];rfl
theorem apq {P:Program} {t:TypeId} (a b:ByteArray):ev P (binOp .gtr t (.string a) (.string b))=some (.bool (decide (0<Lib.compareBytes a.data.toList b.data.toList))):=by
 have h:(!(Op.bytesLess a.toList b.toList || (a.toList == b.toList)))=decide (0<Lib.compareBytes a.data.toList b.data.toList):=by rw [Tm,cmp_eq,ByteArray.toList_eq,ByteArray.toList_eq,zyb];simp;omega
 rw [<- h];rfl
theorem U6 (t:UInt16) (a b:cj) (ha:c7 a) (hb:c7 b):wl PP [Kh,aFl,aDm] 0 (Tryz.f128.body.getD .skip) (c8 PP Tryz.f128.results.toList (fun r st=>(r1 (ba .i64)).get true st.h r=some (if dx t a≠0\/dx t b≠0 then 0 else Cl t a b))) (cg 0 [cf.val false t,bc.val false a,bc.val false b]) (bh []):=by
 unfold Tryz.f128;simp only [gq,bw];simp only [↓wR,zT,simprocAttr,ou,ha,hb];rw [dg];refine ⟨fun ⟨h1,e1⟩=>?_,fun ⟨h1,e1⟩=>?_⟩
 ·rw [if_pos (.inl e1)];simp only [↓wR,zT,simprocAttr,h1]
 simp only [↓wR,zT,simprocAttr,h1,ou,ha,hb];rw [dg];refine ⟨fun ⟨h2,e2⟩=>?_,fun ⟨h2,e2⟩=>?_⟩
 ·rw [if_pos (.inr e2)];simp only [↓wR,zT,simprocAttr,h2]
 rw [if_neg zO];simp only [↓wR,zT,simprocAttr,h2];refine ⟨zK,.inl ?_⟩;have ea:=Nu e1;have eb:=Nu e2;have fa:=c7.fold ha t;have fb:=c7.fold hb t;simp only [↓wR,zT,simprocAttr,N0,ha,hb,Jt,ea,eb,fa,fb];refine ⟨zK,?_⟩;have hv:Cl t a b=Lib.compareBytes (mw t (l7 t a)) (mw t (l7 t b)):=by unfold Cl Gn Zc;rw [if_neg zO,if_neg zO,if_neg zO]
 rw [hv];obtain ⟨x,hx⟩:∃ x,x=mw t (l7 t a):=⟨_,rfl⟩;obtain ⟨y,hy⟩:∃ y,y=mw t (l7 t b):=⟨_,rfl⟩;rw [<- hx,<- hy];have h3:=agn x y;simp only [↓wR,zT,simprocAttr,aog];rw [bg];refine ⟨fun h4=>?_,fun h4=>?_⟩
 ·have h5:Lib.compareBytes x y = -1:=zO;rw [h5];simp only [↓wR,zT,simprocAttr,h4]
 ·simp only [↓wR,zT,simprocAttr,h4,apq];rw [bg];refine ⟨fun h6=>?_,fun h6=>?_⟩
  ·have h5:Lib.compareBytes x y=1:=zO;rw [h5];simp only [↓wR,zT,simprocAttr,h6]
  ·have h5:Lib.compareBytes x y=0:=zO;rw [h5];simp only [↓wR,zT,simprocAttr,h6]
noncomputable def mf (x:UInt16 × cj × cj × Unit):Option AV:=if c7 x.2.1/\c7 x.2.2.1 then some ((r1 (ba .i64)).E true ((if dx x.1 x.2.1≠0\/dx x.1 x.2.2.1≠0 then 0 else Cl x.1 x.2.1 x.2.2.1))) else none
theorem Fh (x:UInt16 × cj × cj × Unit) (r:AV) (h:mf x=some r):bf PP 128 ((aC cf (aC bc (aC bc a0))).E x) r:=by obtain ⟨hc,rfl⟩:=zI h;exact aw (ar.cons (aq B6) (ar.cons (aq apv) (ar.cons (aq ako) (ar.nil PP)))) Tryz.func128 zK zK zK zL (r1 (ba .i64)) true ((if dx x.1 x.2.1≠0\/dx x.1 x.2.2.1≠0 then 0 else Cl x.1 x.2.1 x.2.2.1)) (U6 x.1 x.2.1 x.2.2.1 hc.1 hc.2)
noncomputable abbrev Oy:zE:=(128,true,ct (aC cf (aC bc (aC bc a0))) mf)
theorem aeb (t:UInt16) (a b:cj) (ha:c7 a) (hb:c7 b):wl PP [Kh,Oy] 0 (Tryz.f157.body.getD .skip) (c8 PP Tryz.f157.results.toList (fun r st=>(r1 bk).get true st.h r=some (yy t a b))) (cg 0 [cf.val false t,bc.val false a,bc.val false b]) (bh []):=by
 unfold yy;unfold Tryz.f157;simp only [gq,bw];simp only [↓wR,zT,simprocAttr,ou,ha,hb];rw [bz];refine ⟨fun ⟨h1,e1⟩=>?_,fun ⟨h1,e1⟩=>?_⟩
 ·simp only [↓wR,zT,simprocAttr,h1,ou,ha,hb,e1];rw [bz];refine ⟨fun ⟨h2,e2⟩=>?_,fun ⟨h2,e2⟩=>?_⟩
  ·simp only [↓wR,zT,simprocAttr,h2,mf,ha,hb,e1,e2];rw [if_neg (by simp)];rfl
  ·simp only [↓wR,zT,simprocAttr,h2];simp [e2]
 ·simp only [↓wR,zT,simprocAttr,h1];simp [e1]
noncomputable def Bn (x:UInt16 × cj × cj × Unit):Option AV:=if c7 x.2.1/\c7 x.2.2.1 then some ((r1 bk).E true (yy x.1 x.2.1 x.2.2.1)) else none
theorem Y9 (x:UInt16 × cj × cj × Unit) (r:AV) (h:Bn x=some r):bf PP 157 ((aC cf (aC bc (aC bc a0))).E x) r:=by obtain ⟨hc,rfl⟩:=zI h;exact aw (ar.cons (aq B6) (ar.cons (aq Fh) (ar.nil PP))) Tryz.func157 zK zK zK zL (r1 bk) true (yy x.1 x.2.1 x.2.2.1) (aeb x.1 x.2.1 x.2.2.1 hc.1 hc.2)
noncomputable abbrev asz:zE:=(157,true,ct (aC cf (aC bc (aC bc a0))) Bn)
theorem aD3 (t:UInt16) (l:List cj) (d:cj) (hl:np l) (hd:c7 d):wl PP [asz] 0 (Tryz.f114.body.getD .skip) (c8 PP Tryz.f114.results.toList (fun r st=>(r1 bk).get true st.h r=some (Dl t l d))) (cg 0 [cf.val false t,(br bc).val false l,bc.val false d]) (bh []):=by
 have dB:=hl.len;unfold Dl;unfold Tryz.f114;simp only [gq,bw];simp only [↓wR,zT,simprocAttr];refine dq [0,1,5,7] (fun (i:Nat)=>[.sc (.int .u16 t.toNat),zd l,.ptr 0 0,zi i]) (fun _=>[some (.row [zv d.names,zu d.nums,zn d.texts,zw d.raw] 0 2 101)]) (fun i=>i<=l.length/\(l.any fun x=>yy t x d)=((l.drop i).any fun x=>yy t x d)) (fun i=>l.length - i) 0 ⟨zzb _,rfl⟩ zS zS ?_;rintro i ⟨hi,hx⟩;simp only [↓wR,zT,simprocAttr];rw [bg];refine ⟨fun h=>?_,fun h=>?_⟩
 ·obtain ⟨c,hc,aF,hlt⟩:=du (zp h);have hsc:=hl.mem c (zm hc);rw [aF,List.any_cons] at hx;simp only [↓wR,zT,simprocAttr,h];refine ⟨zK,.inl ?_⟩;simp only [↓wR,zT,simprocAttr,hc,Bn,hsc,hd];refine ⟨zK,?_⟩;rw [cq];refine ⟨fun h2=>?_,fun h2=>?_⟩
  ·rw [hx,h2];simp only [↓wR,zT,simprocAttr,h2]
  ·rw [h2,Bool.false_or] at hx
   repeat (first|simp only [↓wR,zT,simprocAttr,h2]|simp (disch:=omega) only [zW])
   exact ⟨i+1,⟨hlt,hx⟩,zO,zF⟩
 ·rw [eg (zq h)] at hx;rw [hx];simp only [↓wR,zT,simprocAttr,h]
  try rfl
noncomputable def af9 (x:UInt16 × List cj × cj × Unit):Option AV:=if np x.2.1/\c7 x.2.2.1 then some ((r1 bk).E true (Dl x.1 x.2.1 x.2.2.1)) else none
theorem awl (x:UInt16 × List cj × cj × Unit) (r:AV) (h:af9 x=some r):bf PP 114 ((aC cf (aC (br bc) (aC bc a0))).E x) r:=by obtain ⟨hc,rfl⟩:=zI h;exact aw (ar.cons (aq Y9) (ar.nil PP)) Tryz.func114 zK zK zK zL (r1 bk) true (Dl x.1 x.2.1 x.2.2.1) (aD3 x.1 x.2.1 x.2.2.1 hc.1 hc.2)
noncomputable abbrev rIn:zE:=(114,true,ct (aC cf (aC (br bc) (aC bc a0))) af9)
theorem ajh (s:az) (hs:dh s):wl PP [Pp,Kh,rIn] 0 (Tryz.f86.body.getD .skip) (c8 PP Tryz.f86.results.toList (fun r st=>(r1 (ba .i64)).get true st.h r=some (k6 s))) (cg 0 [ai.val false s]) (bh []):=by
 have ho:=hs.owner;have hd:=hs.data;have hn:=hd.len;unfold Tryz.f86;simp only [jj];simp only [↓wR,zT,simprocAttr,xk,ho.fit];unfold k6;rw [dg];refine ⟨fun ⟨h,he⟩=>?_,fun ⟨h,he⟩=>?_⟩
 ·rw [if_pos he];simp only [↓wR,zT,simprocAttr,h]
 rw [if_neg zO];simp only [↓wR,zT,simprocAttr,h];rw [bz];refine ⟨fun ⟨h1,e1⟩=>?_,fun ⟨h1,e1⟩=>?_⟩
 ·rw [if_pos zO];simp only [↓wR,zT,simprocAttr,h1]
 rw [if_neg zO];simp only [↓wR,zT,simprocAttr,h1];rw [bg];refine ⟨fun h2=>?_,fun h2=>?_⟩
 ·rw [if_pos zO];simp only [↓wR,zT,simprocAttr,h2]
 rw [if_neg zO];simp only [↓wR,zT,simprocAttr,h2];refine dq [1,4] (fun (i:Nat)=>[.ptr 0 0,zi i]) (fun _=>[(zY s)]) (fun i=>i<=s.data.length/\py s.type [] s.data=py s.type (s.data.take i) (s.data.drop i)) (fun i=>s.data.length - i) 0 ⟨zzb _,rfl⟩ zS zS ?_;rintro i ⟨hi,hx⟩;simp only [↓wR,zT,simprocAttr];rw [bg];refine ⟨fun h3=>?_,fun h3=>?_⟩
 ·obtain ⟨c,hc,aF,hlt⟩:=du (zp h3);rw [Rf _ hc] at hx;have hcs:=hd.mem c (zm hc);simp only [↓wR,zT,simprocAttr,h3];refine ⟨zK,.inl ?_⟩;simp only [↓wR,zT,simprocAttr,hc,ou,hcs];refine ⟨zK,?_⟩;rw [dg];refine ⟨fun ⟨h4,mY⟩=>?_,fun ⟨h4,mY⟩=>?_⟩
  ·rw [if_pos mY] at hx;rw [hx];simp only [↓wR,zT,simprocAttr,h4]
  ·rw [if_neg zO] at hx;simp only [↓wR,zT,simprocAttr,h4];refine ⟨zK,.inl ?_⟩;simp only [↓wR,zT,simprocAttr,hi,hc,af9,hd.take i,hcs];refine ⟨zK,?_⟩;rw [cq];refine ⟨fun h5=>?_,fun h5=>?_⟩
   ·rw [if_pos h5] at hx;rw [hx];simp only [↓wR,zT,simprocAttr,h5]
   ·rw [if_neg (by rw [h5];decide)] at hx
    repeat (first|simp only [↓wR,zT,simprocAttr,h5]|simp (disch:=omega) only [zW])
    exact ⟨i+1,⟨hlt,hx⟩,zO,zF⟩
 ·rw [eg (zq h3)] at hx;rw [hx];simp only [↓wR,zT,simprocAttr,h3]
  try rfl
noncomputable def Bf (x:az × Unit):Option AV:=if dh x.1 then some ((r1 (ba .i64)).E true (k6 x.1)) else none
theorem Y3 (x:az × Unit) (r:AV) (h:Bf x=some r):bf PP 86 ((aC ai a0).E x) r:=by obtain ⟨hc,rfl⟩:=zI h;exact aw (ar.cons (aq yn) (ar.cons (aq B6) (ar.cons (aq awl) (ar.nil PP)))) Tryz.func86 zK zK zK zL (r1 (ba .i64)) true (k6 x.1) (ajh x.1 hc)
noncomputable abbrev au5:zE:=(86,true,ct (aC ai a0) Bf)
noncomputable def ij (s:az):az:=if s.data.all (fun d=>decide (dx s.type d=0))=true then mkS s.owner s.type s.cls s.jb (aph (ltD s.type) s.data) else s
theorem asc (a b:az) (ha:dh a) (hb:dh b):wl PP [ax4] 0 (Tryz.f127.body.getD .skip) (c8 PP Tryz.f127.results.toList (fun r st=>(r1 bk).get true st.h r=some (decide (nr a b<0)))) (cg 0 [ai.val false a,ai.val false b]) (bh []):=by
 have oJ:=ha.owner;have oI:=hb.owner;unfold nr Hx Hx Hx;unfold Tryz.f127;simp only [jj];simp only [↓wR,zT,simprocAttr,Ey,oJ,oI];rw [dg];refine ⟨fun ⟨h1,e1⟩=>?_,fun ⟨h1,e1⟩=>?_⟩
 ·rw [if_pos e1];simp only [↓wR,zT,simprocAttr,h1]
 rw [if_neg zO];simp only [↓wR,zT,simprocAttr,h1]
 congr 1
 rw [decide_eq_decide];unfold Ln
 repeat' split
 all_goals omega
noncomputable def F6 (x:az × az × Unit):Option AV:=if dh x.1/\dh x.2.1 then some ((r1 bk).E true (decide (nr x.1 x.2.1<0))) else none
theorem aj5 (x:az × az × Unit) (r:AV) (h:F6 x=some r):bf PP 127 ((aC ai (aC ai a0)).E x) r:=by obtain ⟨hc,rfl⟩:=zI h;exact aw (ar.cons (aq acq) (ar.nil PP)) Tryz.func127 zK zK zK zL (r1 bk) true (decide (nr x.1 x.2.1<0)) (asc x.1 x.2.1 hc.1 hc.2)
noncomputable abbrev aCv:zE:=(127,true,ct (aC ai (aC ai a0)) F6)
theorem ax2 (z:au) (n:Name) (hz:bj z) (hn:ay n):wl PP [oa,Y0] 0 (Tryz.f30.body.getD .skip) (c8 PP Tryz.f30.results.toList (fun r st=>(r1 (br ai)).get true st.h r=some (ew z n))) (cg 0 [be.val false z,ak.val false n]) (bh []):=by
 have hlen:=hz.len;unfold Tryz.f30;simp only [dr,bw];simp only [↓wR,zT,simprocAttr];refine fm [1,2,6,5] (fun (x:Nat × List az)=>[zn n,.ptr 0 0,zi x.1,.sl 1 0 x.2.length 5]) (fun x=>[(zZ z),some (.row (cellsOf ai true (x.2)) 0 0 31)]) (fun x=>x.1<=z.aj.length/\x.2++(z.aj.drop x.1).filter (fun s=>dm s.owner n)=ew z n/\x.2.length<=x.1) (fun x=>z.aj.length - x.1) (0,[]) ⟨zzb _,rfl,zza _⟩ zX ?_;rintro ⟨i,x⟩ ⟨hi,hx,bP⟩;simp only at hi hx bP;simp only [↓wR,zT,simprocAttr];rw [bg];refine ⟨fun h=>?_,fun h=>?_⟩
 ·obtain ⟨c,hc,aF,hlt⟩:=du (zp h);have hcs:=hz.aj.mem c (zm hc);rw [aF,List.filter_cons] at hx;have aD:(x.length * 5+5) * 56<=140737488355328:=zO;simp only [↓wR,zT,simprocAttr,h,hc,wo,hcs.owner,hn];rw [cq];refine ⟨fun h2=>?_,fun h2=>?_⟩
  ·rw [if_pos h2] at hx
   repeat (first|simp only [↓wR,zT,simprocAttr,h2,hc,tn,hcs,aD]|simp (disch:=omega) only [zW])
   refine ⟨(i+1,x++[c]),⟨hlt,by simpa using hx,by simp;omega⟩,by simp;omega,zF,?_⟩;rw [ov]
  ·rw [if_neg (by rw [h2];decide)] at hx
   repeat (first|simp only [↓wR,zT,simprocAttr,h2]|simp (disch:=omega) only [zW])
   exact ⟨(i+1,x),⟨hlt,hx,by show x.length<=i+1;omega⟩,by simp;omega,zF,rfl⟩
 ·rw [eg (zq h),List.filter_nil,zzn] at hx;have hd:∀ fr h k st et,Af fr st 5 ai.kd et=true->kf ai fr h 0 x.length (.row (cellsOf ai true x) k st et)=some x:=fun fr h k st et hro=>oz ai fr h true x k st et x.length rfl (by cases fr<;>rfl) hro
  rw [<- hx];simp only [↓wR,zT,simprocAttr,h,hd]
noncomputable def yv (x:au × Name × Unit):Option AV:=if bj x.1/\ay x.2.1 then some ((r1 (br ai)).E true (ew x.1 x.2.1)) else none
theorem Cb (x:au × Name × Unit) (r:AV) (h:yv x=some r):bf PP 30 ((aC be (aC ak a0)).E x) r:=by obtain ⟨hc,rfl⟩:=zI h;exact aw (ar.cons (aq uo) (ar.cons (aq Gt) (ar.nil PP))) Tryz.func30 zK zK zK zL (r1 (br ai)) true (ew x.1 x.2.1) (ax2 x.1 x.2.1 hc.1 hc.2)
noncomputable abbrev Vq:zE:=(30,true,ct (aC be (aC ak a0)) yv)
def ye (z:au) (s:az):Bool:=decide ((s.type.toNat:Int)=2) && (dp s.owner z.origin && !dm s.owner z.origin)
def zf (z:au):List Name:=(z.aj.filter (ye z)).map (·.owner)
theorem aA6 {z:au} {l:List az} {i:Nat} {c:az} (h:l.drop i=c::l.drop (i+1)):((l.drop i).filter (ye z)).map (·.owner)=(if ye z c=true then [c.owner] else [])++((l.drop (i+1)).filter (ye z)).map (·.owner):=by rw [h,List.filter_cons];split<;>rfl
theorem axg (z:au) (hz:bj z):wl PP [mz,oa,wx] 0 (Tryz.f36.body.getD .skip) (c8 PP Tryz.f36.results.toList (fun r st=>(r1 (br ak)).get true st.h r=some (zf z))) (cg 0 [be.val false z]) (bh []):=by
 have hlen:=hz.len;have jI:=hz.origin;unfold Tryz.f36;simp only [dr];simp only [↓wR,zT,simprocAttr];refine fm [1,4,3] (fun (x:Nat × List Name)=>[.ptr 0 0,zi x.1,.sl 1 0 x.2.length 1]) (fun x=>[(zZ z),some (.row (x.2.map (ak.val true)) 0 0 24)]) (fun x=>x.1<=z.aj.length/\x.2++((z.aj.drop x.1).filter (ye z)).map (·.owner)=zf z/\x.2.length<=x.1) (fun x=>z.aj.length - x.1) (0,[]) ⟨zzb _,rfl,zza _⟩ zX ?_;rintro ⟨i,x⟩ ⟨hi,hx,bP⟩;simp only at hi hx bP;simp only [↓wR,zT,simprocAttr];rw [bg];refine ⟨fun h=>?_,fun h=>?_⟩
 ·obtain ⟨c,hc,aF,hlt⟩:=du (zp h);have hcs:=hz.aj.mem c (zm hc);have bY:=qc hcs.owner;rw [aA6 aF] at hx;have aD:(x.length+1) * 24<=140737488355328:=zO;have cS:(x.length+1) * 16<=140737488355328:=zO;simp only [↓wR,zT,simprocAttr,h,hc];rw [bz];refine ⟨fun ⟨h1,e1⟩=>?_,fun ⟨h1,e1⟩=>?_⟩
  ·simp only [↓wR,zT,simprocAttr,h1,vz,hcs.owner,jI];rw [cq];refine ⟨fun h2=>?_,fun h2=>?_⟩
   ·simp only [↓wR,zT,simprocAttr,h2,wo,hcs.owner,jI];rw [cq];refine ⟨fun h3=>?_,fun h3=>?_⟩
    ·have dA:dm c.owner z.origin=false:=by simpa using h3
     have hp:ye z c=true:=by simp [ye,e1,h2,dA]
     rw [if_pos hp] at hx
     repeat (first|simp only [↓wR,zT,simprocAttr,h3,kp,bY,aD,cS]|simp (disch:=omega) only [zW])
     refine ⟨(i+1,x++[c.owner]),⟨hlt,by simpa using hx,by simp;omega⟩,by simp;omega,zF,zF⟩
    ·have dA:dm c.owner z.origin=true:=by simpa using h3
     have hp:ye z c=false:=by simp [ye,dA]
     rw [hp,if_neg (by decide),List.nil_append] at hx
     repeat (first|simp only [↓wR,zT,simprocAttr,h3]|simp (disch:=omega) only [zW])
     exact ⟨(i+1,x),⟨hlt,hx,by show x.length<=i+1;omega⟩,by simp;omega,zF,rfl⟩
   ·have hp:ye z c=false:=by simp [ye,h2]
    rw [hp,if_neg (by decide),List.nil_append] at hx
    repeat (first|simp only [↓wR,zT,simprocAttr,h2]|simp (disch:=omega) only [zW])
    exact ⟨(i+1,x),⟨hlt,hx,by show x.length<=i+1;omega⟩,by simp;omega,zF,rfl⟩
  ·have hp:ye z c=false:=by simp [ye,e1]
   rw [hp,if_neg (by decide),List.nil_append] at hx
   repeat (first|simp only [↓wR,zT,simprocAttr,h1]|simp (disch:=omega) only [zW])
   exact ⟨(i+1,x),⟨hlt,hx,by show x.length<=i+1;omega⟩,by simp;omega,zF,rfl⟩
 ·rw [eg (zq h)] at hx;have hx':x=zf z:=by simpa using hx
  rw [<- hx'];simp only [↓wR,zT,simprocAttr,h]
noncomputable def Ps (x:au × Unit):Option AV:=if bj x.1 then some ((r1 (br ak)).E true (zf x.1)) else none
theorem aov (x:au × Unit) (r:AV) (h:Ps x=some r):bf PP 36 ((aC be a0).E x) r:=by obtain ⟨hc,rfl⟩:=zI h;exact aw (ar.cons (aq yr) (ar.cons (aq uo) (ar.cons (aq ny) (ar.nil PP)))) Tryz.func36 zK zK zK zL (r1 (br ak)) true (zf x.1) (axg x.1 hc)
noncomputable abbrev aF1:zE:=(36,true,ct (aC be a0) Ps)
def zl (n:Name) (cJ:Option Name) (m:Name):Option Name:=if (dp n m && Dj m cJ)=true then some m else cJ
theorem atg (n top:Name):Cz n top=(dp n top && !dm n top):=by
 have e1:(ek top).length=top.length:=by simp [ek]
 have e2:(ek n).length=n.length:=by simp [ek]
 unfold Cz dp dm;by_cases hs:ek top <:+ ek n
 ·have hl:=hs.length_le;rw [zp hs,Bool.and_true,Bool.true_and,zyb];simp only [decide_eq_true_eq,zyd,decide_eq_false_iff_not];refine ⟨fun h q=>?_,fun h=>?_⟩
  ·have:=congrArg List.length q;omega
  ·rcases zyf top.length n.length with q|q
   ·exact q
   ·exact absurd (hs.eq_of_length zO).symm h
 ·rw [zq hs,Bool.and_false,Bool.false_and]
theorem aw5 (z:au) (n:Name) (cJ:Option Name) (s:az):j4 z n cJ s=if ye z s=true then zl n cJ s.owner else cJ:=by unfold j4 ye zl;rw [atg];cases decide ((s.type.toNat:Int)=2)<;>cases dp s.owner z.origin<;>cases dm s.owner z.origin<;>simp
theorem afs (z:au) (n:Name):ka z n=(zf z).foldl (zl n) none:=by
 unfold ka zf;generalize (none:Option Name)=b
 induction z.aj generalizing b with
 |nil=>rfl
 |cons s l ih=>
  rw [List.foldl_cons,aw5,List.filter_cons]
  split
  ·rw [List.map_cons,List.foldl_cons];exact ih _
  ·exact ih _
def Qk:Option Nat->Int
 |none=>-1
 |some k=>k
theorem apc {z:au} (hz:bj z):(zf z).length<=16777216/\∀ m ∈ zf z,ay m:=by unfold zf;refine ⟨by rw [zzo];exact zzu (List.length_filter_le _ _) hz.len,fun m hm=>?_⟩;obtain ⟨s,hs,rfl⟩:=zyj.1 hm;exact (hz.aj.mem s (List.mem_filter.1 hs).1).owner
theorem awd {α β:Type} (f : β -> α -> β) (b : β) {l:List α} {i:Nat} {c : α} (h:l[i]? = some c):(l.take (i+1)).foldl f b=f ((l.take i).foldl f b) c:=by obtain ⟨hi,rfl⟩:=zg.1 h;rw [zz5 hi,List.foldl_append];rfl
theorem aCd (z:au) (n:Name) (hz:bj z) (hn:ay n):wl PP [aF1,mz] 0 (Tryz.f26.body.getD .skip) (c8 PP Tryz.f26.results.toList (fun r st=>(r2 ak bk).get true st.h r=some ((ka z n).getD [],(ka z n).isSome))) (cg 0 [be.val false z,ak.val false n]) (bh []):=by
 obtain ⟨oY,hL2⟩:=apc hz;rw [afs];obtain ⟨L,hL⟩:∃ L,L=zf z:=⟨_,rfl⟩;rw [<- hL] at oY hL2 ⊢;unfold Tryz.f26;simp only [dr,bw];simp only [↓wR,zT,simprocAttr,Ps,hz,<- hL];refine dq [1,6,7,8] (fun (x:Nat × Option Nat)=>[zn n,.vl true 1 (L.map (ak.val true)),zi (Qk x.2),zi x.1]) (fun _=>[]) (fun x=>x.1<=L.length/\(L.take x.1).foldl (zl n) none=x.2.bind (fun k=>L[k]?)/\∀ k,x.2=some k->k<L.length) (fun x=>L.length - x.1) (0,none) ⟨zzb _,rfl,fun k h=>by cases h⟩ zS zS ?_;rintro ⟨i,b⟩ ⟨hi,hx,hb⟩;simp only at hi hx hb;simp only [↓wR,zT,simprocAttr];rw [bg];refine ⟨fun h=>?_,fun h=>?_⟩
 ·obtain ⟨c,hc,aF,hlt⟩:=du (zp h);have hcs:=hL2 c (zm hc);have hf:=awd (zl n) none hc;rw [hx] at hf;simp only [↓wR,zT,simprocAttr,h];refine ⟨zK,.inl ?_⟩;simp only [↓wR,zT,simprocAttr,hc,vz,hn,hcs,bw];rw [cq];refine ⟨fun h2=>?_,fun h2=>?_⟩
  ·cases b with
   |none=>
    have hv:(L.take (i+1)).foldl (zl n) none=(some i).bind (fun k=>L[k]?):=by rw [hf];show zl n none c=L[i]?;unfold zl Dj;rw [h2,hc];rfl
    repeat (first|simp only [↓wR,zT,simprocAttr,h2,Qk]|simp (disch:=omega) only [zW])
    exact ⟨zK,(i+1,some i),⟨hlt,hv,fun k e=>by cases e;exact hlt⟩,by simp;omega,zF⟩
   |some k=>
    have hk:=hb k rfl;obtain ⟨m,hm⟩:∃ m,L[k]? = some m:=⟨_,zh hk⟩;have hf':(L.take (i+1)).foldl (zl n) none=if c.length<m.length then some c else some m:=by rw [hf];show zl n (L[k]?) c=_;rw [hm];unfold zl Dj;simp only [h2,Bool.true_and,decide_eq_true_eq]
    have h0:¬ (k:Int)<0:=zO;rw [show Qk (some k)=(k:Int) from rfl]
    repeat (first|simp only [↓wR,zT,simprocAttr,h2,hc,hm,bw,h0]|simp (disch:=omega) only [zW])
    refine ⟨zK,?_⟩;rw [bg];refine ⟨fun h3=>?_,fun h3=>?_⟩
    ·rw [if_pos zO] at hf'
     repeat (first|simp only [↓wR,zT,simprocAttr,h3]|simp (disch:=omega) only [zW])
     exact ⟨(i+1,some i),⟨hlt,by rw [hf'];exact hc.symm,fun k e=>by cases e;exact hlt⟩,by simp;omega,zF⟩
    ·rw [if_neg zO] at hf'
     repeat (first|simp only [↓wR,zT,simprocAttr,h3]|simp (disch:=omega) only [zW])
     exact ⟨(i+1,some k),⟨hlt,by rw [hf'];exact hm.symm,hb⟩,by simp;omega,zF⟩
  ·have hv:(L.take (i+1)).foldl (zl n) none=b.bind (fun k=>L[k]?):=by
    rw [hf];unfold zl;rw [h2,Bool.false_and,if_neg (by decide)]
   repeat (first|simp only [↓wR,zT,simprocAttr,h2]|simp (disch:=omega) only [zW])
   exact ⟨zK,(i+1,b),⟨hlt,hv,hb⟩,by simp;omega,zF⟩
 ·have bO:L.take i=L:=zzp zO;rw [bO] at hx;rw [hx];simp only [↓wR,zT,simprocAttr,h];cases b with
  |none=>
   simp only [↓wR,zT,simprocAttr,Qk]
   try rfl
  |some k=>
   have hk:=hb k rfl;obtain ⟨m,hm⟩:∃ m,L[k]? = some m:=⟨_,zh hk⟩;rw [show Qk (some k)=(k:Int) from rfl];simp only [↓wR,zT,simprocAttr,hm];rw [bg];refine ⟨fun h3=>?_,fun h3=>?_⟩
   ·exfalso;omega
   simp only [↓wR,zT,simprocAttr,h3,hm,bw]
   try rfl
noncomputable def Kx (x:au × Name × Unit):Option AV:=if bj x.1/\ay x.2.1 then some ((r2 ak bk).E true (((ka x.1 x.2.1).getD [],(ka x.1 x.2.1).isSome))) else none
theorem ab1 (x:au × Name × Unit) (r:AV) (h:Kx x=some r):bf PP 26 ((aC be (aC ak a0)).E x) r:=by obtain ⟨hc,rfl⟩:=zI h;exact aw (ar.cons (aq aov) (ar.cons (aq yr) (ar.nil PP))) Tryz.func26 zK zK zK zL (r2 ak bk) true (((ka x.1 x.2.1).getD [],(ka x.1 x.2.1).isSome)) (aCd x.1 x.2.1 hc.1 hc.2)
noncomputable abbrev aDj:zE:=(26,true,ct (aC be (aC ak a0)) Kx)
theorem aBe (z:au) (n:Name) (hz:bj z) (hn:ay n):wl PP [mz,oa] 0 (Tryz.f32.body.getD .skip) (c8 PP Tryz.f32.results.toList (fun r st=>(r1 bk).get true st.h r=some (nc z n))) (cg 0 [be.val false z,ak.val false n]) (bh []):=by
 have hlen:=hz.len;have jI:=hz.origin;unfold nc;unfold Tryz.f32;simp only [dr,bw];simp only [↓wR,zT,simprocAttr,vz,hn,jI];rw [cq];refine ⟨fun h1=>?_,fun h1=>?_⟩
 ·have h1':dp n z.origin=false:=by simpa using h1
  rw [h1'];simp only [↓wR,zT,simprocAttr,h1]
  try rfl
 have h1':dp n z.origin=true:=by simpa using h1
 rw [h1',Bool.true_and];simp only [↓wR,zT,simprocAttr,h1,wo,hn,jI];rw [cq];refine ⟨fun h2=>?_,fun h2=>?_⟩
 ·rw [h2];simp only [↓wR,zT,simprocAttr,h2]
  try rfl
 rw [h2,Bool.false_or];simp only [↓wR,zT,simprocAttr,h2];refine dq [1,2,5] (fun (i:Nat)=>[zn n,.ptr 0 0,zi i]) (fun _=>[(zZ z)]) (fun i=>i<=z.aj.length/\(z.aj.any fun s=>dp s.owner n)=((z.aj.drop i).any fun s=>dp s.owner n)) (fun i=>z.aj.length - i) 0 ⟨zzb _,rfl⟩ zS zS ?_;rintro i ⟨hi,hx⟩;simp only [↓wR,zT,simprocAttr];rw [bg];refine ⟨fun h=>?_,fun h=>?_⟩
 ·obtain ⟨c,hc,aF,hlt⟩:=du (zp h);have hcs:=hz.aj.mem c (zm hc);rw [aF,List.any_cons] at hx;simp only [↓wR,zT,simprocAttr,h,hc,vz,hcs.owner,hn];rw [cq];refine ⟨fun h3=>?_,fun h3=>?_⟩
  ·rw [hx,h3];simp only [↓wR,zT,simprocAttr,h3]
   try rfl
  ·rw [h3,Bool.false_or] at hx
   repeat (first|simp only [↓wR,zT,simprocAttr,h3]|simp (disch:=omega) only [zW])
   exact ⟨i+1,⟨hlt,hx⟩,zO,zF⟩
 ·rw [eg (zq h)] at hx;rw [hx];simp only [↓wR,zT,simprocAttr,h]
  try rfl
noncomputable def Ku (x:au × Name × Unit):Option AV:=if bj x.1/\ay x.2.1 then some ((r1 bk).E true (nc x.1 x.2.1)) else none
theorem ab3 (x:au × Name × Unit) (r:AV) (h:Ku x=some r):bf PP 32 ((aC be (aC ak a0)).E x) r:=by obtain ⟨hc,rfl⟩:=zI h;exact aw (ar.cons (aq yr) (ar.cons (aq uo) (ar.nil PP))) Tryz.func32 zK zK zK zL (r1 bk) true (nc x.1 x.2.1) (aBe x.1 x.2.1 hc.1 hc.2)
noncomputable abbrev aDk:zE:=(32,true,ct (aC be (aC ak a0)) Ku)
def mr (z:au) (s:az):Bool:=decide ((s.type.toNat:Int)=5) && (decide ((s.data.length:Int)≠1) || (dm s.owner z.origin || decide ((1:Int)<(ew z s.owner).length)))
theorem ast (z:au) (s:az) (hz:bj z) (hs:dh s):wl PP [oa,Vq] 0 (Tryz.f129.body.getD .skip) (c8 PP Tryz.f129.results.toList (fun r st=>(r1 bk).get true st.h r=some (mr z s))) (cg 0 [be.val false z,ai.val false s]) (bh []):=by
 have iJ:=hs.owner;have jI:=hz.origin;unfold mr;unfold Tryz.f129;simp only [dr,jj];simp only [↓wR,zT,simprocAttr];rw [bz];refine ⟨fun ⟨h1,e1⟩=>?_,fun ⟨h1,e1⟩=>?_⟩
 ·rw [zp e1,Bool.true_and];simp only [↓wR,zT,simprocAttr,h1];rw [dg];refine ⟨fun ⟨h2,e2⟩=>?_,fun ⟨h2,e2⟩=>?_⟩
  ·rw [zp e2,Bool.true_or];simp only [↓wR,zT,simprocAttr,h2]
   try rfl
  ·rw [zq zO,Bool.false_or];simp only [↓wR,zT,simprocAttr,h2,wo,iJ,jI];rw [cq];refine ⟨fun h3=>?_,fun h3=>?_⟩
   ·rw [h3,Bool.true_or];simp only [↓wR,zT,simprocAttr,h3]
    try rfl
   ·rw [h3,Bool.false_or];simp only [↓wR,zT,simprocAttr,h3,yv,hz,iJ]
    try rfl
 ·rw [zq e1,Bool.false_and];simp only [↓wR,zT,simprocAttr,h1]
  try rfl
noncomputable def Jq (x:au × az × Unit):Option AV:=if bj x.1/\dh x.2.1 then some ((r1 bk).E true (mr x.1 x.2.1)) else none
theorem akq (x:au × az × Unit) (r:AV) (h:Jq x=some r):bf PP 129 ((aC be (aC ai a0)).E x) r:=by obtain ⟨hc,rfl⟩:=zI h;exact aw (ar.cons (aq uo) (ar.cons (aq Cb) (ar.nil PP))) Tryz.func129 zK zK zK zL (r1 bk) true (mr x.1 x.2.1) (ast x.1 x.2.1 hc.1 hc.2)
noncomputable abbrev qe:zE:=(129,true,ct (aC be (aC ai a0)) Jq)
theorem aq9 {z:au} {n m:Name} (hz:bj z) (h:ka z n=some m):ay m:=M7 (n:=n) hz z.aj none (fun _ h=>h) (fun m hm=>by cases hm) m h
theorem arf (a b:Name):dm a b=dm b a:=by unfold dm;rw [decide_eq_decide];exact eq_comm
theorem aek (z:au) (s:az) (hz:bj z) (hs:dh s):wl PP [aDj,oa] 0 (Tryz.f130.body.getD .skip) (c8 PP Tryz.f130.results.toList (fun r st=>(r1 bk).get true st.h r=some (!lu z s))) (cg 0 [be.val false z,ai.val false s]) (bh []):=by
 have iJ:=hs.owner;unfold lu;unfold Tryz.f130;simp only [dr,jj];simp only [↓wR,zT,simprocAttr,Kx,hz,iJ];cases hc:ka z s.owner with
 |none=>
  simp only [↓wR,zT,simprocAttr,Option.isSome_none,Option.getD_none]
  try rfl
 |some c=>
  have hcs:=aq9 hz hc;simp only [↓wR,zT,simprocAttr,Option.isSome_some,Option.getD_some];rw [bz];refine ⟨fun ⟨h1,e1⟩=>?_,fun ⟨h1,e1⟩=>?_⟩
  ·rw [if_pos e1];simp only [↓wR,zT,simprocAttr,h1]
   try rfl
  rw [if_neg e1];simp only [↓wR,zT,simprocAttr,h1];rw [bz];refine ⟨fun ⟨h2,e2⟩=>?_,fun ⟨h2,e2⟩=>?_⟩
  ·rw [if_pos e2];simp only [↓wR,zT,simprocAttr,h2]
   try rfl
  rw [if_neg e2];simp only [↓wR,zT,simprocAttr,h2];rw [dg];refine ⟨fun ⟨h3,e3⟩=>?_,fun ⟨h3,e3⟩=>?_⟩
  ·rw [if_neg e3];simp only [↓wR,zT,simprocAttr,h3]
   try rfl
  rw [if_pos zO,arf];simp only [↓wR,zT,simprocAttr,h3,bw,wo,iJ,hcs]
  try rfl
noncomputable def A9 (x:au × az × Unit):Option AV:=if bj x.1/\dh x.2.1 then some ((r1 bk).E true ((!lu x.1 x.2.1))) else none
theorem Yx (x:au × az × Unit) (r:AV) (h:A9 x=some r):bf PP 130 ((aC be (aC ai a0)).E x) r:=by obtain ⟨hc,rfl⟩:=zI h;exact aw (ar.cons (aq ab1) (ar.cons (aq uo) (ar.nil PP))) Tryz.func130 zK zK zK zL (r1 bk) true ((!lu x.1 x.2.1)) (aek x.1 x.2.1 hc.1 hc.2)
noncomputable abbrev kq:zE:=(130,true,ct (aC be (aC ai a0)) A9)
def allI (p:Nat->az->Bool):Nat->List az->Bool
 |_,[]=>true
 |i,s::r=>p i s && allI p (i+1) r
theorem aCs {p:Nat->az->Bool} {l:List az} {i:Nat} {c:az} (h:l.drop i=c::l.drop (i+1)) (k:Nat):allI p k (l.drop i)=(p k c && allI p (k+1) (l.drop (i+1))):=by rw [h];rfl
noncomputable def okZ (z:au):Bool:=z.aj.all fun s=>s.data.all fun d=>decide (dx s.type d=0)
theorem aks (z:au) (hz:bj z) (aB:okZ z=true):wl PP [aCv,Oy] 0 (Tryz.f87.body.getD .skip) (c8 PP Tryz.f87.results.toList (fun r st=>(r1 bk).get true st.h r=some (allI (gk z) 0 z.aj))) (cg 0 [be.val false z]) (bh []):=by
 have hlen:=hz.len;unfold Tryz.f87;simp only [dr];simp only [↓wR,zT,simprocAttr];refine dq [1,3] (fun (i:Nat)=>[.ptr 0 0,zi i]) (fun _=>[(zZ z)]) (fun i=>i<=z.aj.length/\allI (gk z) 0 z.aj=allI (gk z) i (z.aj.drop i)) (fun i=>z.aj.length - i) 0 ⟨zzb _,rfl⟩ zS zS ?_;rintro i ⟨hi,hx⟩;simp only [↓wR,zT,simprocAttr];rw [bg];refine ⟨fun h=>?_,fun h=>?_⟩
 ·obtain ⟨c,hc,aF,hlt⟩:=du (zp h);have hcs:=hz.aj.mem c (zm hc);have hce:=zz8.1 (zz8.1 aB c (zm hc));have rJ:=hcs.data.len;rw [aCs aF] at hx;simp only [↓wR,zT,simprocAttr,h,hc];refine ⟨zK,.inl ?_⟩;rw [bg];refine ⟨fun h1=>?_,fun h1=>?_⟩
  ·cases i with
   |zero=>omega
   |succ j=>
   obtain ⟨a,ha⟩:∃ a,z.aj[j]? = some a:=⟨_,zh zO⟩;have has:=hz.set a (zm ha)
   repeat (first|simp only [↓wR,zT,simprocAttr,h1,ha,hc,Int.natCast_add,Int.add_sub_cancel,F6,has,hcs]|simp (disch:=omega) only [zW])
   refine ⟨zK,?_⟩;rw [cq];refine ⟨fun h2=>?_,fun h2=>?_⟩
   ·simp only [zyd,decide_eq_false_iff_not] at h2;have hv:gk z (j+1) c=false:=by simp only [gk,ha];simp;omega
    rw [hv,Bool.false_and] at hx;rw [hx];simp only [↓wR,zT,simprocAttr,h2]
    try rfl
   ·simp only [zyh,decide_eq_true_eq] at h2;have hv:gk z (j+1) c=oy c.type c.data:=by simp only [gk,ha];simp [h2]
    rw [hv] at hx;simp only [↓wR,zT,simprocAttr,h2,decide_true,Bool.not_true];refine dq [1,3,4,5] (fun (k:Nat)=>[.ptr 0 0,zi ((j:Int)+1),.ptr 1 0,zi ((k:Int)+1)]) (fun _=>[(zZ z),(zY c)]) (fun k=>(k=0\/k+1<=c.data.length)/\oy c.type c.data=oy c.type (c.data.drop k)) (fun k=>c.data.length - k) 0 ⟨.inl rfl,rfl⟩ zS zS ?_;rintro k ⟨hk,hy⟩;simp only [↓wR,zT,simprocAttr];rw [bg];refine ⟨fun h5=>?_,fun h5=>?_⟩
    ·obtain ⟨a,ha⟩:∃ a,c.data[k]? = some a:=⟨_,zh zO⟩;obtain ⟨b,hb⟩:∃ b,c.data[k+1]? = some b:=⟨_,zh zO⟩;have has:=hcs.data.mem a (zm ha);have aT:=hcs.data.mem b (zm hb);have rS:=of_decide_eq_true (hce a (zm ha));have fX:=of_decide_eq_true (hce b (zm hb));rw [Ht _ ha hb] at hy;simp only [↓wR,zT,simprocAttr,h5];refine ⟨zK,.inl ?_⟩
     repeat (first|simp only [↓wR,zT,simprocAttr,ha,hb,Int.add_sub_cancel,s6,Ax,mf,has,aT,rS,fX]|simp (disch:=omega) only [zW])
     rw [if_neg (by simp)];refine ⟨zK,?_⟩;rw [bg];refine ⟨fun h6=>?_,fun h6=>?_⟩
     ·rw [if_pos h6] at hy;rw [hy,Bool.false_and] at hx;rw [hx];simp only [↓wR,zT,simprocAttr,h6]
      try rfl
     ·rw [if_neg h6] at hy
      repeat (first|simp only [↓wR,zT,simprocAttr,h6]|simp (disch:=omega) only [zW])
      exact ⟨k+1,⟨.inr zO,hy⟩,zO,zF⟩
    ·rw [Fm _ zO] at hy;rw [hy,Bool.true_and] at hx;simp only [↓wR,zT,simprocAttr,h5];refine ⟨j+1+1,⟨hlt,hx⟩,zO,zF⟩
  ·have eL:i=0:=zO;have hv:gk z i c=oy c.type c.data:=by rw [eL];simp [gk]
   rw [hv] at hx;simp only [↓wR,zT,simprocAttr,h1];refine ⟨zK,?_⟩;refine dq [1,3,4,5] (fun (k:Nat)=>[.ptr 0 0,zi i,.ptr 1 0,zi ((k:Int)+1)]) (fun _=>[(zZ z),(zY c)]) (fun k=>(k=0\/k+1<=c.data.length)/\oy c.type c.data=oy c.type (c.data.drop k)) (fun k=>c.data.length - k) 0 ⟨.inl rfl,rfl⟩ zS zS ?_;rintro k ⟨hk,hy⟩;simp only [↓wR,zT,simprocAttr];rw [bg];refine ⟨fun h5=>?_,fun h5=>?_⟩
   ·obtain ⟨a,ha⟩:∃ a,c.data[k]? = some a:=⟨_,zh zO⟩;obtain ⟨b,hb⟩:∃ b,c.data[k+1]? = some b:=⟨_,zh zO⟩;have has:=hcs.data.mem a (zm ha);have aT:=hcs.data.mem b (zm hb);have rS:=of_decide_eq_true (hce a (zm ha));have fX:=of_decide_eq_true (hce b (zm hb));rw [Ht _ ha hb] at hy;simp only [↓wR,zT,simprocAttr,h5];refine ⟨zK,.inl ?_⟩
    repeat (first|simp only [↓wR,zT,simprocAttr,ha,hb,Int.add_sub_cancel,s6,Ax,mf,has,aT,rS,fX]|simp (disch:=omega) only [zW])
    rw [if_neg (by simp)];refine ⟨zK,?_⟩;rw [bg];refine ⟨fun h6=>?_,fun h6=>?_⟩
    ·rw [if_pos h6] at hy;rw [hy,Bool.false_and] at hx;rw [hx];simp only [↓wR,zT,simprocAttr,h6]
     try rfl
    ·rw [if_neg h6] at hy
     repeat (first|simp only [↓wR,zT,simprocAttr,h6]|simp (disch:=omega) only [zW])
     exact ⟨k+1,⟨.inr zO,hy⟩,zO,zF⟩
   ·rw [Fm _ zO] at hy;rw [hy,Bool.true_and] at hx;simp only [↓wR,zT,simprocAttr,h5];refine ⟨i+1,⟨hlt,hx⟩,zO,zF⟩
 ·rw [eg (zq h)] at hx;rw [hx];simp only [↓wR,zT,simprocAttr,h]
  try rfl
noncomputable def Es (x:au × Unit):Option AV:=if bj x.1/\okZ x.1=true then some ((r1 bk).E true (allI (gk x.1) 0 x.1.aj)) else none
theorem ach (x:au × Unit) (r:AV) (h:Es x=some r):bf PP 87 ((aC be a0).E x) r:=by obtain ⟨hc,rfl⟩:=zI h;exact aw (ar.cons (aq aj5) (ar.cons (aq Fh) (ar.nil PP))) Tryz.func87 zK zK zK zL (r1 bk) true (allI (gk x.1) 0 x.1.aj) (aks x.1 hc.1 hc.2)
noncomputable abbrev ay9:zE:=(87,true,ct (aC be a0) Es)
end Go.Proofs.YtgencolcibpcaaaGreat
end
namespace Go.Vm
variable [TK]
noncomputable section
def SW (P:Program) (nt:NT) (c:Code) (Q:QL) (L:SL) (st:St):Prop:=
 ∀ (N:Nat) (B:fh) (g:Gh) (a:Act) (w:World),B.ll->B.bb=0->B.n0<=B.w.heap.size->jn B nt L st g a w->c.wpIn (ft none) N P (Fin B nt Q) a w
def u7 (keep:List Nat) (V:List AV) (O:List (Option bo)):QL:=fun e L st=>
 match e with
 |.normal=>ij 0 keep L st=V/\fl 0 keep L st=O
 |_=>False
theorem fi {keep V O L st}:u7 keep V O .normal L st=(ij 0 keep L st=V/\fl 0 keep L st=O):=rfl
variable {P : Program} [KP P] {nt : NT} {Q : QL} {L : SL} {st : St}
theorem Wa {T:eh} (hT:ar P T) (hm:P.follows .mixedOrders=true) {c:Code} (hs:ec nt c=true) (h:wl P T 0 c Q L st):SW P nt c Q L st:=by intro N B g a w aH hp aS hh;refine wpIn_mono (piece hT hm (N:=N) aH zO aS hs (by rw [hp];exact h) hh) ?_;rintro ex a' w' ⟨e,L',aA,g',rfl,hq,bH,_⟩;exact ⟨e,L',aA,g',rfl,hq,bH.cur,bH.sl,bH.Fg⟩
theorem I5 {c:Code} {Q':QL} (hq:∀ e L st,Q e L st->Q' e L st) (h:SW P nt c Q L st):SW P nt c Q' L st:=by intro N B g a w aH hp aS hh;refine wpIn_mono (h N B g a w aH hp aS hh) ?_;rintro ex a' w' ⟨e,L',aA,g',rfl,h0,h1,h2,h3⟩;exact ⟨e,L',aA,g',rfl,hq _ _ _ h0,h1,h2,h3⟩
theorem Ow {x y:Code} (h:SW P nt x (Ik (SW P nt y) Q) L st):SW P nt (.seq x y) Q L st:=by
 intro N B g a w aH hp aS hh;refine wpIn_seq (wpIn_mono (h N B g a w aH hp aS hh) ?_);rintro ex a' w' ⟨e,L',aA,g',rfl,hq,h1,h2,h3⟩;cases e with
 |normal=>exact hq N B g' a' w' aH hp aS ⟨h1,h2,h3⟩
 |ret=>exact ⟨.ret,L',aA,g',rfl,hq,h1,h2,h3⟩
 |exit id=>exact ⟨.exit id,L',aA,g',rfl,hq,h1,h2,h3⟩
theorem aha {id:Nat} {c:Code} (h:SW P nt c (Li id Q) L st):SW P nt (.block id c) Q L st:=by
 intro N B g a w aH hp aS hh;refine wpIn_block (wpIn_mono (h N B g a w aH hp aS hh) ?_);rintro ex a' w' ⟨e,L',aA,g',rfl,hq,h1,h2,h3⟩;cases e with
 |normal=>exact ⟨.normal,L',aA,g',rfl,hq,h1,h2,h3⟩
 |ret=>exact ⟨.ret,L',aA,g',rfl,hq,h1,h2,h3⟩
 |exit j=>
  simp only [Li] at hq;by_cases e:j=id
  ·subst e;simp only [Nat.beq_refl,cond_true] at hq;simp only [sm,Exit.inBlock,if_true];exact ⟨.normal,L',aA,g',rfl,hq,h1,h2,h3⟩
  ·rw [qg e,cond_false] at hq;simp only [sm,Exit.inBlock,if_neg e];exact ⟨.exit j,L',aA,g',rfl,hq,h1,h2,h3⟩
theorem Ka {c:Code} (keep:List Nat) (V:List AV) (O:List (Option bo)) (hv:jh 0 (ij 0 keep L st) (fl 0 keep L st) V O) (h:SW P nt c Q (iz keep V) (bh O)):SW P nt c Q L st:=by intro N B g a w aH hp aS hh;obtain ⟨V',O',g1,⟨rfl,rfl⟩,k1,k2,k3,_⟩:=Qi (X:=fun vs os=>vs=V/\os=O) aH zO keep (by rw [hp];exact ⟨_,_,hv,rfl,rfl⟩) hh.cur hh.sl;exact h N B g1 a w aH hp aS ⟨k1,k2,k3 _ _ _ (Du zO keep hh.Fg)⟩
theorem Ae {T:eh} (hT:ar P T) (hm:P.follows .mixedOrders=true) {x y:Code} (keep:List Nat) (V:List AV) (O:List (Option bo)) (hs:ec nt x=true) (h:wl P T 0 x (u7 keep V O) L st) (k:SW P nt y Q (iz keep V) (bh O)):SW P nt (.seq x y) Q L st:=by
 refine Ow (I5 ?_ (Wa hT hm hs h));intro e L' aA hq;cases e with
 |normal=>exact Ka keep V O (by rw [hq.1,hq.2];exact jh.refl _ _ _) k
 |ret=>exact hq.elim
 |exit id=>exact hq.elim
theorem ava {T:eh} (hT:ar P T) (hm:P.follows .mixedOrders=true) {x:Code} (keep:List Nat) (V:List AV) (O:List (Option bo)) (hs:ec nt x=true) (h:wl P T 0 x (u7 keep V O) L st) (k:∀ L st,ij 0 keep L st=V->fl 0 keep L st=O->Q .normal L st):SW P nt x Q L st:=by
 refine I5 ?_ (Wa hT hm hs h);intro e L' aA hq;cases e with
 |normal=>exact k L' aA hq.1 hq.2
 |ret=>exact hq.elim
 |exit id=>exact hq.elim
theorem aBg {c:Code} {α:Type} (keep:List Nat) (V : α->List AV) (O : α->List (Option bo)) (I : α->Prop) (μ : α->Nat) (x : α) (hx:I x)
 (hv:jh 0 (ij 0 keep L st) (fl 0 keep L st) (V x) (O x))
 (step:∀ x,I x->SW P nt c (xl 0 keep (fun vs os=>∃ y,I y /\ μ y < μ x/\vs=V y/\os=O y) Q) (iz keep (V x)) (bh (O x))):SW P nt (.loop c) Q L st:=by
 refine Ka keep (V x) (O x) hv ?_;intro N B g a w aH hp aS hh;refine aq5 (fun x a w=>I x/\∃ g,jn B nt (iz keep (V x)) (bh (O x)) g a w) μ ?_ x a w ⟨hx,g,hh⟩;rintro x a w ⟨hi,g,hh⟩;refine wpIn_mono (step x hi N B g a w aH hp aS hh) ?_;rintro ex a' w' ⟨e,L',aA,g',rfl,hq,h1,h2,h3⟩;cases e with
 |normal=>
  obtain ⟨y,hy,hlt,e1,e2⟩:=hq;have hc:=jn.canon aH zO keep (⟨h1,h2,h3⟩:jn B nt L' aA g' a' w');rw [hp,e1,e2] at hc;exact ⟨y,hlt,hy,_,hc⟩
 |ret=>exact ⟨.ret,L',aA,g',rfl,hq,h1,h2,h3⟩
 |exit id=>exact ⟨.exit id,L',aA,g',rfl,hq,h1,h2,h3⟩
def apg (k:Nat) (keep:List Nat) (V:List AV) (O:List (Option bo)):QL:=fun e L st=>
 match e with
 |.exit j=>j=k/\ij 0 keep L st=V/\fl 0 keep L st=O
 |_=>False
theorem aA8 {k keep V O L st j}:apg k keep V O (.exit j) L st=(j=k/\ij 0 keep L st=V/\fl 0 keep L st=O):=rfl
theorem atd {T:eh} (hT:ar P T) (hm:P.follows .mixedOrders=true) (n:Nat) {c:Code} (hsp:Ou (n+1) c=true) (hs:ec nt c=true) (h:wl P T 0 (ni (n+1) c) (Ik (SW P nt (gm (n+1) c)) Q) L st):SW P nt c Q L st:=by
 intro N B g a w aH hp aS hh;refine Hu hT hm (N:=N) aH zO aS n c hsp hs (X:=Fin B nt Q) (Q:=Ik (SW P nt (gm (n+1) c)) Q) ?_ L st g a w (by rw [hp];exact h) hh;intro e L' aA g' a' w' hq bH;cases e with
 |normal=>exact hq N B g' a' w' aH hp aS bH
 |ret=>exact ⟨.ret,L',aA,g',rfl,hq,bH.cur,bH.sl,bH.Fg⟩
 |exit id=>exact ⟨.exit id,L',aA,g',rfl,hq,bH.cur,bH.sl,bH.Fg⟩
theorem Y7 {f:Nat} {fn:Func} {body:Code} (hf:P.funcs[f]? = some fn) (hb:fn.body=some body) (he:nq P f=true) {args:List AV} (hl:args.length<=fn.ntmps) {ρ:Type} (R:RC ρ) (fr:Bool) (x : ρ)
 (h:SW P fn.ntmps body (c8 P fn.results.toList (fun r st=>R.get fr st.h r=some x)) (cg 0 args) (bh [])):bf P f args (R.E fr x):=
 Ga hf hb he hl R fr x (fun B g a w aH hp _ aS hh=>h 0 B g a w aH hp aS hh)
end
end Go.Vm
section
namespace Go.Proofs.YtgencolcibpcaaaGreat
open Go.Vm
noncomputable def oj:Code:=match Tryz.f88.body.getD .skip with
 |.seq _ (.seq _ (.seq _ (.seq _ (.seq (.seq _ (.block _ (.loop b))) _))))=>b
 |_=>.skip
noncomputable def l8:Code:=match oj with
 |.seq _ (.seq (.block _ b) _)=>b
 |_=>.skip
noncomputable def ar4:Code:=ni 4 (Tryz.f88.body.getD .skip)
noncomputable def Ya:Code:=match Tryz.f88.body.getD .skip with
 |.seq _ (.seq _ (.seq _ (.seq _ (.seq (.seq a _) _))))=>a
 |_=>.skip
theorem asr (z:au):wl PP [oa,mz,qe,kq] 0 ar4 (D7 (fun L st=>wl PP [oa,mz,qe,kq] 0 Ya (u7 [1,3,4,5,6] [.ptr 0 0,.sl 1 0 7 1,zi 0,.sc (.bool false),zi 0] [(zZ z),some (.row [.sc (.bool false),.sc (.bool false),.sc (.bool false),.sc (.bool false),.sc (.bool false),.sc (.bool false),.sc (.bool false)] 0 0 4)]) L st) noQ) (cg 0 [be.val false z]) (bh []):=by unfold ar4 Ya Tryz.f88;simp only [dr];simp only [↓wR,zT,simprocAttr,lx,i9,om,fi]
noncomputable def Yt:Code:=ni 1 (gm 2 l8)
noncomputable def Yc:Code:=ni 1 (gm 3 l8)
noncomputable def Zb:Code:=ni 1 (gm 4 l8)
noncomputable def Ze:Code:=ni 1 (gm 5 l8)
noncomputable def Zh:Code:=ni 1 (gm 6 l8)
noncomputable def Zj:Code:=ni 1 (gm 7 l8)
noncomputable def Yj:Code:=gm 8 l8
noncomputable def amt:Code:=ni 2 l8
theorem azh (z:au) (s:az) (i m:Nat) (p a b c d e f:Bool) (hz:bj z) (hs:dh s) (hi:z.aj[i]? = some s):wl PP [oa,mz,qe,kq] 0 amt (u7 [1,3,4,5,6,7,8] [.ptr 0 0,.sl 1 0 7 1,zi m,.sc (.bool p),zi i,.ptr 2 0,.sc (.bool (dm s.owner z.origin))] [(zZ z),some (.row [.sc (.bool a),.sc (.bool b),.sc (.bool c),.sc (.bool false),.sc (.bool d),.sc (.bool e),.sc (.bool f)] 0 0 4),(zY s)]) (iz [1,3,4,5,6] [.ptr 0 0,.sl 1 0 7 1,zi m,.sc (.bool p),zi i]) (bh [(zZ z),some (.row [.sc (.bool a),.sc (.bool b),.sc (.bool c),.sc (.bool false),.sc (.bool d),.sc (.bool e),.sc (.bool f)] 0 0 4)]):=by have hlen:=hz.len;have hlt:=(zg.1 hi).1;unfold amt l8 oj Tryz.f88;simp only [↓wR,zT,simprocAttr,lx,i9,fi,hi,wo,hs.owner,hz.origin]
theorem aw0 (z:au) (s:az) (i m:Nat) (p t a b c d e f:Bool) (a':Bool) (hz:bj z) (hs:dh s) (hq:a'=(a || !ju s)):wl PP [oa,mz,qe,kq] 0 Yt (u7 [1,3,4,5,6,7,8] [.ptr 0 0,.sl 1 0 7 1,zi m,.sc (.bool p),zi i,.ptr 2 0,.sc (.bool t)] [(zZ z),some (.row [.sc (.bool a'),.sc (.bool b),.sc (.bool c),.sc (.bool false),.sc (.bool d),.sc (.bool e),.sc (.bool f)] 0 0 4),(zY s)]) (iz [1,3,4,5,6,7,8] [.ptr 0 0,.sl 1 0 7 1,zi m,.sc (.bool p),zi i,.ptr 2 0,.sc (.bool t)]) (bh [(zZ z),some (.row [.sc (.bool a),.sc (.bool b),.sc (.bool c),.sc (.bool false),.sc (.bool d),.sc (.bool e),.sc (.bool f)] 0 0 4),(zY s)]):=by
 unfold Yt l8 oj Tryz.f88;simp only [↓wR,zT,simprocAttr,jf,jg,i9,fi];rw [dg];refine ⟨fun ⟨h1,e1⟩=>?_,fun ⟨h1,e1⟩=>?_⟩
 ·have h0:a'=true:=by rw [hq];simp [ju,e1]
  subst h0;simp only [↓wR,zT,simprocAttr,h1,fi]
 simp only [↓wR,zT,simprocAttr,h1];rw [bz];refine ⟨fun ⟨h2,e2⟩=>?_,fun ⟨h2,e2⟩=>?_⟩
 ·have h0:a'=true:=by rw [hq];simp [ju,e1,e2]
  subst h0;simp only [↓wR,zT,simprocAttr,h2,fi]
 simp only [↓wR,zT,simprocAttr,h2];rw [bz];refine ⟨fun ⟨h3,e3⟩=>?_,fun ⟨h3,e3⟩=>?_⟩
 ·have h0:a'=true:=by rw [hq];simp [ju,e1,e3]
  subst h0;simp only [↓wR,zT,simprocAttr,h3,fi]
 simp only [↓wR,zT,simprocAttr,h3];rw [bz];refine ⟨fun ⟨h4,e4⟩=>?_,fun ⟨h4,e4⟩=>?_⟩
 ·have h0:a'=true:=by rw [hq];simp [ju,e1,e4]
  subst h0;simp only [↓wR,zT,simprocAttr,h4,fi]
 ·have h0:a'=a:=by rw [hq];unfold ju;rw [if_neg zO,if_neg e2,if_neg e3,zq e4];simp
  subst h0;simp only [↓wR,zT,simprocAttr,h4,fi]
theorem azg (z:au) (s:az) (i m:Nat) (p t a b c d e f:Bool) (b':Bool) (hz:bj z) (hs:dh s) (hq:b'=(b || !dp s.owner z.origin)):wl PP [oa,mz,qe,kq] 0 Yc (u7 [1,3,4,5,6,7,8] [.ptr 0 0,.sl 1 0 7 1,zi m,.sc (.bool p),zi i,.ptr 2 0,.sc (.bool t)] [(zZ z),some (.row [.sc (.bool a),.sc (.bool b'),.sc (.bool c),.sc (.bool false),.sc (.bool d),.sc (.bool e),.sc (.bool f)] 0 0 4),(zY s)]) (iz [1,3,4,5,6,7,8] [.ptr 0 0,.sl 1 0 7 1,zi m,.sc (.bool p),zi i,.ptr 2 0,.sc (.bool t)]) (bh [(zZ z),some (.row [.sc (.bool a),.sc (.bool b),.sc (.bool c),.sc (.bool false),.sc (.bool d),.sc (.bool e),.sc (.bool f)] 0 0 4),(zY s)]):=by
 unfold Yc l8 oj Tryz.f88;simp only [↓wR,zT,simprocAttr,jf,jg,i9,fi,vz,hs.owner,hz.origin];rw [cq];refine ⟨fun h1=>?_,fun h1=>?_⟩
 ·have h0:b'=true:=by rw [hq,h1,Bool.or_true]
  subst h0;simp only [↓wR,zT,simprocAttr,h1,fi]
 ·have h0:b'=b:=by rw [hq,h1,Bool.or_false]
  subst h0;simp only [↓wR,zT,simprocAttr,h1,fi]
theorem aw9 (z:au) (s:az) (i m:Nat) (p t a b c d e f:Bool) (c':Bool) (m':Nat) (hz:bj z) (hs:dh s) (hm:m<=16777216) (dS:m'=m+if (s.type.toNat:Int)=6 then 1 else 0) (hq:c'=(c || (decide ((s.type.toNat:Int)=6) && (!t || decide ((s.data.length:Int)≠1))))):wl PP [oa,mz,qe,kq] 0 Zb (u7 [1,3,4,5,6,7,8] [.ptr 0 0,.sl 1 0 7 1,zi m',.sc (.bool p),zi i,.ptr 2 0,.sc (.bool t)] [(zZ z),some (.row [.sc (.bool a),.sc (.bool b),.sc (.bool c'),.sc (.bool false),.sc (.bool d),.sc (.bool e),.sc (.bool f)] 0 0 4),(zY s)]) (iz [1,3,4,5,6,7,8] [.ptr 0 0,.sl 1 0 7 1,zi m,.sc (.bool p),zi i,.ptr 2 0,.sc (.bool t)]) (bh [(zZ z),some (.row [.sc (.bool a),.sc (.bool b),.sc (.bool c),.sc (.bool false),.sc (.bool d),.sc (.bool e),.sc (.bool f)] 0 0 4),(zY s)]):=by
 unfold Zb l8 oj Tryz.f88;simp only [↓wR,zT,simprocAttr,jf,jg,i9,fi];rw [bz];refine ⟨fun ⟨h1,e1⟩=>?_,fun ⟨h1,e1⟩=>?_⟩
 ·rw [if_pos e1] at dS;rw [zp e1,Bool.true_and] at hq;subst dS
  repeat (first|simp only [↓wR,zT,simprocAttr,h1]|simp (disch:=omega) only [zW])
  cases t
  ·have h0:c'=true:=by rw [hq];simp
   subst h0
   repeat (first|simp only [↓wR,zT,simprocAttr,fi]|simp (disch:=omega) only [zW])
   exact zF
  repeat (first|simp only [↓wR,zT,simprocAttr]|simp (disch:=omega) only [zW])
  rw [dg];refine ⟨fun ⟨h2,e2⟩=>?_,fun ⟨h2,e2⟩=>?_⟩
  ·have h0:c'=true:=by rw [hq,zp e2];simp
   subst h0
   repeat (first|simp only [↓wR,zT,simprocAttr,h2,fi]|simp (disch:=omega) only [zW])
   exact zF
  ·have h0:c'=c:=by rw [hq,zq zO];simp
   subst h0
   repeat (first|simp only [↓wR,zT,simprocAttr,h2,fi]|simp (disch:=omega) only [zW])
   exact zF
 ·rw [if_neg e1] at dS;rw [zq e1,Bool.false_and,Bool.or_false] at hq;subst dS;subst hq;simp only [↓wR,zT,simprocAttr,h1,fi]
theorem aya (z:au) (s:az) (i m:Nat) (p t a b c d e f:Bool) (p':Bool) (hz:bj z) (hs:dh s) (hq:p'=(p || (decide ((s.type.toNat:Int)=2) && t))):wl PP [oa,mz,qe,kq] 0 Ze (u7 [1,3,4,5,6,7,8] [.ptr 0 0,.sl 1 0 7 1,zi m,.sc (.bool p'),zi i,.ptr 2 0,.sc (.bool t)] [(zZ z),some (.row [.sc (.bool a),.sc (.bool b),.sc (.bool c),.sc (.bool false),.sc (.bool d),.sc (.bool e),.sc (.bool f)] 0 0 4),(zY s)]) (iz [1,3,4,5,6,7,8] [.ptr 0 0,.sl 1 0 7 1,zi m,.sc (.bool p),zi i,.ptr 2 0,.sc (.bool t)]) (bh [(zZ z),some (.row [.sc (.bool a),.sc (.bool b),.sc (.bool c),.sc (.bool false),.sc (.bool d),.sc (.bool e),.sc (.bool f)] 0 0 4),(zY s)]):=by
 unfold Ze l8 oj Tryz.f88;simp only [↓wR,zT,simprocAttr,jf,jg,i9,fi];rw [bz];refine ⟨fun ⟨h1,e1⟩=>?_,fun ⟨h1,e1⟩=>?_⟩
 ·rw [zp e1,Bool.true_and] at hq;simp only [↓wR,zT,simprocAttr,h1];cases t
  ·have h0:p'=p:=by rw [hq];simp
   subst h0;simp only [↓wR,zT,simprocAttr,fi]
  ·have h0:p'=true:=by rw [hq];simp
   subst h0;simp only [↓wR,zT,simprocAttr,fi]
 ·rw [zq e1,Bool.false_and,Bool.or_false] at hq;subst hq;simp only [↓wR,zT,simprocAttr,h1,fi]
theorem ayt (z:au) (s:az) (i m:Nat) (p t a b c d e f:Bool) (d':Bool) (hz:bj z) (hs:dh s) (hq:d'=(d || mr z s)):wl PP [oa,mz,qe,kq] 0 Zh (u7 [1,3,4,5,6,7,8] [.ptr 0 0,.sl 1 0 7 1,zi m,.sc (.bool p),zi i,.ptr 2 0,.sc (.bool t)] [(zZ z),some (.row [.sc (.bool a),.sc (.bool b),.sc (.bool c),.sc (.bool false),.sc (.bool d'),.sc (.bool e),.sc (.bool f)] 0 0 4),(zY s)]) (iz [1,3,4,5,6,7,8] [.ptr 0 0,.sl 1 0 7 1,zi m,.sc (.bool p),zi i,.ptr 2 0,.sc (.bool t)]) (bh [(zZ z),some (.row [.sc (.bool a),.sc (.bool b),.sc (.bool c),.sc (.bool false),.sc (.bool d),.sc (.bool e),.sc (.bool f)] 0 0 4),(zY s)]):=by
 unfold Zh l8 oj Tryz.f88;simp only [↓wR,zT,simprocAttr,jf,jg,i9,fi,Jq,hs,hz];rw [cq];refine ⟨fun h1=>?_,fun h1=>?_⟩
 ·have h0:d'=true:=by rw [hq,h1,Bool.or_true]
  subst h0;simp only [↓wR,zT,simprocAttr,h1,fi]
 ·have h0:d'=d:=by rw [hq,h1,Bool.or_false]
  subst h0;simp only [↓wR,zT,simprocAttr,h1,fi]
theorem aw7 (z:au) (s:az) (i m:Nat) (p t a b c d e f:Bool) (e':Bool) (hz:bj z) (hs:dh s) (hq:e'=(e || !jv s)):wl PP [oa,mz,qe,kq] 0 Zj (u7 [1,3,4,5,6,7,8] [.ptr 0 0,.sl 1 0 7 1,zi m,.sc (.bool p),zi i,.ptr 2 0,.sc (.bool t)] [(zZ z),some (.row [.sc (.bool a),.sc (.bool b),.sc (.bool c),.sc (.bool false),.sc (.bool d),.sc (.bool e'),.sc (.bool f)] 0 0 4),(zY s)]) (iz [1,3,4,5,6,7,8] [.ptr 0 0,.sl 1 0 7 1,zi m,.sc (.bool p),zi i,.ptr 2 0,.sc (.bool t)]) (bh [(zZ z),some (.row [.sc (.bool a),.sc (.bool b),.sc (.bool c),.sc (.bool false),.sc (.bool d),.sc (.bool e),.sc (.bool f)] 0 0 4),(zY s)]):=by
 unfold Zj l8 oj Tryz.f88;have bY:=qc hs.owner;simp only [↓wR,zT,simprocAttr,jf,jg,i9,fi];rw [bz];refine ⟨fun ⟨h1,e1⟩=>?_,fun ⟨h1,e1⟩=>?_⟩
 ·simp only [↓wR,zT,simprocAttr,h1];rw [bg];refine ⟨fun h2=>?_,fun h2=>?_⟩
  ·obtain ⟨c0,hc0⟩:∃ c0,s.owner[0]? = some c0:=⟨_,zh zO⟩;simp only [↓wR,zT,simprocAttr,h2,hc0];rw [cq];refine ⟨fun h3=>?_,fun h3=>?_⟩
   ·have h0:e'=true:=by rw [hq];unfold jv;rw [if_neg (by simpa using e1),hc0];show (e || !!decide (c0=oc))=true;rw [show decide (c0=oc)=true from h3];simp
    subst h0;simp only [↓wR,zT,simprocAttr,h3,fi]
   ·have h0:e'=e:=by rw [hq];unfold jv;rw [if_neg (by simpa using e1),hc0];show (e || !!decide (c0=oc))=e;rw [show decide (c0=oc)=false from h3];simp
    subst h0;simp only [↓wR,zT,simprocAttr,h3,fi]
  ·have h0:e'=e:=by rw [hq];unfold jv;rw [if_neg (by simpa using e1),zzy zO];simp
   subst h0;simp only [↓wR,zT,simprocAttr,h2,fi]
 ·have h0:e'=e:=by rw [hq];unfold jv;rw [if_pos e1];simp
  subst h0;simp only [↓wR,zT,simprocAttr,h1,fi]
theorem aww (z:au) (s:az) (i m:Nat) (p t a b c d e f:Bool) (f':Bool) (hz:bj z) (hs:dh s) (hq:f'=(f || !lu z s)):wl PP [oa,mz,qe,kq] 0 Yj (u7 [1,3,4,5,6,7,8] [.ptr 0 0,.sl 1 0 7 1,zi m,.sc (.bool p),zi i,.ptr 2 0,.sc (.bool t)] [(zZ z),some (.row [.sc (.bool a),.sc (.bool b),.sc (.bool c),.sc (.bool false),.sc (.bool d),.sc (.bool e),.sc (.bool f')] 0 0 4),(zY s)]) (iz [1,3,4,5,6,7,8] [.ptr 0 0,.sl 1 0 7 1,zi m,.sc (.bool p),zi i,.ptr 2 0,.sc (.bool t)]) (bh [(zZ z),some (.row [.sc (.bool a),.sc (.bool b),.sc (.bool c),.sc (.bool false),.sc (.bool d),.sc (.bool e),.sc (.bool f)] 0 0 4),(zY s)]):=by
 unfold Yj l8 oj Tryz.f88;simp only [↓wR,zT,simprocAttr,jf,jg,kr,ko,i9,fi,A9,hs,hz];rw [cq];refine ⟨fun h1=>?_,fun h1=>?_⟩
 ·have h0:f'=true:=by rw [hq,h1,Bool.or_true]
  subst h0;simp only [↓wR,zT,simprocAttr,h1,fi]
 ·have h0:f'=f:=by rw [hq,h1,Bool.or_false]
  subst h0;simp only [↓wR,zT,simprocAttr,h1,fi]
def anyS (q:az->Bool) (z:au) (i:Nat):Bool:=(z.aj.take i).any q
theorem Da {q:az->Bool} {z:au} {i:Nat} {s:az} (h:z.aj[i]? = some s):anyS q z (i+1)=(anyS q z i || q s):=by obtain ⟨hi,rfl⟩:=zg.1 h;unfold anyS;rw [zz5 hi,List.any_append];simp
def v8 (z:au) (i:Nat):Nat:=((z.aj.take i).filter fun s=>decide ((s.type.toNat:Int)=6)).length
theorem aBw {z:au} {i:Nat} {s:az} (h:z.aj[i]? = some s):v8 z (i+1)=v8 z i+if (s.type.toNat:Int)=6 then 1 else 0:=by
 obtain ⟨hi,rfl⟩:=zg.1 h;unfold v8;rw [zz5 hi,List.filter_append,za,List.filter_cons,List.filter_nil]
 congr 1
 split<;>split<;>simp_all
theorem aB2 (z:au) (i:Nat):v8 z i<=z.aj.length:=by unfold v8;exact zzu (List.length_filter_le _ _) (by rw [zzl];omega)
def Gv (s:az):Bool:=!ju s
def F8 (z:au) (s:az):Bool:=!dp s.owner z.origin
def wv (z:au) (s:az):Bool:=decide ((s.type.toNat:Int)=6) && (!dm s.owner z.origin || decide ((s.data.length:Int)≠1))
def vk (z:au) (s:az):Bool:=decide ((s.type.toNat:Int)=2) && dm s.owner z.origin
def G4 (s:az):Bool:=!jv s
def Gq (z:au) (s:az):Bool:=!lu z s
noncomputable def Oe:Code:=match oj with
 |.seq a _=>a
 |_=>.skip
noncomputable def Qz:Code:=match oj with
 |.seq _ (.seq _ b)=>b
 |_=>.skip
theorem So:oj = .seq Oe (.seq (.block 1 l8) Qz):=zK
theorem ld:ar PP [oa,mz,qe,kq]:=ar.cons (aq uo) (ar.cons (aq yr) (ar.cons (aq akq) (ar.cons (aq Yx) (ar.nil PP))))
theorem axb (z:au) (i m:Nat) (p a b c d e f:Bool) (hi:i<z.aj.length):wl PP [oa,mz,qe,kq] 0 Oe (u7 [1,3,4,5,6] [.ptr 0 0,.sl 1 0 7 1,zi m,.sc (.bool p),zi i] [(zZ z),some (.row [.sc (.bool a),.sc (.bool b),.sc (.bool c),.sc (.bool false),.sc (.bool d),.sc (.bool e),.sc (.bool f)] 0 0 4)]) (iz [1,3,4,5,6] [.ptr 0 0,.sl 1 0 7 1,zi m,.sc (.bool p),zi i]) (bh [(zZ z),some (.row [.sc (.bool a),.sc (.bool b),.sc (.bool c),.sc (.bool false),.sc (.bool d),.sc (.bool e),.sc (.bool f)] 0 0 4)]):=by have h:decide ((i:Int)<z.aj.length)=true:=zp zO;unfold Oe oj Tryz.f88;simp only [↓wR,zT,simprocAttr,fi,h]
theorem axt (z:au) (i m:Nat) (p a b c d e f:Bool) (hi:¬ i<z.aj.length):wl PP [oa,mz,qe,kq] 0 Oe (apg 0 [3,4,5] [.sl 0 0 7 1,zi m,.sc (.bool p)] [some (.row [.sc (.bool a),.sc (.bool b),.sc (.bool c),.sc (.bool false),.sc (.bool d),.sc (.bool e),.sc (.bool f)] 0 0 4)]) (iz [1,3,4,5,6] [.ptr 0 0,.sl 1 0 7 1,zi m,.sc (.bool p),zi i]) (bh [(zZ z),some (.row [.sc (.bool a),.sc (.bool b),.sc (.bool c),.sc (.bool false),.sc (.bool d),.sc (.bool e),.sc (.bool f)] 0 0 4)]):=by have h:decide ((i:Int)<z.aj.length)=false:=zq zO;unfold Oe oj Tryz.f88;simp only [↓wR,zT,simprocAttr,aA8,h]
theorem aw1 (z:au) (s:az) (i m:Nat) (p t a b c d e f:Bool) (hi:i<=16777216):wl PP [oa,mz,qe,kq] 0 Qz (u7 [1,3,4,5,6] [.ptr 0 0,.sl 1 0 7 1,zi m,.sc (.bool p),zi ((i+1:Nat))] [(zZ z),some (.row [.sc (.bool a),.sc (.bool b),.sc (.bool c),.sc (.bool false),.sc (.bool d),.sc (.bool e),.sc (.bool f)] 0 0 4)]) (iz [1,3,4,5,6,7,8] [.ptr 0 0,.sl 1 0 7 1,zi m,.sc (.bool p),zi i,.ptr 2 0,.sc (.bool t)]) (bh [(zZ z),some (.row [.sc (.bool a),.sc (.bool b),.sc (.bool c),.sc (.bool false),.sc (.bool d),.sc (.bool e),.sc (.bool f)] 0 0 4),(zY s)]):=by
 unfold Qz oj Tryz.f88
 repeat (first|simp only [↓wR,zT,simprocAttr,fi]|simp (disch:=omega) only [zW])
 all_goals first|done|exact zF
theorem ait:gm 2 l8 = .seq Yt (.seq Yc (.seq Zb (.seq Ze (.seq Zh (.seq Zj Yj))))):=zK
theorem aoe {z:au} (hz:bj z) {i:Nat} {s:az} (hi:z.aj[i]? = some s) {Q:QL} (hQ:∀ L st,Go.Vm.ij 0 [1,3,4,5,6] L st=[.ptr 0 0,.sl 1 0 7 1,zi ((v8 z (i+1))),.sc (.bool (anyS (vk z) z (i+1))),zi ((i+1))]->fl 0 [1,3,4,5,6] L st=[(zZ z),some (.row [.sc (.bool (anyS Gv z (i+1))),.sc (.bool (anyS (F8 z) z (i+1))),.sc (.bool (anyS (wv z) z (i+1))),.sc (.bool false),.sc (.bool (anyS (mr z) z (i+1))),.sc (.bool (anyS G4 z (i+1))),.sc (.bool (anyS (Gq z) z (i+1)))] 0 0 4)]->Q .normal L st):SW PP (Tryz.f88.ntmps:NT) oj Q (iz [1,3,4,5,6] [.ptr 0 0,.sl 1 0 7 1,zi ((v8 z (i))),.sc (.bool (anyS (vk z) z (i))),zi ((i))]) (bh [(zZ z),some (.row [.sc (.bool (anyS Gv z (i))),.sc (.bool (anyS (F8 z) z (i))),.sc (.bool (anyS (wv z) z (i))),.sc (.bool false),.sc (.bool (anyS (mr z) z (i))),.sc (.bool (anyS G4 z (i))),.sc (.bool (anyS (Gq z) z (i)))] 0 0 4)]):=by
 have hs:=hz.set s (zm hi);have hlt:=(zg.1 hi).1;have hlen:=hz.len;have hm:=aB2 z i;rw [So];refine Ae ld zK [1,3,4,5,6] _ _ zK (axb z i _ _ _ _ _ _ _ _ hlt) ?_;refine Ow (aha ?_);refine atd ld zK 1 zK zK (C3 _ _ _ ?_ _ _ (azh z s i _ _ _ _ _ _ _ _ hz hs hi));intro e L st hq;cases e with
 |ret=>exact hq.elim
 |exit j=>exact hq.elim
 |normal=>
 refine Ka [1,3,4,5,6,7,8] _ _ (by rw [hq.1,hq.2];exact jh.refl _ _ _) ?_;rw [ait];refine Ae ld zK [1,3,4,5,6,7,8] _ _ zK (aw0 z s i _ _ _ _ _ _ _ _ _ _ hz hs (Da (q:=Gv) hi)) ?_;refine Ae ld zK [1,3,4,5,6,7,8] _ _ zK (azg z s i _ _ _ _ _ _ _ _ _ _ hz hs (Da (q:=F8 z) hi)) ?_;refine Ae ld zK [1,3,4,5,6,7,8] _ _ zK (aw9 z s i _ _ _ _ _ _ _ _ _ _ _ hz hs zO (aBw hi) (Da (q:=wv z) hi)) ?_;refine Ae ld zK [1,3,4,5,6,7,8] _ _ zK (aya z s i _ _ _ _ _ _ _ _ _ _ hz hs (Da (q:=vk z) hi)) ?_;refine Ae ld zK [1,3,4,5,6,7,8] _ _ zK (ayt z s i _ _ _ _ _ _ _ _ _ _ hz hs (Da (q:=mr z) hi)) ?_;refine Ae ld zK [1,3,4,5,6,7,8] _ _ zK (aw7 z s i _ _ _ _ _ _ _ _ _ _ hz hs (Da (q:=G4) hi)) ?_;refine ava ld zK [1,3,4,5,6,7,8] _ _ zK (aww z s i _ _ _ _ _ _ _ _ _ _ hz hs (Da (q:=Gq z) hi)) ?_;intro L st e1 e2;show SW PP (Tryz.f88.ntmps:NT) Qz Q L st;exact Ka [1,3,4,5,6,7,8] _ _ (by rw [e1,e2];exact jh.refl _ _ _) (ava ld zK [1,3,4,5,6] _ _ zK (aw1 z s i _ _ _ _ _ _ _ _ _ zO) hQ)
theorem aqp {z:au} (hz:bj z) {L:SL} {st:St} (h1:Go.Vm.ij 0 [1,3,4,5,6] L st=[.ptr 0 0,.sl 1 0 7 1,zi ((v8 z (0))),.sc (.bool (anyS (vk z) z (0))),zi ((0))]) (h2:fl 0 [1,3,4,5,6] L st=[(zZ z),some (.row [.sc (.bool (anyS Gv z (0))),.sc (.bool (anyS (F8 z) z (0))),.sc (.bool (anyS (wv z) z (0))),.sc (.bool false),.sc (.bool (anyS (mr z) z (0))),.sc (.bool (anyS G4 z (0))),.sc (.bool (anyS (Gq z) z (0)))] 0 0 4)]):SW PP (Tryz.f88.ntmps:NT) (.loop oj) (apg 0 [3,4,5] [.sl 0 0 7 1,zi ((v8 z (z.aj.length))),.sc (.bool (anyS (vk z) z (z.aj.length)))] [some (.row [.sc (.bool (anyS Gv z (z.aj.length))),.sc (.bool (anyS (F8 z) z (z.aj.length))),.sc (.bool (anyS (wv z) z (z.aj.length))),.sc (.bool false),.sc (.bool (anyS (mr z) z (z.aj.length))),.sc (.bool (anyS G4 z (z.aj.length))),.sc (.bool (anyS (Gq z) z (z.aj.length)))] 0 0 4)]) L st:=by
 refine aBg (α:=Nat) [1,3,4,5,6] (fun i=>[.ptr 0 0,.sl 1 0 7 1,zi ((v8 z (i))),.sc (.bool (anyS (vk z) z (i))),zi ((i))]) (fun i=>[(zZ z),some (.row [.sc (.bool (anyS Gv z (i))),.sc (.bool (anyS (F8 z) z (i))),.sc (.bool (anyS (wv z) z (i))),.sc (.bool false),.sc (.bool (anyS (mr z) z (i))),.sc (.bool (anyS G4 z (i))),.sc (.bool (anyS (Gq z) z (i)))] 0 0 4)]) (fun i=>i<=z.aj.length) (fun i=>z.aj.length - i) 0 (zzb _) (by rw [h1,h2];exact jh.refl _ _ _) ?_;intro i hi;by_cases hlt:i<z.aj.length
 ·exact aoe hz (zh hlt) (fun L st e1 e2=>⟨i+1,hlt,zO,e1,e2⟩)
 ·have he:i=z.aj.length:=zO;subst he;rw [So];refine Ow (I5 ?_ (Wa ld zK zK (axt z _ _ _ _ _ _ _ _ _ hlt)));intro e L st hq;cases e with
  |normal=>exact hq.elim
  |ret=>exact hq.elim
  |exit j=>exact hq
noncomputable def ahp:Code:=gm 5 (Tryz.f88.body.getD .skip)
theorem ajx:gm 4 (Tryz.f88.body.getD .skip) = .seq (.seq Ya (.block 0 (.loop oj))) ahp:=zK
noncomputable def af2:Code:=ni 1 (gm 5 (Tryz.f88.body.getD .skip))
noncomputable def agj:Code:=gm 6 (Tryz.f88.body.getD .skip)
theorem alg:ahp = .seq af2 agj:=zK
theorem aAp (m:Nat) (p a b c d e f c':Bool) (hq:c'=(c || decide ((m:Int)≠1))):wl PP [oa,mz,qe,kq] 0 af2 (u7 [3,5] [.sl 0 0 7 1,.sc (.bool p)] [some (.row [.sc (.bool a),.sc (.bool b),.sc (.bool c'),.sc (.bool false),.sc (.bool d),.sc (.bool e),.sc (.bool f)] 0 0 4)]) (iz [3,4,5] [.sl 0 0 7 1,zi m,.sc (.bool p)]) (bh [some (.row [.sc (.bool a),.sc (.bool b),.sc (.bool c),.sc (.bool false),.sc (.bool d),.sc (.bool e),.sc (.bool f)] 0 0 4)]):=by
 unfold af2 Tryz.f88;simp only [↓wR,zT,simprocAttr,jf,jg,i9,fi];rw [dg];refine ⟨fun ⟨h1,e1⟩=>?_,fun ⟨h1,e1⟩=>?_⟩
 ·have h0:c'=true:=by rw [hq,zp e1,Bool.or_true]
  subst h0;simp only [↓wR,zT,simprocAttr,h1,fi]
 ·have h0:c'=c:=by rw [hq,zq zO,Bool.or_false]
  subst h0;simp only [↓wR,zT,simprocAttr,h1,fi]
def J0:List Bool->List Int->Int
 |true::_,e::_=>e
 |false::l,_::r=>J0 l r
 |_,_=>0
theorem aCa (p a b c d e f:Bool):wl PP [oa,mz,qe,kq] 0 agj (c8 PP Tryz.f88.results.toList (fun r st=>(r1 (ba .i64)).get true st.h r=some (J0 [a,b,c,!p,d,e,f] [261,262,263,264,265,266,267]))) (iz [3,5] [.sl 0 0 7 1,.sc (.bool p)]) (bh [some (.row [.sc (.bool a),.sc (.bool b),.sc (.bool c),.sc (.bool false),.sc (.bool d),.sc (.bool e),.sc (.bool f)] 0 0 4)]):=by
 unfold agj Tryz.f88;simp only [↓wR,zT,simprocAttr,jf,jg,kr,ko];generalize (!p)=q;refine dq [3,9,10] (fun (k:Nat)=>[.sl 0 0 7 1,.sl 1 0 7 1,zi k]) (fun _=>[some (.row [.sc (.bool a),.sc (.bool b),.sc (.bool c),.sc (.bool q),.sc (.bool d),.sc (.bool e),.sc (.bool f)] 0 0 4),some (.row [zi 261,zi 262,zi 263,zi 264,zi 265,zi 266,zi 267] 0 0 3)]) (fun k=>k<=7/\J0 [a,b,c,q,d,e,f] [261,262,263,264,265,266,267]=J0 ([a,b,c,q,d,e,f].drop k) (List.drop k [261,262,263,264,265,266,267])) (fun k=>7 - k) 0 ⟨by decide,rfl⟩ zS zS ?_;rintro k ⟨hk,hx⟩;rcases (show k=0\/k=1\/k=2\/k=3\/k=4\/k=5\/k=6\/k=7 by omega) with rfl|rfl|rfl|rfl|rfl|rfl|rfl|rfl
 ·simp only [↓wR,zT,simprocAttr];cases a
  ·repeat (first|simp only [↓wR,zT,simprocAttr]|simp (disch:=omega) only [zW])
   exact ⟨1,⟨by decide,hx⟩,by decide,zF⟩
  ·rw [hx];simp only [↓wR,zT,simprocAttr]
   try rfl
 ·simp only [↓wR,zT,simprocAttr];cases b
  ·repeat (first|simp only [↓wR,zT,simprocAttr]|simp (disch:=omega) only [zW])
   exact ⟨2,⟨by decide,hx⟩,by decide,zF⟩
  ·rw [hx];simp only [↓wR,zT,simprocAttr]
   try rfl
 ·simp only [↓wR,zT,simprocAttr];cases c
  ·repeat (first|simp only [↓wR,zT,simprocAttr]|simp (disch:=omega) only [zW])
   exact ⟨3,⟨by decide,hx⟩,by decide,zF⟩
  ·rw [hx];simp only [↓wR,zT,simprocAttr]
   try rfl
 ·simp only [↓wR,zT,simprocAttr];cases q
  ·repeat (first|simp only [↓wR,zT,simprocAttr]|simp (disch:=omega) only [zW])
   exact ⟨4,⟨by decide,hx⟩,by decide,zF⟩
  ·rw [hx];simp only [↓wR,zT,simprocAttr]
   try rfl
 ·simp only [↓wR,zT,simprocAttr];cases d
  ·repeat (first|simp only [↓wR,zT,simprocAttr]|simp (disch:=omega) only [zW])
   exact ⟨5,⟨by decide,hx⟩,by decide,zF⟩
  ·rw [hx];simp only [↓wR,zT,simprocAttr]
   try rfl
 ·simp only [↓wR,zT,simprocAttr];cases e
  ·repeat (first|simp only [↓wR,zT,simprocAttr]|simp (disch:=omega) only [zW])
   exact ⟨6,⟨by decide,hx⟩,by decide,zF⟩
  ·rw [hx];simp only [↓wR,zT,simprocAttr]
   try rfl
 ·simp only [↓wR,zT,simprocAttr];cases f
  ·repeat (first|simp only [↓wR,zT,simprocAttr]|simp (disch:=omega) only [zW])
   exact ⟨7,⟨by decide,hx⟩,by decide,zF⟩
  ·rw [hx];simp only [↓wR,zT,simprocAttr]
   try rfl
 ·rw [hx];simp only [↓wR,zT,simprocAttr]
  try rfl
noncomputable def agz (z:au):List Bool:=[z.aj.any Gv,z.aj.any (F8 z),z.aj.any (wv z) || decide ((v8 z z.aj.length:Int)≠1),!z.aj.any (vk z),z.aj.any (mr z),z.aj.any G4,z.aj.any (Gq z)]
noncomputable def E4 (z:au):Int:=J0 (agz z) [261,262,263,264,265,266,267]
theorem z5 (q:az->Bool) (z:au):anyS q z z.aj.length=z.aj.any q:=by unfold anyS;rw [zz7]
theorem awz (z:au) (hz:bj z):SW PP (Tryz.f88.ntmps:NT) (Tryz.f88.body.getD .skip) (c8 PP Tryz.f88.results.toList (fun r st=>(r1 (ba .i64)).get true st.h r=some (E4 z))) (cg 0 [be.val false z]) (bh []):=by
 refine atd ld zK 3 zK zK (C3 _ _ _ ?_ _ _ (asr z));intro e L st hq;cases e with
 |ret=>exact hq.elim
 |exit j=>exact hq.elim
 |normal=>
 show SW PP (Tryz.f88.ntmps:NT) (gm 4 (Tryz.f88.body.getD .skip)) _ L st;rw [ajx];refine Ow (Ow (I5 ?_ (Wa ld zK zK hq)));intro e L st hq;cases e with
 |ret=>exact hq.elim
 |exit j=>exact hq.elim
 |normal=>
 refine aha (I5 ?_ (aqp hz hq.1 hq.2));intro e L st hq;cases e with
 |ret=>exact hq.elim
 |normal=>exact hq.elim
 |exit j=>
 obtain ⟨rfl,e1,e2⟩:=hq;show SW PP (Tryz.f88.ntmps:NT) ahp _ L st;refine Ka [3,4,5] [.sl 0 0 7 1,zi ((v8 z (z.aj.length))),.sc (.bool (anyS (vk z) z (z.aj.length)))] [some (.row [.sc (.bool (anyS Gv z (z.aj.length))),.sc (.bool (anyS (F8 z) z (z.aj.length))),.sc (.bool (anyS (wv z) z (z.aj.length))),.sc (.bool false),.sc (.bool (anyS (mr z) z (z.aj.length))),.sc (.bool (anyS G4 z (z.aj.length))),.sc (.bool (anyS (Gq z) z (z.aj.length)))] 0 0 4)] (by rw [e1,e2];exact jh.refl _ _ _) ?_;rw [alg];refine Ae ld zK [3,5] _ _ zK (aAp _ _ _ _ _ _ _ _ _ rfl) ?_;have h:=aCa (anyS (vk z) z z.aj.length) (anyS Gv z z.aj.length) (anyS (F8 z) z z.aj.length) (anyS (wv z) z z.aj.length || decide ((v8 z z.aj.length:Int)≠1)) (anyS (mr z) z z.aj.length) (anyS G4 z z.aj.length) (anyS (Gq z) z z.aj.length);refine Wa ld zK zK ?_;unfold E4 agz;rw [<- z5 Gv,<- z5 (F8 z),<- z5 (wv z),<- z5 (vk z),<- z5 (mr z),<- z5 G4,<- z5 (Gq z)];exact h
noncomputable def Jg (x:au × Unit):Option AV:=open Classical in if bj x.1 then some ((r1 (ba .i64)).E true (E4 x.1)) else none
theorem ajo (x:au × Unit) (r:AV) (h:Jg x=some r):bf PP 88 ((aC be a0).E x) r:=by obtain ⟨hc,rfl⟩:=zI h;exact Y7 (body:=Tryz.f88.body.getD .skip) Tryz.func88 zK zK zL (r1 (ba .i64)) true (E4 x.1) (awz x.1 hc)
noncomputable abbrev aC2:zE:=(88,true,ct (aC be a0) Jg)
theorem Lg:∀ (l:List az) {e:Int},e≠0->nb l e=e
 | [],_,_=>rfl
 |s::l,e,h=>by rw [nb,if_neg h];exact Lg l h
theorem ab8:∀ {l:List az},nb l 0=0->∀ s ∈ l,k6 s=0
 | [],_,s,hs=>by cases hs
 |a::l,h,s,hs=>by
  rw [nb,if_pos rfl] at h;by_cases h1:k6 a=0
  ·rw [h1] at h;rcases zya.1 hs with rfl|hs
   ·exact h1
   ·exact ab8 h s hs
  ·rw [Lg l h1] at h;exact absurd h h1
theorem aEy {z:au} (h:nb z.aj 0=0):okZ z=true:=by unfold okZ;rw [zz8];intro s hs;rw [zz8];intro d hd;exact zp (W9 (ab8 h s hs) d hd)
noncomputable def U8 (z:au):Int:=if dk z.origin≠0 then dk z.origin else if 2048<jw z.aj then 3 else if nb z.aj 0≠0 then nb z.aj 0 else if allI (gk z) 0 z.aj=false then 260 else E4 z
theorem acf (z:au) (hz:bj z):wl PP [Pp,au5,ay9,aC2] 0 (Tryz.f28.body.getD .skip) (c8 PP Tryz.f28.results.toList (fun r st=>(r1 (ba .i64)).get true st.h r=some (U8 z))) (cg 0 [be.val false z]) (bh []):=by
 have hlen:=hz.len;have iJ:gh nl z.aj<=16777216:=by have:=hz;unfold bj O6 at this;omega
 have lN:=Lt z.aj;unfold Tryz.f28;simp only [dr];simp only [↓wR,zT,simprocAttr,xk,hz.origin.fit];unfold U8;rw [dg];refine ⟨fun ⟨h1,e1⟩=>?_,fun ⟨h1,e1⟩=>?_⟩
 ·rw [if_pos e1];simp only [↓wR,zT,simprocAttr,h1]
 rw [if_neg zO];simp only [↓wR,zT,simprocAttr,h1];refine dq [1,4,5] (fun (i:Nat)=>[.ptr 0 0,zi ((jw (z.aj.take i))),zi i]) (fun _=>[(zZ z)]) (fun i=>i<=z.aj.length) (fun i=>z.aj.length - i) 0 (zzb _) zS zS ?_;intro i hi;simp only [↓wR,zT,simprocAttr];rw [bg];refine ⟨fun h2=>?_,fun h2=>?_⟩
 ·obtain ⟨c,hc,aF,hlt⟩:=du (zp h2);have hst:=Oq z.aj i c hc;have hcs:=hz.aj.mem c (zm hc);have hcl:=hcs.data.len;have hle:jw (z.aj.take (i+1))<=16777216:=by
   have:=Lt (z.aj.take (i+1));have h3:gh nl (z.aj.take (i+1))<=gh nl z.aj:=T8 _ _ _;omega
  repeat (first|simp only [↓wR,zT,simprocAttr,h2,hc]|simp (disch:=omega) only [zW])
  refine ⟨i+1,hlt,zO,?_⟩;rw [hst];exact zF
 have hin:i=z.aj.length:=zO;subst hin;simp only [↓wR,zT,simprocAttr,h2,zz7];rw [bg];refine ⟨fun h3=>?_,fun h3=>?_⟩
 ·rw [if_pos zO];simp only [↓wR,zT,simprocAttr,h3]
 rw [if_neg zO];simp only [↓wR,zT,simprocAttr,h3];refine dq [1,6] (fun (i:Nat)=>[.ptr 0 0,zi i]) (fun _=>[(zZ z)]) (fun i=>i<=z.aj.length/\nb z.aj 0=nb (z.aj.drop i) 0) (fun i=>z.aj.length - i) 0 ⟨zzb _,rfl⟩ zS zS ?_;rintro i ⟨hi,hx⟩;simp only [↓wR,zT,simprocAttr];rw [bg];refine ⟨fun h4=>?_,fun h4=>?_⟩
 ·obtain ⟨c,hc,aF,hlt⟩:=du (zp h4);have hcs:=hz.aj.mem c (zm hc);rw [ae4 aF,if_pos rfl] at hx;simp only [↓wR,zT,simprocAttr,h4,hc,Bf,hcs];rw [dg];refine ⟨fun ⟨h5,e5⟩=>?_,fun ⟨h5,e5⟩=>?_⟩
  ·rw [Lg _ e5] at hx;rw [hx,if_pos e5];simp only [↓wR,zT,simprocAttr,h5]
  ·have yM:k6 c=0:=zO;rw [yM] at hx
   repeat (first|simp only [↓wR,zT,simprocAttr,h5]|simp (disch:=omega) only [zW])
   exact ⟨i+1,⟨hlt,hx⟩,zO,zF⟩
 ·rw [eg (zq h4)] at hx;have hx':nb z.aj 0=0:=hx;rw [hx',if_neg (by simp)];have aB:=aEy hx';simp only [↓wR,zT,simprocAttr,h4,Es,hz,aB];cases ho:allI (gk z) 0 z.aj with
  |false=>
   rw [if_pos rfl];simp only [↓wR,zT,simprocAttr]
   try rfl
  |true=>
   rw [if_neg (by decide)];simp only [↓wR,zT,simprocAttr,Jg,hz]
   try rfl
def nx (b:Bool) (err e:Int):Int:=if e≠0 then e else if b=true then 0 else err
theorem T2 (b:Bool) (err e:Int):db b err e=nx b err e:=by unfold db nx;cases b<;>by_cases h:e=0<;>simp [h]
theorem zo {err:Int} (he:err≠0) (p:Nat->az->Bool):∀ (l:List az) (i:Nat) (e:Int),fy err p i l e=nx (allI p i l) err e
 | [],i,e=>by rw [fy,allI,nx];by_cases h:e=0<;>simp [h]
 |s::l,i,e=>by
  rw [fy,allI];by_cases h:e=0
  ·subst h;rw [if_neg (by simp),zo he p l (i+1),T2];unfold nx;cases p i s<;>simp [he]
  ·rw [if_pos h];unfold nx;rw [if_pos h]
theorem Be (q:az->Bool):∀ (l:List az) (i:Nat),allI (fun _ s=>q s) i l=l.all q
 | [],_=>rfl
 |s::l,i=>by rw [allI,Be q l,List.all_cons]
theorem Uk {i:Nat} {n:Name}:∀ (l:List az) (k:Nat),i<k->ub i n k l=l.any (fun s=>dm s.owner n)
 | [],_,_=>rfl
 |o::l,k,h=>by rw [ub,Uk l (k+1) zO,zp zO,Bool.true_and,List.any_cons]
theorem any_filter {q:az->Bool} (l:List az):l.any q=decide (0<(l.filter q).length):=by
 induction l with
 |nil=>rfl
 |cons a l ih=>rw [List.any_cons,List.filter_cons];cases q a<;>simp [ih]
theorem ail {n:Name}:∀ (l:List az) (j k:Nat) {s:az},l[j]? = some s->dm s.owner n=true->ub (k+j) n k l=decide (1<(l.filter (fun s=>dm s.owner n)).length)
 | [],j,k,s,h,_=>by simp at h
 |o::l,0,k,s,h,hs=>by rw [List.getElem?_cons_zero] at h;cases h;rw [ub,zq (by simp),Bool.false_and,Bool.false_or,Uk l (k+1) zO,any_filter,List.filter_cons,if_pos hs,List.length_cons,decide_eq_decide];omega
 |o::l,j+1,k,s,h,hs=>by
  rw [List.getElem?_cons_succ] at h;have ih:=ail l j (k+1) h hs;rw [show k+1+j=k+(j+1) by omega] at ih;rw [ub,ih,zp zO,Bool.true_and,List.filter_cons];have hp : 0<(l.filter (fun s=>dm s.owner n)).length:=List.length_pos_of_mem (List.mem_filter.2 ⟨zm h,hs⟩);cases ho:dm o.owner n
  ·simp
  ·rw [if_pos rfl,List.length_cons,Bool.true_or,zp zO]
theorem Uq (n:Name):dm n n=true:=by unfold dm;exact zp rfl
theorem ajj {z:au} {i:Nat} {s:az} (h:z.aj[i]? = some s):jm z i s = !mr z s:=by
 unfold jm mr ew;have ho:=ail z.aj i 0 h (Uq s.owner);rw [Nat.zero_add] at ho;rw [ho];by_cases h1:(s.type.toNat:Int)=5
 ·rw [if_neg (by simpa using h1),zp h1,Bool.true_and];by_cases h2:(s.data.length:Int)=1
  ·simp only [h2,ne_eq,not_true_eq_false,decide_false,Bool.false_or,if_false];cases dm s.owner z.origin
   ·rw [if_neg (by simp),Bool.false_or]
    congr 1
    rw [decide_eq_decide];omega
   ·rw [if_pos rfl,Bool.true_or];rfl
  ·rw [if_pos h2,zp h2,Bool.true_or];rfl
 ·rw [if_pos h1,zq h1,Bool.false_and];rfl
theorem ad4 {p:Nat->az->Bool} {q:az->Bool}:∀ (l:List az) (k:Nat),(∀ j s,l[j]? = some s->p (k+j) s = !q s)->allI p k l = !l.any q
 | [],_,_=>rfl
 |s::l,k,h=>by rw [allI,List.any_cons,ad4 l (k+1) (fun j s' hj=>by rw [show k+1+j=k+(j+1) by omega];exact h (j+1) s' (by rw [List.getElem?_cons_succ];exact hj))];have:=h 0 s rfl;rw [Nat.add_zero] at this;rw [this,Bool.not_or]
def P5 (s:az):Bool:=decide ((s.type.toNat:Int)=6)
def Xe (z:au) (s:az):Bool:=decide ((s.type.toNat:Int)=6) && (dm s.owner z.origin && decide ((s.data.length:Int)=1))
theorem aaq (z:au):∀ (l:List az) (p:Nat × Nat),l.foldl (ki z) p=(p.1+l.countP P5,p.2+l.countP (Xe z))
 | [],p=>rfl
 |s::l,p=>by
  rw [List.foldl_cons,aaq z l,List.countP_cons,List.countP_cons];unfold ki P5 Xe;by_cases h:(s.type.toNat:Int)=6
  ·rw [if_pos h,zp h,Bool.true_and,if_pos rfl];dsimp only
   congr 1
   ·omega
   ·split<;>omega
  ·rw [if_neg h,zq h,Bool.false_and,if_neg (by simp)];rfl
theorem ass (z:au) (l:List az):l.countP P5=l.countP (Xe z)+l.countP (wv z):=by
 induction l with
 |nil=>rfl
 |cons s l ih=>
  rw [List.countP_cons,List.countP_cons,List.countP_cons,ih];unfold P5 Xe wv;cases decide ((s.type.toNat:Int)=6)<;>cases dm s.owner z.origin<;>by_cases h:(s.data.length:Int)=1<;>simp [h]<;>omega
theorem ay4 (z:au):(decide ((gb z).1=1) && decide ((gb z).2=1)) = !(z.aj.any (wv z) || decide ((v8 z z.aj.length:Int)≠1)):=by
 have h1:gb z=(z.aj.countP P5,z.aj.countP (Xe z)):=by unfold gb;rw [aaq];simp
 have h2:v8 z z.aj.length=z.aj.countP P5:=by unfold v8;rw [zz7,List.countP_eq_length_filter];rfl
 have h3:=ass z z.aj;have h4:z.aj.any (wv z)=decide (0<z.aj.countP (wv z)):=by rw [any_filter,List.countP_eq_length_filter]
 rw [h1,h2,h4,<- Bool.decide_and,<- Bool.decide_or,<- decide_not,decide_eq_decide];dsimp only;omega
theorem axw (b2 b3 b4 b5 b6 b7 b8:Bool):J0 [!b2,!b3,!b4,!b5,!b6,!b7,!b8] [261,262,263,264,265,266,267]=nx b8 267 (nx b7 266 (nx b6 265 (nx b5 264 (nx b4 263 (nx b3 262 (nx b2 261 0)))))):=by cases b2<;>cases b3<;>cases b4<;>cases b5<;>cases b6<;>cases b7<;>cases b8<;>rfl
theorem P0 {q:az->Bool} (l:List az):l.any (fun s=>!q s) = !l.all q:=by rw [List.all_eq_not_any_not,Bool.not_not]
theorem axy (z:au):Wj z=if yg z≠0 then yg z else E4 z:=by
 have h2:Gp z=nx (z.aj.all ju) 261 (yg z):=by unfold Gp;rw [zo (by decide),Be]
 have h3:o0 z=nx (z.aj.all fun s=>dp s.owner z.origin) 262 (Gp z):=by unfold o0;rw [zo (by decide),Be]
 have h4:lr z=nx (!(z.aj.any (wv z) || decide ((v8 z z.aj.length:Int)≠1))) 263 (o0 z):=by unfold lr;rw [T2,ay4]
 have h5:yq z=nx (z.aj.any (vk z)) 264 (lr z):=by unfold yq;rw [T2];rfl
 have h6:yt z=nx (!z.aj.any (mr z)) 265 (yq z):=by unfold yt;rw [zo (by decide),ad4 (q:=mr z) z.aj 0 (fun j s hj=>by rw [Nat.zero_add];exact ajj hj)]
 have h7:E0 z=nx (z.aj.all jv) 266 (yt z):=by unfold E0;rw [zo (by decide),Be]
 have h8:Wj z=nx (z.aj.all (lu z)) 267 (E0 z):=by unfold Wj;rw [zo (by decide),Be]
 have hr:E4 z=nx (z.aj.all (lu z)) 267 (nx (z.aj.all jv) 266 (nx (!z.aj.any (mr z)) 265 (nx (z.aj.any (vk z)) 264 (nx (!(z.aj.any (wv z) || decide ((v8 z z.aj.length:Int)≠1))) 263 (nx (z.aj.all fun s=>dp s.owner z.origin) 262 (nx (z.aj.all ju) 261 0)))))):=by rw [<- axw,Bool.not_not,Bool.not_not];unfold E4 agz;rw [show z.aj.any Gv = !z.aj.all ju from P0 _,show z.aj.any (F8 z) = !z.aj.all (fun s=>dp s.owner z.origin) from P0 _,show z.aj.any G4 = !z.aj.all jv from P0 _,show z.aj.any (Gq z) = !z.aj.all (lu z) from P0 _]
 rw [h8,h7,h6,h5,h4,h3,h2,hr];by_cases h:yg z=0
 ·rw [h,if_neg (by simp)]
 ·rw [if_pos h];unfold nx;simp only [ne_eq,h,not_false_eq_true,if_true]
theorem arz (z:au):U8 z=dy z:=by
 unfold U8 dy;by_cases h1:dk z.origin=0
 case neg=>
  have:oh z=dk z.origin:=by unfold oh;rw [if_pos h1]
  rw [if_pos h1,this,if_pos h1]
 rw [if_neg (by simpa using h1)];have hf:oh z=nb z.aj (db (decide (jw z.aj<=2048)) 3 0):=by unfold oh;rw [if_neg (by simpa using h1)]
 by_cases h2 : 2048<jw z.aj
 ·rw [zq zO] at hf;have:oh z=3:=by rw [hf];exact Lg _ (by decide)
  rw [if_pos h2,this,if_pos (by decide)]
 rw [if_neg h2];rw [zp zO] at hf;have hf:oh z=nb z.aj 0:=hf;rw [hf];by_cases h3:nb z.aj 0=0
 case neg=>rw [if_pos h3,if_pos h3]
 have dA:¬ nb z.aj 0≠0:=fun h=>h h3
 rw [if_neg dA,if_neg dA,axy];have he:yg z=nx (allI (gk z) 0 z.aj) 260 0:=by unfold yg;rw [zo (by decide),hf,h3]
 rw [he];cases allI (gk z) 0 z.aj
 ·rfl
 ·rfl
noncomputable def tt (x:au × Unit):Option AV:=if bj x.1 then some ((r1 (ba .i64)).E true (dy x.1)) else none
theorem Bi (x:au × Unit) (r:AV) (h:tt x=some r):bf PP 28 ((aC be a0).E x) r:=by obtain ⟨hc,rfl⟩:=zI h;exact aw (ar.cons (aq yn) (ar.cons (aq Y3) (ar.cons (aq ach) (ar.cons (aq ajo) (ar.nil PP))))) Tryz.func28 zK zK zK zL (r1 (ba .i64)) true (dy x.1) ((by rw [<- arz];exact acf x.1 hc))
noncomputable abbrev Ko:zE:=(28,true,ct (aC be a0) tt)
theorem au1 (z:au) (n:Name) (hz:bj z) (hn:ay n):wl PP [Ko,Pp,mz] 0 (Tryz.f134.body.getD .skip) (c8 PP Tryz.f134.results.toList (fun r st=>(r1 (ba .i64)).get true st.h r=some (ff z n))) (cg 0 [be.val false z,ak.val false n]) (bh []):=by
 unfold Tryz.f134;simp only [dr,bw];simp only [↓wR,zT,simprocAttr,tt,hz];unfold ff;rw [bz];refine ⟨fun ⟨h,e⟩=>?_,fun ⟨h,e⟩=>?_⟩
 case' refine_2=>
  rw [if_pos e];simp only [↓wR,zT,simprocAttr,h];rw [dg];refine ⟨fun ⟨h4,e4⟩=>?_,fun ⟨h4,e4⟩=>?_⟩
  ·simp only [↓wR,zT,simprocAttr,h4]
  ·exact absurd zO e
 rw [if_neg zO];simp only [↓wR,zT,simprocAttr,h,xk,hn.fit];rw [dg];refine ⟨fun ⟨h2,e2⟩=>?_,fun ⟨h2,e2⟩=>?_⟩
 ·rw [if_pos e2];simp only [↓wR,zT,simprocAttr,h2]
 rw [if_neg zO];simp only [↓wR,zT,simprocAttr,h2,vz,hn,hz.origin];rw [cq];refine ⟨fun h3=>?_,fun h3=>?_⟩
 ·have dA:dp n z.origin=false:=by simpa only [zyd] using h3
  rw [if_pos dA];simp only [↓wR,zT,simprocAttr,h3]
 ·have dA:dp n z.origin=true:=by simpa only [zyh] using h3
  rw [if_neg (by rw [dA];decide)];simp only [↓wR,zT,simprocAttr,h3]
noncomputable def Jm (x:au × Name × Unit):Option AV:=if bj x.1/\ay x.2.1 then some ((r1 (ba .i64)).E true (ff x.1 x.2.1)) else none
theorem akt (x:au × Name × Unit) (r:AV) (h:Jm x=some r):bf PP 134 ((aC be (aC ak a0)).E x) r:=by obtain ⟨hc,rfl⟩:=zI h;exact aw (ar.cons (aq Bi) (ar.cons (aq yn) (ar.cons (aq yr) (ar.nil PP)))) Tryz.func134 zK zK zK zL (r1 (ba .i64)) true (ff x.1 x.2.1) (au1 x.1 x.2.1 hc.1 hc.2)
noncomputable abbrev aDg:zE:=(134,true,ct (aC be (aC ak a0)) Jm)
theorem aqf {z:au} {n:Name} {k:Nat} {c:ByteArray} (h:n.drop k=c::n.drop (k+1)):dv z (n.drop k)=if nc z (n.drop k)=true then n.drop k else dv z (n.drop (k+1)):=by rw [h,dv]
theorem ajk (z:au) (n:Name) (hz:bj z) (hn:ay n):wl PP [aDk,wx] 0 (Tryz.f172.body.getD .skip) (c8 PP Tryz.f172.results.toList (fun r st=>(r1 ak).get true st.h r=some (dv z n))) (cg 0 [be.val false z,ak.val false n]) (bh []):=by
 have hq:∀ a b c d,ga a b c=d->ga a b c=d:=fun _ _ _ _ h=>h
 have hlen:=qc hn;unfold Tryz.f172;simp only [dr,bw];simp only [↓wR,zT,simprocAttr];refine dq [1,2,5] (fun (k:Nat)=>[zn n,.ptr 0 0,zi k]) (fun _=>[(zZ z)]) (fun k=>k<=n.length/\dv z n=dv z (n.drop k)) (fun k=>n.length - k) 0 ⟨zzb _,rfl⟩ zS zS ?_;rintro k ⟨hk,hx⟩;simp only [↓wR,zT,simprocAttr];rw [bg];refine ⟨fun h=>?_,fun h=>?_⟩
 ·obtain ⟨c,hc,aF,hlt⟩:=du (zp h);have fM:=hn.drop k;have rJ:=qc fM;rw [aqf aF] at hx;simp only [↓wR,zT,simprocAttr,h];refine ⟨zK,.inl ?_⟩;simp only [↓wR,zT,simprocAttr,hk,Ku,hz,fM];refine ⟨by apply hq;kernel_rfl,?_⟩;rw [cq];refine ⟨fun h2=>?_,fun h2=>?_⟩
  ·rw [if_pos h2] at hx;simp only [↓wR,zT,simprocAttr,h2,hk,kp,rJ];rw [hx]
   try rfl
  ·rw [if_neg (by rw [h2];decide)] at hx
   repeat (first|simp only [↓wR,zT,simprocAttr,h2]|simp (disch:=omega) only [zW])
   exact ⟨k+1,⟨hlt,hx⟩,zO,zF⟩
 ·rw [eg (zq h)] at hx;simp only [↓wR,zT,simprocAttr,h];rw [hx]
  try rfl
noncomputable def Ev (x:au × Name × Unit):Option AV:=if bj x.1/\ay x.2.1 then some ((r1 ak).E true (dv x.1 x.2.1)) else none
theorem acm (x:au × Name × Unit) (r:AV) (h:Ev x=some r):bf PP 172 ((aC be (aC ak a0)).E x) r:=by obtain ⟨hc,rfl⟩:=zI h;exact aw (ar.cons (aq ab3) (ar.cons (aq ny) (ar.nil PP))) Tryz.func172 zK zK zK zL (r1 ak) true (dv x.1 x.2.1) (ajk x.1 x.2.1 hc.1 hc.2)
noncomputable abbrev ay0:zE:=(172,true,ct (aC be (aC ak a0)) Ev)
theorem awm (n:Name) (hn:ay n):wl PP [] 0 (Tryz.f173.body.getD .skip) (c8 PP Tryz.f173.results.toList (fun r st=>(r1 ak).get true st.h r=some (oc::n))) (cg 0 [ak.val false n]) (bh []):=by have hl:=hn.lt;have aD:(n.length+1) * 16<=140737488355328:=zO;unfold Tryz.f173;simp only [bw];simp only [↓wR,zT,simprocAttr,aD,Nat.add_comm 1 n.length];rfl
noncomputable def Jw (x:Name × Unit):Option AV:=if ay x.1 then some ((r1 ak).E true (oc::x.1)) else none
theorem aqx (x:Name × Unit) (r:AV) (h:Jw x=some r):bf PP 173 ((aC ak a0).E x) r:=by obtain ⟨hc,rfl⟩:=zI h;exact aw (ar.nil PP) Tryz.func173 zK zK zK zL (r1 ak) true (oc::x.1) (awm x.1 hc)
noncomputable abbrev aFq:zE:=(173,true,ct (aC ak a0) Jw)
theorem aB3 {z:au} {n:Name} (hu:dp n z.origin=true):nc z n=true↔(dv z n).length=n.length:=by
 refine ⟨fun h=>by rw [yk h],fun h=>?_⟩;cases hh:nc z n with
 |true=>rfl
 |false=>
  obtain ⟨a,r,rfl,_,hc⟩:=Ft hu hh;rw [hc] at h;obtain ⟨k,hk⟩:=xp z r;rw [hk,zzt,List.length_cons] at h;omega
theorem ay5 (z:au) (n:Name) (hz:bj z) (hn:ay n) (he:ff z n=0):wl PP [aDj,ay0,Vq,wx,aDk,aFq] 0 (Tryz.f135.body.getD .skip) (c8 PP Tryz.f135.results.toList (fun r st=>(r1 m8).get true st.h r=some (ic z n).1)) (cg 0 [be.val false z,ak.val false n]) (bh []):=by
 obtain ⟨a1,a2,a3⟩:=u1 he;have hlen:=qc hn;unfold Tryz.f135;simp only [dr,bw];unfold ic;rw [if_neg zO];have hcs:=Mt (z:=z) hn;have hst:=Ld (z:=z) a2;have tO:=aB3 a3;cases hc:ka z n with
 |some c=>
  simp only [↓wR,zT,simprocAttr,Kx,hz,hn,hc,Option.isSome_some,Option.getD_some]
 |none=>
  simp only [↓wR,zT,simprocAttr,Kx,hz,hn,hc,Option.isSome_none,Ev,yv];rw [bg];refine ⟨fun h1=>?_,fun h1=>?_⟩
  ·rw [if_pos zO];simp only [↓wR,zT,simprocAttr,h1,kp,hlen]
  rw [if_neg zO];simp only [↓wR,zT,simprocAttr,h1,Ku,hz,hn];rw [cq];refine ⟨fun h2=>?_,fun h2=>?_⟩
  ·rw [if_pos (tO.1 h2)];simp only [↓wR,zT,simprocAttr,h2]
  rw [if_neg (fun q=>by rw [tO.2 q] at h2;cases h2)];simp only [↓wR,zT,simprocAttr,h2];refine ⟨zK,.inl ?_⟩;simp only [↓wR,zT,simprocAttr,Jw,hcs,Ku,hz,hst];refine ⟨zK,?_⟩;rw [cq];refine ⟨fun h3=>?_,fun h3=>?_⟩
  ·rw [if_pos h3];simp only [↓wR,zT,simprocAttr,h3,Jw,hcs]
  ·rw [if_neg (by rw [h3];decide)];simp only [↓wR,zT,simprocAttr,h3]
noncomputable def Ob (x:au × Name × Unit):Option AV:=if (bj x.1/\ay x.2.1)/\ff x.1 x.2.1=0 then some ((r1 m8).E true ((ic x.1 x.2.1).1)) else none
theorem ari (x:au × Name × Unit) (r:AV) (h:Ob x=some r):bf PP 135 ((aC be (aC ak a0)).E x) r:=by obtain ⟨hc,rfl⟩:=zI h;exact aw (ar.cons (aq ab1) (ar.cons (aq acm) (ar.cons (aq Cb) (ar.cons (aq ny) (ar.cons (aq ab3) (ar.cons (aq aqx) (ar.nil PP))))))) Tryz.func135 zK zK zK zL (r1 m8) true ((ic x.1 x.2.1).1) (ay5 x.1 x.2.1 hc.1.1 hc.1.2 hc.2)
noncomputable abbrev aFh:zE:=(135,true,ct (aC be (aC ak a0)) Ob)
theorem au0 {z:au} {n:Name} (h:ff z n=0):(ic z n).2=0:=by
 unfold ic;rw [if_neg zO]
 repeat' split
 all_goals rfl
theorem an7 {l:List az} {p:az->Bool} {i:Nat} {c:az} (h:l[i]? = some c):(l.take (i+1)).filter p=if p c=true then (l.take i).filter p++[c] else (l.take i).filter p:=by rw [abj h,List.filter_append];cases hp:p c<;>simp [hp]
noncomputable def A5 (z:au) (n:Name) (t:UInt16):Int:=if ff z n≠0 then ff z n else if (t.toNat:Int)=0\/(t.toNat:Int)=41 then 6 else 0
theorem ao6 (z:au) (n:Name) (t:UInt16) (hz:bj z) (hn:ay n):wl PP [aDg] 0 (Tryz.f95.body.getD .skip) (c8 PP Tryz.f95.results.toList (fun r st=>(r1 (ba .i64)).get true st.h r=some (A5 z n t))) (cg 0 [be.val false z,ak.val false n,cf.val false t]) (bh []):=by
 unfold Tryz.f95;simp only [dr,bw];unfold A5;simp only [↓wR,zT,simprocAttr,Jm,hz,hn];rw [dg];refine ⟨fun ⟨h1,e1⟩=>?_,fun ⟨h1,e1⟩=>?_⟩
 ·rw [if_pos e1];simp only [↓wR,zT,simprocAttr,h1]
 rw [if_neg zO];simp only [↓wR,zT,simprocAttr,h1];rw [bz];refine ⟨fun ⟨h2,e2⟩=>?_,fun ⟨h2,e2⟩=>?_⟩
 ·rw [if_pos (.inl e2)];simp only [↓wR,zT,simprocAttr,h2]
 simp only [↓wR,zT,simprocAttr,h2];rw [bz];refine ⟨fun ⟨h3,e3⟩=>?_,fun ⟨h3,e3⟩=>?_⟩
 ·rw [if_pos (.inr e3)];simp only [↓wR,zT,simprocAttr,h3]
 ·rw [if_neg (fun q=>q.elim e2 e3)];simp only [↓wR,zT,simprocAttr,h3]
noncomputable def Gj (x:au × Name × UInt16 × Unit):Option AV:=if bj x.1/\ay x.2.1 then some ((r1 (ba .i64)).E true (A5 x.1 x.2.1 x.2.2.1)) else none
theorem afq (x:au × Name × UInt16 × Unit) (r:AV) (h:Gj x=some r):bf PP 95 ((aC be (aC ak (aC cf a0))).E x) r:=by obtain ⟨hc,rfl⟩:=zI h;exact aw (ar.cons (aq akt) (ar.nil PP)) Tryz.func95 zK zK zK zL (r1 (ba .i64)) true (A5 x.1 x.2.1 x.2.2.1) (ao6 x.1 x.2.1 x.2.2.1 hc.1 hc.2)
noncomputable abbrev aAo:zE:=(95,true,ct (aC be (aC ak (aC cf a0))) Gj)
def su (t:Int) (s:az):Bool:=decide (t=255) || decide ((s.type.toNat:Int)=t)
def gj (t:Int) (l:List az):List az:=l.filter (su t)
theorem s9 (l:List az) (t:UInt16) (hl:l.length<=16777216):k8 PP 136 [.vl true 5 (l.map (ai.val true)),cf.val false t] (bh [])
 (fun r aA=>r = .sl 0 0 (gj t.toNat l).length 5/\aA=bh [some (.row (cellsOf ai true ((gj t.toNat l))) 0 0 31)]):=by
 have hq:∀ a b c d,ga a b c=d->ga a b c=d:=fun _ _ _ _ h=>h
 obtain ⟨p,hp⟩:∃ p,p=su t.toNat:=⟨_,rfl⟩;have hv:gj t.toNat l=l.filter p:=by rw [hp];rfl
 rw [hv];refine ed _ rfl ?_ (fun r aA h=>h);refine cx (T:=[]) (ar.nil PP) mixed Tryz.func136 rfl zK zK zK zK ?_;unfold Tryz.f136;simp only [↓wR,zT,simprocAttr];refine fm [0,1,6,5] (fun (i:Nat)=>[.vl true 5 (l.map (ai.val true)),.sc (.int .u16 t.toNat),zi i,.sl 0 0 ((l.take i).filter p).length 5]) (fun i=>[some (.row (cellsOf ai true (((l.take i).filter p))) 0 0 31)]) (fun i=>i<=l.length) (fun i=>l.length - i) 0 (zzb _) zX ?_;intro i hi;simp only [↓wR,zT,simprocAttr];rw [bg];refine ⟨fun h=>?_,fun h=>?_⟩
 ·obtain ⟨c,hc,aF,hlt⟩:=du (zp h);have bM:=an7 (p:=p) hc;have gQ:=List.length_filter_le p (l.take i);rw [zzl] at gQ;have aD:(((l.take i).filter p).length * 5+5) * 64<=140737488355328:=zO;have eB:p c=true->(l.take (i+1)).filter p=(l.take i).filter p++[c]:=fun q=>by rw [bM,if_pos q]
  have jD:p c=false->(l.take (i+1)).filter p=(l.take i).filter p:=fun q=>by rw [bM,if_neg (by rw [q];decide)]
  by_cases e1:(t.toNat:Int)=255
  ·have b1:((t.toNat:Int) == 255)=true:=by simp [e1]
   have pc:p c=true:=by rw [hp];unfold su;rw [zp e1];rfl
   repeat (first|simp only [↓wR,zT,simprocAttr,h,b1,hc,aD]|simp (disch:=omega) only [zW])
   exact ⟨i+1,hlt,zO,by rw [eB pc,za];exact zF,by rw [eB pc,ov]⟩
  ·have b1:((t.toNat:Int) == 255)=false:=by simp [e1]
   by_cases e2:(c.type.toNat:Int)=t.toNat
   ·have b2:((c.type.toNat:Int) == t.toNat)=true:=by simp [e2]
    have pc:p c=true:=by rw [hp];unfold su;rw [zp e2,Bool.or_true]
    repeat (first|simp only [↓wR,zT,simprocAttr,h,b1,hc,b2,aD]|simp (disch:=omega) only [zW])
    exact ⟨i+1,hlt,zO,by rw [eB pc,za];exact zF,by rw [eB pc,ov]⟩
   ·have b2:((c.type.toNat:Int) == t.toNat)=false:=by simp [e2]
    have pc:p c=false:=by rw [hp];unfold su;rw [zq e1,zq e2];rfl
    repeat (first|simp only [↓wR,zT,simprocAttr,h,b1,hc,b2]|simp (disch:=omega) only [zW])
    exact ⟨i+1,hlt,zO,by rw [jD pc];exact zF,by rw [jD pc]⟩
 ·have hin:i=l.length:=zO;subst hin;rw [zz7];simp only [↓wR,zT,simprocAttr,h,jl,jd,iy]
theorem ac8 (l:List az) (hl:se l) (hl2:l.length<=16777216):k8 PP 8 [(br ai).val false l] (bh [])
 (fun r aA=>r = .sl 0 0 l.length 5/\aA=bh [some (.row (cellsOf ai true ((l))) 0 0 31)]):=by
 refine ed _ rfl ?_ (fun r aA h=>h);simp only [j5];refine cx (T:=[Y0]) (ar.cons (aq Gt) (ar.nil PP)) mixed Tryz.func8 rfl zK zK zK zK ?_;unfold Tryz.f8;simp only [↓wR,zT,simprocAttr];refine fm [0,4,3] (fun (x:List az)=>[zs l,zi x.length,.sl 0 0 x.length 5]) (fun x=>[some (.row (cellsOf ai true (x)) 0 0 31)]) (fun x=>x.length<=l.length/\x++l.drop x.length=l) (fun x=>l.length - x.length) [] ⟨zzb _,rfl⟩ zX ?_;rintro x ⟨hi,hx⟩;simp only [↓wR,zT,simprocAttr];rw [bg];refine ⟨fun h=>?_,fun h=>?_⟩
 ·obtain ⟨c,hc,aF,hlt⟩:=du (zp h);rw [aF] at hx;have hcs:=hl.2 c (zm hc);have aD:(x.length * 5+5) * 64<=140737488355328:=zO
  repeat (first|simp only [↓wR,zT,simprocAttr,h,hc,tn,hcs,aD]|simp (disch:=omega) only [zW])
  refine ⟨x++[c],⟨by simp;omega,by simpa using hx⟩,by simp;omega,zF,?_⟩;rw [ov]
 ·rw [eg (zq h),zzn] at hx;subst hx;simp only [↓wR,zT,simprocAttr,h,jl,jd,iy]
theorem at8 (l:List az) (n:Name) (hl:se l) (hl2:l.length<=16777216) (hn:ay n):wl PP [wx] 0 (Tryz.f137.body.getD .skip) (c8 PP Tryz.f137.results.toList (fun r st=>(r1 (br ai)).get true st.h r=some (l.map (ly n)))) (cg 0 [(br ai).val false l,ak.val false n]) (bh []):=by
 have bY:=qc hn;unfold Tryz.f137;simp only [j5,bw];simp only [↓wR,zT,simprocAttr];refine qj [] (ac8 l hl hl2) (by decide) (by simp only [↓wR,zT,simprocAttr]) (by simp only [↓wR,zT,simprocAttr]) (zB rfl) (by simp only [↓wR,zT,simprocAttr,j5]) (by simp only [↓wR,zT,simprocAttr]) ⟨zB rfl,zB rfl⟩ ?_;simp only [↓wR,zT,simprocAttr,fu,m7,qf,pk,Ce];refine dq [1,5,6] (fun (i:Nat)=>[zn n,.sl 0 0 l.length 5,zi i]) (fun i=>[some (.row (cellsOf ai true ((l.take i).map (ly n)++l.drop i)) 0 0 31)]) (fun i=>i<=l.length) (fun i=>l.length - i) 0 (zzb _) zS zS ?_;intro i hi;simp only [↓wR,zT,simprocAttr];rw [bg];refine ⟨fun h=>?_,fun h=>?_⟩
 ·obtain ⟨c,hc,aF,hlt⟩:=du (zp h);have lI:((l.take i).map (ly n)++l.drop i)[i]? = some c:=by
   rw [zzd (by simp;omega),aF];simp [Nat.min_eq_left (show i<=l.length by omega)]
  have hst:=Z9 (xs:=(l.take i).map (ly n)++l.drop i) n 0 31 0 lI;have iD:((l.take i).map (ly n)++l.drop i).take i++ly n c::((l.take i).map (ly n)++l.drop i).drop (i+1)=(l.take (i+1)).map (ly n)++l.drop (i+1):=by
   obtain ⟨_,rfl⟩:=zg.1 hc;have iQ:((l.take i).map (ly n)).length=i:=by simp;omega
   rw [List.take_left' iQ,List.drop_append,iQ,zz5 hlt,zzw];rw [zzx zO,List.drop_drop,Nat.add_sub_cancel_left];simp
  rw [iD] at hst
  repeat (first|simp only [↓wR,zT,simprocAttr,h,kp,bY,↓hst]|simp (disch:=omega) only [zW])
  exact ⟨i+1,hlt,zO,zF⟩
 ·have hin:i=l.length:=zO;subst hin;have hd:∀ fr h k st et,Af fr st 5 ai.kd et=true->kf ai fr h 0 l.length (.row (cellsOf ai true (l.map (ly n))) k st et)=some (l.map (ly n)):=fun fr h k st et hro=>oz ai fr h true _ k st et _ (by rw [zzo]) (by cases fr<;>rfl) hro
  simp only [↓wR,zT,simprocAttr,h,zz7,List.drop_length,zzn,hd]
noncomputable def J5 (x:List az × Name × Unit):Option AV:=if (se x.1/\x.1.length<=16777216)/\ay x.2.1 then some ((r1 (br ai)).E true (x.1.map (ly x.2.1))) else none
theorem aj2 (x:List az × Name × Unit) (r:AV) (h:J5 x=some r):bf PP 137 ((aC (br ai) (aC ak a0)).E x) r:=by obtain ⟨hc,rfl⟩:=zI h;exact aw (ar.cons (aq ny) (ar.nil PP)) Tryz.func137 zK zK zK zL (r1 (br ai)) true (x.1.map (ly x.2.1)) (at8 x.1 x.2.1 hc.1.1 hc.1.2 hc.2)
noncomputable abbrev aEu:zE:=(137,true,ct (aC (br ai) (aC ak a0)) J5)
noncomputable def Xi (t:Int) (l:List az):th:=
 if 0<(gj t l).length then sd 0 (gj t l) []
 else if 0<(gj 5 l).length then sd 1 (gj 5 l) ((((gj 5 l)[0]?).bind fun x=>(x.data[0]?).bind fun d=>d.names[0]?).getD [])
 else sd 2 [] []
noncomputable def Qh (z:au) (n:Name) (t:UInt16) (s:D5):th:=
 if s.kind=4 then sd 4 (gj 2 (ew z s.node)) []
 else if s.kind=0 then sd 3 [] []
 else if s.kind=2 then sd 2 [] []
 else Xi t.toNat (if s.kind=3 then (ew z s.node).map (ly n) else ew z s.node)
set_option maxHeartbeats 4000000 in
theorem axo (z:au) (n:Name) (t:UInt16) (hz:bj z) (hn:ay n) (he:ff z n=0):wl PP [aFh,Vq,aEu,wx] 0 (Tryz.f96.body.getD .skip) (c8 PP Tryz.f96.results.toList (fun r st=>(r1 pr).get true st.h r=some (Qh z n t (ic z n).1))) (cg 0 [be.val false z,ak.val false n,cf.val false t]) (bh []):=by
 have bR:=abm hz hn;have hzl:=hz.len;obtain ⟨⟨k,nd,cl⟩,hP⟩:∃ P,P=(ic z n).1:=⟨_,rfl⟩;rw [<- hP] at bR ⊢;have hat:(ew z nd).length<=z.aj.length:=mj _;have xX:se (ew z nd):=⟨zO,fun s hs=>hz.set s (List.mem_filter.1 hs).1⟩;have hdec:∀ (l:List az) fr h k st et,Af fr st 5 ai.kd et=true->kf ai fr h 0 l.length (.row (cellsOf ai true l) k st et)=some l:=fun l fr h k st et hro=>oz ai fr h true _ k st et _ rfl (by cases fr<;>rfl) hro
 have t2:k8 PP 136 [.vl true 5 ((ew z nd).map (ai.val true)),.sc (.int .u16 2)] (bh []) (fun r aA=>r = .sl 0 0 (gj 2 (ew z nd)).length 5/\aA=bh [some (.row (cellsOf ai true ((gj 2 (ew z nd)))) 0 0 31)]):=s9 (ew z nd) 2 zO;unfold Tryz.f96;simp only [dr,bw];unfold Qh;simp only [↓wR,zT,simprocAttr,Ob,hz,hn,he,<- hP];rw [bz];refine ⟨fun ⟨h4,e4⟩=>?_,fun ⟨h4,e4⟩=>?_⟩
 ·rw [if_pos e4];simp only [↓wR,zT,simprocAttr,h4,yv,hz,bR];refine qj [] t2 (by decide) (by simp only [↓wR,zT,simprocAttr]) (by simp only [↓wR,zT,simprocAttr]) (zB rfl) (by simp only [↓wR,zT,simprocAttr]) (by simp only [↓wR,zT,simprocAttr]) ⟨zB rfl,zB rfl⟩ ?_;simp only [↓wR,zT,simprocAttr,fu,m7,qf,pk,Ce,hdec]
 rw [if_neg e4];simp only [↓wR,zT,simprocAttr,h4];rw [bz];refine ⟨fun ⟨h0,e0⟩=>?_,fun ⟨h0,e0⟩=>?_⟩
 ·rw [if_pos e0];simp only [↓wR,zT,simprocAttr,h0]
 rw [if_neg e0];simp only [↓wR,zT,simprocAttr,h0];rw [bz];refine ⟨fun ⟨h2,e2⟩=>?_,fun ⟨h2,e2⟩=>?_⟩
 ·rw [if_pos e2];simp only [↓wR,zT,simprocAttr,h2]
 rw [if_neg e2];simp only [↓wR,zT,simprocAttr,h2,yv,hz,bR];have hown:∀ x ∈ (ew z nd).map (ly n),∃ y ∈ z.aj,x.data=y.data/\x.type=y.type:=fun x hx=>by obtain ⟨y,hy,rfl⟩:=zyj.1 hx;exact ⟨y,(List.mem_filter.1 hy).1,rfl,rfl⟩
 have nH:∀ x ∈ ew z nd,∃ y ∈ z.aj,x.data=y.data/\x.type=y.type:=fun x hx=>⟨x,(List.mem_filter.1 hx).1,rfl,rfl⟩
 have kI:((ew z nd).map (ly n)).length<=16777216:=by rw [zzo];omega
 have gT:(ew z nd).length<=16777216:=zO;have iR:=Ad (u1 he).1;rw [bz];refine ⟨fun ⟨h3,e3⟩=>?_,fun ⟨h3,e3⟩=>?_⟩
 ·rw [if_pos e3];obtain ⟨L,hL⟩:∃ L,L=(ew z nd).map (ly n):=⟨_,rfl⟩;rw [<- hL] at hown kI ⊢;simp only [↓wR,zT,simprocAttr,h3,J5,xX,gT,hn,<- hL];have c1:=s9 L t kI;have c2:k8 PP 136 [.vl true 5 (L.map (ai.val true)),.sc (.int .u16 5)] (bh []) (fun r aA=>r = .sl 0 0 (gj 5 L).length 5/\aA=bh [some (.row (cellsOf ai true ((gj 5 L))) 0 0 31)]):=s9 L 5 kI;refine qj [] c1 (by decide) (by simp only [↓wR,zT,simprocAttr]) (by simp only [↓wR,zT,simprocAttr]) (zB rfl) (by simp only [↓wR,zT,simprocAttr]) (by simp only [↓wR,zT,simprocAttr]) ⟨zB rfl,zB rfl⟩ ?_;simp only [↓wR,zT,simprocAttr,fu,m7,qf,pk,Ce];unfold Xi;rw [bg];refine ⟨fun h5=>?_,fun h5=>?_⟩
  ·rw [if_pos zO];simp only [↓wR,zT,simprocAttr,h5,hdec]
  rw [if_neg zO];simp only [↓wR,zT,simprocAttr,h5];refine qj [] c2 (by decide) (by simp only [↓wR,zT,simprocAttr]) (by simp only [↓wR,zT,simprocAttr]) (zB rfl) (by simp only [↓wR,zT,simprocAttr]) (by simp only [↓wR,zT,simprocAttr]) ⟨zB rfl,zB rfl⟩ ?_;simp only [↓wR,zT,simprocAttr,fu,m7,qf,pk,Ce];rw [bg];refine ⟨fun h6=>?_,fun h6=>?_⟩
  ·rw [if_pos zO];obtain ⟨A,hA⟩:∃ A,A=gj 5 L:=⟨_,rfl⟩;have rX:∀ x ∈ A,x ∈ L/\(x.type.toNat:Int)=5:=fun x hx=>by
    rw [hA] at hx;have:=List.mem_filter.1 hx;refine ⟨this.1,?_⟩;have h7:=this.2;unfold su at h7;simpa using h7
   rw [<- hA] at h6 ⊢;cases A with
   |nil=>simp at h6
   |cons x r=>
    obtain ⟨hx,pQ⟩:=rX x (by simp);obtain ⟨y,hy,hd,ht⟩:=hown x hx;obtain ⟨d,nm,q1,q2⟩:=T7 (iR y hy) (by rw [<- ht];exact pQ);rw [<- hd] at q1;have cY:=(hz.set y hy).data.mem d (by rw [<- hd];exact zm q1);have mE:ay nm:=cY.name nm (zm q2);have hnl:=qc mE;have hdr:∀ fr h k st et,Af fr st 5 ai.kd et=true->kf ai fr h 0 (r.length+1) (.row (.vl true 1 (x.owner.map (ah.val false)) :: .sc (.int .u16 x.type.toNat) :: .sc (.int .u16 x.cls.toNat) :: .sc (.int .u32 x.jb.toNat) :: .vl true 4 (x.data.map (bc.val true))::cellsOf ai true r) k st et)=some (x::r):=fun fr h k st et hro=>by have:=hdec (x::r) fr h k st et hro;rw [uc] at this;exact this
    have mS:(((x::r)[0]?).bind fun y=>(y.data[0]?).bind fun d=>d.names[0]?).getD []=nm:=by rw [List.getElem?_cons_zero,Option.bind_some,q1,Option.bind_some,q2];rfl
    rw [mS];have iV:ai.cells true x=[.vl true 1 (x.owner.map (ah.val false)),.sc (.int .u16 x.type.toNat),.sc (.int .u16 x.cls.toNat),.sc (.int .u32 x.jb.toNat),.vl true 4 (x.data.map (bc.val true))]:=rfl;have bZ : 0<r.length+1:=zO;simp only [↓wR,zT,simprocAttr,h6,uc,iV,bZ,List.cons_append,List.nil_append,q1,q2,kp,hnl,hdr]
    try rfl
  ·rw [if_neg zO];simp only [↓wR,zT,simprocAttr,h6]
 ·rw [if_neg e3];simp only [↓wR,zT,simprocAttr,h3];generalize ew z nd=L at nH gT ⊢;have c1:=s9 L t gT;have c2:k8 PP 136 [.vl true 5 (L.map (ai.val true)),.sc (.int .u16 5)] (bh []) (fun r aA=>r = .sl 0 0 (gj 5 L).length 5/\aA=bh [some (.row (cellsOf ai true ((gj 5 L))) 0 0 31)]):=s9 L 5 gT;refine qj [] c1 (by decide) (by simp only [↓wR,zT,simprocAttr]) (by simp only [↓wR,zT,simprocAttr]) (zB rfl) (by simp only [↓wR,zT,simprocAttr]) (by simp only [↓wR,zT,simprocAttr]) ⟨zB rfl,zB rfl⟩ ?_;simp only [↓wR,zT,simprocAttr,fu,m7,qf,pk,Ce];unfold Xi;rw [bg];refine ⟨fun h5=>?_,fun h5=>?_⟩
  ·rw [if_pos zO];simp only [↓wR,zT,simprocAttr,h5,hdec]
  rw [if_neg zO];simp only [↓wR,zT,simprocAttr,h5];refine qj [] c2 (by decide) (by simp only [↓wR,zT,simprocAttr]) (by simp only [↓wR,zT,simprocAttr]) (zB rfl) (by simp only [↓wR,zT,simprocAttr]) (by simp only [↓wR,zT,simprocAttr]) ⟨zB rfl,zB rfl⟩ ?_;simp only [↓wR,zT,simprocAttr,fu,m7,qf,pk,Ce];rw [bg];refine ⟨fun h6=>?_,fun h6=>?_⟩
  ·rw [if_pos zO];obtain ⟨A,hA⟩:∃ A,A=gj 5 L:=⟨_,rfl⟩;have rX:∀ x ∈ A,x ∈ L/\(x.type.toNat:Int)=5:=fun x hx=>by
    rw [hA] at hx;have:=List.mem_filter.1 hx;refine ⟨this.1,?_⟩;have h7:=this.2;unfold su at h7;simpa using h7
   rw [<- hA] at h6 ⊢;cases A with
   |nil=>simp at h6
   |cons x r=>
    obtain ⟨hx,pQ⟩:=rX x (by simp);obtain ⟨y,hy,hd,ht⟩:=nH x hx;obtain ⟨d,nm,q1,q2⟩:=T7 (iR y hy) (by rw [<- ht];exact pQ);rw [<- hd] at q1;have cY:=(hz.set y hy).data.mem d (by rw [<- hd];exact zm q1);have mE:ay nm:=cY.name nm (zm q2);have hnl:=qc mE;have hdr:∀ fr h k st et,Af fr st 5 ai.kd et=true->kf ai fr h 0 (r.length+1) (.row (.vl true 1 (x.owner.map (ah.val false)) :: .sc (.int .u16 x.type.toNat) :: .sc (.int .u16 x.cls.toNat) :: .sc (.int .u32 x.jb.toNat) :: .vl true 4 (x.data.map (bc.val true))::cellsOf ai true r) k st et)=some (x::r):=fun fr h k st et hro=>by have:=hdec (x::r) fr h k st et hro;rw [uc] at this;exact this
    have mS:(((x::r)[0]?).bind fun y=>(y.data[0]?).bind fun d=>d.names[0]?).getD []=nm:=by rw [List.getElem?_cons_zero,Option.bind_some,q1,Option.bind_some,q2];rfl
    rw [mS];have iV:ai.cells true x=[.vl true 1 (x.owner.map (ah.val false)),.sc (.int .u16 x.type.toNat),.sc (.int .u16 x.cls.toNat),.sc (.int .u32 x.jb.toNat),.vl true 4 (x.data.map (bc.val true))]:=rfl;have bZ : 0<r.length+1:=zO;simp only [↓wR,zT,simprocAttr,h6,uc,iV,bZ,List.cons_append,List.nil_append,q1,q2,kp,hnl,hdr]
    try rfl
  ·rw [if_neg zO];simp only [↓wR,zT,simprocAttr,h6]
noncomputable def Pk (x:au × Name × UInt16 × Unit):Option AV:=if (bj x.1/\ay x.2.1)/\ff x.1 x.2.1=0 then some ((r1 pr).E true (Qh x.1 x.2.1 x.2.2.1 (ic x.1 x.2.1).1)) else none
theorem ap2 (x:au × Name × UInt16 × Unit) (r:AV) (h:Pk x=some r):bf PP 96 ((aC be (aC ak (aC cf a0))).E x) r:=by obtain ⟨hc,rfl⟩:=zI h;exact aw (ar.cons (aq ari) (ar.cons (aq Cb) (ar.cons (aq aj2) (ar.cons (aq ny) (ar.nil PP))))) Tryz.func96 zK zK zK zL (r1 pr) true (Qh x.1 x.2.1 x.2.2.1 (ic x.1 x.2.1).1) (axo x.1 x.2.1 x.2.2.1 hc.1.1 hc.1.2 hc.2)
noncomputable abbrev aE0:zE:=(96,true,ct (aC be (aC ak (aC cf a0))) Pk)
theorem Vo {p q:az->Bool}:∀ {l:List az},(∀ x ∈ l,p x=q x)->l.find? p=l.find? q
 | [],_=>rfl
 |a::l,h=>by rw [List.find?_cons,List.find?_cons,h a (by simp),Vo (fun x hx=>h x (List.mem_cons_of_mem _ hx))]
theorem Rm {q:az->Bool}:∀ {l:List az},l.Pairwise (fun a b=>¬ (q a=true/\q b=true))->l.filter q=(l.find? q).toList
 | [],_=>rfl
 |a::l,h=>by
  rw [List.pairwise_cons] at h;rw [List.filter_cons,List.find?_cons];cases hq:q a
  ·rw [if_neg (by decide)];exact Rm h.2
  ·rw [if_pos rfl];have:l.filter q=[]:=by
    rw [List.filter_eq_nil_iff];intro b hb wM;exact h.1 b hb ⟨hq,wM⟩
   rw [this];rfl
def u4 (l:List az):Prop:=l.Pairwise fun a b=>a.type≠b.type
theorem C9 {z:au} (hg:Fo z) (m:Name):u4 (ew z m):=by unfold u4 ew;have h:=(aro hg).filter (fun s=>dm s.owner m);refine h.imp_of_mem ?_;intro a b ha hb hab ht;have h1:=(List.mem_filter.1 ha).2;have h2:=(List.mem_filter.1 hb).2;simp only [dm,decide_eq_true_eq] at h1 h2;exact hab ⟨by unfold dm;exact zp (h1.trans h2.symm),ht⟩
theorem auy {l:List az} (h:u4 l) (n:Name):u4 (l.map (ly n)):=by unfold u4 at h ⊢;rw [List.pairwise_map];exact h
theorem Aw {l:List az} (h:u4 l) {t:Int} (ht:t≠255):gj t l=(l.find? (fun s=>decide ((s.type.toNat:Int)=t))).toList:=by
 have hp:su t=fun s=>decide ((s.type.toNat:Int)=t):=by funext s;unfold su;rw [zq ht,Bool.false_or]
 unfold gj;rw [hp];refine Rm (h.imp ?_);rintro a b hab ⟨h1,h2⟩;have h1:=of_decide_eq_true h1;have h2:=of_decide_eq_true h2;exact hab (UInt16.toNat_inj.1 zO)
theorem aab {l:List az} (h:u4 l) (t:UInt16):Xi t.toNat l=Q0 t l:=by
 unfold Xi Q0;by_cases ht:(t.toNat:Int)=255
 ·have hv:gj t.toNat l=l:=by
   unfold gj;rw [List.filter_eq_self];intro s _;unfold su;rw [zp ht,Bool.true_or]
  rw [hv];by_cases hl : 0<l.length
  ·rw [if_pos hl,if_pos ⟨ht,hl⟩]
  ·have:l=[]:=zzf zO;subst this;rw [if_neg (show ¬ ((t.toNat:Int)=255/\0<([]:List az).length) from fun q=>hl q.2)];rfl
 ·rw [Aw h ht,Aw h (by decide),if_neg (show ¬ ((t.toNat:Int)=255/\0<l.length) from fun q=>ht q.1)];have e5:(fun s:az=>decide ((s.type.toNat:Int)=5) && decide ((t.toNat:Int)≠255))=fun s=>decide ((s.type.toNat:Int)=5):=by funext s;rw [zp ht,Bool.and_true]
  rw [e5];cases l.find? (fun s=>decide ((s.type.toNat:Int)=t.toNat)) with
  |some x=>rfl
  |none=>
   cases l.find? (fun s=>decide ((s.type.toNat:Int)=5)) with
   |some x=>rfl
   |none=>rfl
theorem af3 {n:Name}:∀ (l:List Name) (b:Option Name) {c:Name},l.foldl (zl n) b=some c->c ∈ l\/b=some c
 | [],b,c,h=>.inr h
 |m::l,b,c,h=>by
  rw [List.foldl_cons] at h;rcases af3 l _ h with h1|h1
  ·exact .inl (List.mem_cons_of_mem _ h1)
  ·unfold zl at h1
   split at h1
   ·cases h1;exact .inl (by simp)
   ·exact .inr h1
theorem as4 {z:au} {n c:Name} (h:ka z n=some c):∃ s ∈ z.aj,(s.type.toNat:Int)=2/\s.owner=c:=by
 rw [afs] at h;rcases af3 _ _ h with h1|h1
 ·unfold zf at h1;obtain ⟨s,hs,rfl⟩:=zyj.1 h1;obtain ⟨h2,h3⟩:=List.mem_filter.1 hs;unfold ye at h3;rw [zzh] at h3;exact ⟨s,h2,of_decide_eq_true h3.1,rfl⟩
 ·cases h1
theorem Nq {z:au} (hg:Fo z) (c:Name) (t:UInt16):ru z.aj c t=(ew z c).find? (fun s=>decide ((s.type.toNat:Int)=t.toNat)):=by
 unfold ru ew;rw [List.find?_filter];refine Vo (fun x hx=>?_);have hcl:=hg.cls x hx;have hc1:(x.cls.toNat:Int)=1:=by
  unfold ju at hcl;by_cases q:(x.cls.toNat:Int)=1
  ·exact q
  ·rw [if_pos q] at hcl;cases hcl
 unfold tw;rw [zp hc1,Bool.true_and];generalize dm x.owner c=p;generalize decide ((x.type.toNat:Int)=t.toNat)=q;cases p<;>cases q<;>rfl
theorem ar1 {z:au} {n:Name} (hz:dy z=0) (he:ff z n=0) (t:UInt16):Qh z n t (ic z n).1=rz z n t (ic z n).1:=by
 have hg:=B7 hz;unfold Qh rz;by_cases h4:(ic z n).1.kind=4
 ·rw [if_pos h4,if_pos h4];rcases Xz he with ⟨c,hc,e⟩|⟨_,_,_,e⟩|⟨_,_,_,e⟩|⟨_,_,_,_,e⟩|⟨_,_,_,_,e⟩
  ·rw [e];show sd 4 (gj 2 (ew z c)) []=sd 4 [(ru z.aj c 2).getD Kn] [];rw [Aw (C9 hg c) (by decide)];obtain ⟨s,hs,h2,ho⟩:=as4 hc;have hf:ru z.aj c 2=(ew z c).find? (fun s=>decide ((s.type.toNat:Int)=2)):=Nq hg c 2;rw [hf];have hne:(ew z c).find? (fun s=>decide ((s.type.toNat:Int)=2))≠none:=by
    rw [ne_eq,List.find?_eq_none];intro q;exact q s (List.mem_filter.2 ⟨hs,by rw [ho];exact Uq c⟩) (zp h2)
   cases hq:(ew z c).find? (fun s=>decide ((s.type.toNat:Int)=2)) with
   |none=>exact absurd hq hne
   |some x=>rfl
  all_goals (rw [e] at h4;cases h4)
 ·rw [if_neg h4,if_neg h4]
  split
  ·rfl
  split
  ·rfl
  split
  ·exact aab (auy (C9 hg _) n) t
  ·exact aab (C9 hg _) t
theorem aos (z:au) (n:Name) (t:UInt16):(pd z n t).2=A5 z n t:=by
 unfold pd A5;by_cases h:ff z n=0
 ·have h2:=au0 h;rw [if_neg (show ¬ ff z n≠0 from fun q=>q h)];by_cases ht:(t.toNat:Int)=0\/(t.toNat:Int)=41
  ·rw [if_pos ⟨h2,ht⟩,if_pos ht]
  ·rw [if_neg (fun q=>ht q.2),if_neg ht,h2]
 ·have h2:=Ua h;rw [if_pos h,h2];rw [if_neg (fun q=>h q.1)]
theorem azf (z:au) (n:Name) (t:UInt16) (hz:bj z) (hn:ay n):wl PP [aAo,aE0] 0 (Tryz.f41.body.getD .skip) (c8 PP Tryz.f41.results.toList (fun r st=>(r2 pr (ba .i64)).get true st.h r=some (uv z n t))) (cg 0 [be.val false z,ak.val false n,cf.val false t]) (bh []):=by
 unfold Tryz.f41;simp only [dr,bw];unfold uv;rw [aos];simp only [↓wR,zT,simprocAttr,Gj,hz,hn];rw [dg];refine ⟨fun ⟨h,e⟩=>?_,fun ⟨h,e⟩=>?_⟩
 ·rw [if_pos e];simp only [↓wR,zT,simprocAttr,h]
  try rfl
 ·have e0:A5 z n t=0:=zO;have ha:ff z n=0:=by
   unfold A5 at e0;by_cases q:ff z n=0
   ·exact q
   ·rw [if_pos q] at e0;exact e0
  rw [if_neg (show ¬ A5 z n t≠0 from fun q=>q e0),<- ar1 (u1 ha).1 ha t];simp only [↓wR,zT,simprocAttr,h,Pk,hz,hn,ha]
  try rfl
noncomputable def Nc (x:au × Name × UInt16 × Unit):Option AV:=if bj x.1/\ay x.2.1 then some ((r2 pr (ba .i64)).E true (uv x.1 x.2.1 x.2.2.1)) else none
theorem ao1 (x:au × Name × UInt16 × Unit) (r:AV) (h:Nc x=some r):bf PP 41 ((aC be (aC ak (aC cf a0))).E x) r:=by obtain ⟨hc,rfl⟩:=zI h;exact aw (ar.cons (aq afq) (ar.cons (aq ap2) (ar.nil PP))) Tryz.func41 zK zK zK zL (r2 pr (ba .i64)) true (uv x.1 x.2.1 x.2.2.1) (azf x.1 x.2.1 x.2.2.1 hc.1 hc.2)
noncomputable abbrev az2:zE:=(41,true,ct (aC be (aC ak (aC cf a0))) Nc)
theorem aob (z:au) (hz:bj z) (he:dy z=0):wl PP [Vq] 0 (Tryz.f98.body.getD .skip) (c8 PP Tryz.f98.results.toList (fun r st=>(r1 ai).get true st.h r=some (qx z))) (cg 0 [be.val false z]) (bh []):=by
 have hq:∀ a b c d,ga a b c=d->ga a b c=d:=fun _ _ _ _ h=>h
 obtain ⟨s,hs⟩:=O2 he;obtain ⟨m1,m2,m3,m4⟩:=Fk hs;obtain ⟨d,k,hd,hk⟩:=aso (Ad he s m1) (by rw [m2];rfl);have hzl:=hz.len;have hat:(ew z z.origin).length<=z.aj.length:=mj _;have hT:gj 6 (ew z z.origin)=[s]:=by have h1:=Nq (B7 he) z.origin 6;rw [hs] at h1;rw [Aw (C9 (B7 he) _) (by decide),show (fun s:az=>decide ((s.type.toNat:Int)=6))=(fun s:az=>decide ((s.type.toNat:Int)=(6:UInt16).toNat)) from rfl,<- h1];rfl
 have c6:k8 PP 136 [.vl true 5 ((ew z z.origin).map (ai.val true)),.sc (.int .u16 6)] (bh []) (fun r aA=>r = .sl 0 0 (gj 6 (ew z z.origin)).length 5/\aA=bh [some (.row (cellsOf ai true ((gj 6 (ew z z.origin)))) 0 0 31)]):=s9 (ew z z.origin) 6 zO;rw [hT] at c6;unfold Tryz.f98;simp only [dr];unfold qx;have iV:ai.cells true s=[.vl true 1 (s.owner.map (ah.val false)),.sc (.int .u16 s.type.toNat),.sc (.int .u16 s.cls.toNat),.sc (.int .u32 s.jb.toNat),.vl true 4 (s.data.map (bc.val true))]:=rfl;have hc1:cellsOf ai true [s]=[.vl true 1 (s.owner.map (ah.val false)),.sc (.int .u16 s.type.toNat),.sc (.int .u16 s.cls.toNat),.sc (.int .u32 s.jb.toNat),.vl true 4 (s.data.map (bc.val true))]:=rfl;rw [hc1] at c6;rw [hs];simp only [↓wR,zT,simprocAttr,yv,hz,hz.origin];refine qj [] c6 (by decide) (by simp only [↓wR,zT,simprocAttr]) (by simp only [↓wR,zT,simprocAttr]) (zB rfl) (by simp only [↓wR,zT,simprocAttr]) (by simp only [↓wR,zT,simprocAttr]) ⟨zB rfl,zB rfl⟩ ?_;have hm:(if (k.toNat:Int)<s.jb.toNat then (k.toNat:Int) else s.jb.toNat)=((ag1 s.jb k).toNat:Int):=by unfold ag1;split<;>split<;>first|rfl|omega
 simp only [↓wR,zT,simprocAttr,fu,m7,qf,pk,Ce,zyg];refine ⟨zK,.inl ?_⟩;simp only [↓wR,zT,simprocAttr,hd,hk,MM0,hm];apply hq;kernel_rfl
noncomputable def Gf (x:au × Unit):Option AV:=if bj x.1/\dy x.1=0 then some ((r1 ai).E true (qx x.1)) else none
theorem ad9 (x:au × Unit) (r:AV) (h:Gf x=some r):bf PP 98 ((aC be a0).E x) r:=by obtain ⟨hc,rfl⟩:=zI h;exact aw (ar.cons (aq Cb) (ar.nil PP)) Tryz.func98 zK zK zK zL (r1 ai) true (qx x.1) (aob x.1 hc.1 hc.2)
noncomputable abbrev aBf:zE:=(98,true,ct (aC be a0) Gf)
theorem ak1 (z:au) (hz:bj z):wl PP [Ko,aBf] 0 (Tryz.f43.body.getD .skip) (c8 PP Tryz.f43.results.toList (fun r st=>(r2 ai (ba .i64)).get true st.h r=some (qv z))) (cg 0 [be.val false z]) (bh []):=by
 unfold Tryz.f43;simp only [dr];simp only [↓wR,zT,simprocAttr,tt,hz];unfold qv;rw [dg];refine ⟨fun ⟨h,e⟩=>?_,fun ⟨h,e⟩=>?_⟩
 ·rw [if_pos e];simp only [↓wR,zT,simprocAttr,h]
  try rfl
 have he:dy z=0:=zO;rw [if_neg (show ¬ dy z≠0 from fun q=>q he)];simp only [↓wR,zT,simprocAttr,h,Gf,hz,he]
 try rfl
noncomputable def Er (x:au × Unit):Option AV:=if bj x.1 then some ((r2 ai (ba .i64)).E true (qv x.1)) else none
theorem ace (x:au × Unit) (r:AV) (h:Er x=some r):bf PP 43 ((aC be a0).E x) r:=by obtain ⟨hc,rfl⟩:=zI h;exact aw (ar.cons (aq Bi) (ar.cons (aq ad9) (ar.nil PP))) Tryz.func43 zK zK zK zL (r2 ai (ba .i64)) true (qv x.1) (ak1 x.1 hc)
noncomputable abbrev adw:zE:=(43,true,ct (aC be a0) Er)
theorem as7 (l:List Name) (n:Name) (hl:l.length<=16777216/\∀ m ∈ l,ay m) (hn:ay n):wl PP [oa] 0 (Tryz.f140.body.getD .skip) (c8 PP Tryz.f140.results.toList (fun r st=>(r1 bk).get true st.h r=some (aiz l n))) (cg 0 [(br ak).val false l,ak.val false n]) (bh []):=by
 have hlen:=hl.1;unfold Tryz.f140;simp only [j5,bw];unfold aiz;simp only [↓wR,zT,simprocAttr];refine dq [0,1,5] (fun (i:Nat)=>[zv l,zn n,zi i]) (fun _=>[]) (fun i=>i<=l.length/\(l.any fun m=>dm m n)=((l.drop i).any fun m=>dm m n)) (fun i=>l.length - i) 0 ⟨zzb _,rfl⟩ zS zS ?_;rintro i ⟨hi,hx⟩;simp only [↓wR,zT,simprocAttr];rw [bg];refine ⟨fun h=>?_,fun h=>?_⟩
 ·obtain ⟨c,hc,aF,hlt⟩:=du (zp h);rw [aF,List.any_cons] at hx;have hcs:=hl.2 c (zm hc);simp only [↓wR,zT,simprocAttr,h,hc,wo,hcs,hn];rw [cq];refine ⟨fun h2=>?_,fun h2=>?_⟩
  ·rw [h2,Bool.true_or] at hx;simp only [↓wR,zT,simprocAttr,h2,hx]
  ·rw [h2,Bool.false_or] at hx
   repeat (first|simp only [↓wR,zT,simprocAttr,h2]|simp (disch:=omega) only [zW])
   exact ⟨i+1,⟨hlt,hx⟩,zO,zF⟩
 ·rw [eg (zq h),List.any_nil] at hx;simp only [↓wR,zT,simprocAttr,h,hx]
noncomputable def Jx (x:List Name × Name × Unit):Option AV:=if (x.1.length<=16777216/\∀ m ∈ x.1,ay m)/\ay x.2.1 then some ((r1 bk).E true (aiz x.1 x.2.1)) else none
theorem aj6 (x:List Name × Name × Unit) (r:AV) (h:Jx x=some r):bf PP 140 ((aC (br ak) (aC ak a0)).E x) r:=by obtain ⟨hc,rfl⟩:=zI h;exact aw (ar.cons (aq uo) (ar.nil PP)) Tryz.func140 zK zK zK zL (r1 bk) true (aiz x.1 x.2.1) (as7 x.1 x.2.1 hc.1 hc.2)
noncomputable abbrev aEb:zE:=(140,true,ct (aC (br ak) (aC ak a0)) Jx)
theorem aaf:∀ {l:List az},l.Pairwise (fun a b=>a.type.toNat<b.type.toNat)->l.filter (fun s=>decide ((s.type.toNat:Int)=1) || decide ((s.type.toNat:Int)=28))=l.filter (fun s=>decide ((s.type.toNat:Int)=1))++l.filter (fun s=>decide ((s.type.toNat:Int)=28))
 | [],_=>rfl
 |a::l,h=>by
  rw [List.pairwise_cons] at h;have ih:=aaf h.2;rw [List.filter_cons,List.filter_cons,List.filter_cons,ih];by_cases h1:(a.type.toNat:Int)=1
  ·have kV:¬ (a.type.toNat:Int)=28:=zO;rw [zp h1,zq kV];rfl
  ·rw [zq h1];by_cases kV:(a.type.toNat:Int)=28
   ·have hno:l.filter (fun s=>decide ((s.type.toNat:Int)=1))=[]:=by
     rw [List.filter_eq_nil_iff];intro b hb q;have:=h.1 b hb;have:=of_decide_eq_true q;omega
    rw [zp kV,hno];rfl
   ·rw [zq kV];rfl
theorem aCt {z:au} (hg:Fo z) (m:Name):(ew z m).Pairwise fun a b=>a.type.toNat<b.type.toNat:=by
 unfold ew;refine ((Rr hg).filter (fun s=>dm s.owner m)).imp_of_mem ?_;intro a b ha hb hab;have h1:=(List.mem_filter.1 ha).2;have h2:=(List.mem_filter.1 hb).2;simp only [dm,decide_eq_true_eq] at h1 h2;have hs:dm a.owner b.owner=true:=by unfold dm;exact zp (h1.trans h2.symm)
 rcases Ij.1 hab with q|q
 ·have:=Hg.2 hs;omega
 ·exact q.2
theorem ajf {z:au} (hg:Fo z) (n:Name):z.aj.filter (qi n)=gj 1 (ew z n)++gj 28 (ew z n):=by
 have h1:su 1=fun s=>decide ((s.type.toNat:Int)=1):=by funext s;unfold su;rfl
 have kV:su 28=fun s=>decide ((s.type.toNat:Int)=28):=by funext s;unfold su;rfl
 unfold gj;rw [h1,kV,<- aaf (aCt hg n)];unfold ew;rw [List.filter_filter];rfl
set_option maxHeartbeats 4000000 in
theorem awq (z:au) (l:List Name) (hz:bj z) (he:dy z=0) (hl:jq l):wl PP [aEb,Vq] 0 (Tryz.f100.body.getD .skip) (c8 PP Tryz.f100.results.toList (fun r st=>(r1 (br ai)).get true st.h r=some (wj z l))) (cg 0 [be.val false z,(br ak).val false l]) (bh []):=by
 have hq:∀ a b c d,ga a b c=d->ga a b c=d:=fun _ _ _ _ h=>h
 have hzl:=ad6 he;have hlen:=hl.len;have hg:=B7 he;have pT:=aak z l [];have lL:l.length * z.aj.length<=16777216 * 2048:=Nat.mul_le_mul hlen hzl;unfold Tryz.f100;simp only [dr];simp only [↓wR,zT,simprocAttr];refine fm [1,2,6,5] (fun (x:Nat × List az)=>[zv l,.ptr 0 0,zi x.1,.sl 1 0 x.2.length 5]) (fun x=>[(zZ z),some (.row (cellsOf ai true ((x.2))) 0 0 31)]) (fun x=>x.1<=l.length/\x.2++qm z (l.take x.1) (l.drop x.1)=wj z l) (fun x=>l.length - x.1) (0,[]) ⟨zzb _,by rw [List.take_zero,List.drop_zero];rfl⟩ zX ?_;rintro ⟨i,x⟩ ⟨hi,hx⟩;simp only at hi hx;simp only [↓wR,zT,simprocAttr];rw [bg];refine ⟨fun h=>?_,fun h=>?_⟩
 ·obtain ⟨n,hc,aF,hlt⟩:=du (zp h);rw [ae7 hc] at hx;have kR:=hl.mem n (zm hc);have lM:(l.take i).length<=16777216:=by rw [zzl];omega
  have wD:∀ m ∈ l.take i,ay m:=fun m hm=>hl.mem m (zzr hm)
  have bP:x.length<=16777216 * 2048:=by have h2:=congrArg List.length hx;rw [za] at h2;unfold wj at h2;omega
  have hat:(ew z n).length<=z.aj.length:=mj _;have wG:(gj 1 (ew z n)).length<=2048:=zzu (mj _) zO;have wF:(gj 28 (ew z n)).length<=2048:=zzu (mj _) zO;have aY:i<=16777216:=zO;simp only [↓wR,zT,simprocAttr,h];refine ⟨zK,.inl ?_⟩;simp only [↓wR,zT,simprocAttr,hi,aY,hc,Jx,lM,eq_true wD,kR];refine ⟨by apply hq;kernel_rfl,?_⟩;rw [cq];refine ⟨fun h2=>?_,fun h2=>?_⟩
  ·have h2':((l.take i).any fun m=>dm m n)=true:=h2;rw [if_pos h2',List.nil_append] at hx
   repeat (first|simp only [↓wR,zT,simprocAttr,h2]|simp (disch:=omega) only [zW])
   exact ⟨(i+1,x),⟨hlt,hx⟩,by simp;omega,zF,rfl⟩
  ·have h2':((l.take i).any fun m=>dm m n)=false:=h2;rw [if_neg (by rw [h2'];decide),ajf hg n] at hx;have c1:k8 PP 136 [.vl true 5 ((ew z n).map (ai.val true)),.sc (.int .u16 1)] (bh []) (fun r aA=>r = .sl 0 0 (gj 1 (ew z n)).length 5/\aA=bh [some (.row (cellsOf ai true ((gj 1 (ew z n)))) 0 0 31)]):=s9 (ew z n) 1 zO;have c2:k8 PP 136 [.vl true 5 ((ew z n).map (ai.val true)),.sc (.int .u16 28)] (bh []) (fun r aA=>r = .sl 0 0 (gj 28 (ew z n)).length 5/\aA=bh [some (.row (cellsOf ai true ((gj 28 (ew z n)))) 0 0 31)]):=s9 (ew z n) 28 zO;obtain ⟨A,hA⟩:∃ A,A=gj 1 (ew z n):=⟨_,rfl⟩;obtain ⟨B,hB⟩:∃ B,B=gj 28 (ew z n):=⟨_,rfl⟩;rw [<- hA] at c1 wG hx;rw [<- hB] at c2 wF hx;simp only [↓wR,zT,simprocAttr,h2];refine ⟨zK,.inl ?_⟩;simp only [↓wR,zT,simprocAttr,hc,yv,hz,kR];refine ⟨by apply hq;kernel_rfl,?_⟩;refine qj [] c1 (by decide) (by simp only [↓wR,zT,simprocAttr]) (by simp only [↓wR,zT,simprocAttr]) (zB rfl) (by simp only [↓wR,zT,simprocAttr]) (by simp only [↓wR,zT,simprocAttr]) ⟨zB rfl,zB rfl⟩ ?_;have mI:(x.length * 5+A.length * 5) * 56<=140737488355328:=zO;have e1:x.length+A.length=(x++A).length:=List.length_append.symm;have e2:cellsOf ai true x++cellsOf ai true A=cellsOf ai true (x++A):=by unfold cellsOf;rw [List.flatMap_append]
   simp only [↓wR,zT,simprocAttr,fu,m7,qf,pk,Ce,mI];rw [e1,e2];have xY:(x++A).length<=16777216 * 2048+2048:=by rw [za];omega
   have hx3:(x++A)++(B++qm z (l.take (i+1)) (l.drop (i+1)))=wj z l:=by rw [<- hx];simp only [zzc]
   generalize x++A=Y at xY hx3 ⊢;have cS:(Y.length * 5+B.length * 5) * 56<=140737488355328:=zO;refine qj [] c2 (by decide) (by simp only [↓wR,zT,simprocAttr]) (by simp only [↓wR,zT,simprocAttr]) (zB rfl) (by simp only [↓wR,zT,simprocAttr]) (by simp only [↓wR,zT,simprocAttr]) ⟨zB rfl,zB rfl⟩ ?_
   repeat (first|simp only [↓wR,zT,simprocAttr,fu,m7,qf,pk,Ce,cS]|simp (disch:=omega) only [zW])
   refine ⟨(i+1,Y++B),⟨hlt,by rw [zzc];exact hx3⟩,by simp;omega,zF,?_⟩;unfold cellsOf;rw [List.flatMap_append]
 ·rw [eg (zq h),qm,zzn] at hx;subst hx;simp only [↓wR,zT,simprocAttr,h]
noncomputable def Oh (x:au × List Name × Unit):Option AV:=if (bj x.1/\dy x.1=0)/\jq x.2.1 then some ((r1 (br ai)).E true (wj x.1 x.2.1)) else none
theorem aq0 (x:au × List Name × Unit) (r:AV) (h:Oh x=some r):bf PP 100 ((aC be (aC (br ak) a0)).E x) r:=by obtain ⟨hc,rfl⟩:=zI h;exact aw (ar.cons (aq aj6) (ar.cons (aq Cb) (ar.nil PP))) Tryz.func100 zK zK zK zL (r1 (br ai)) true (wj x.1 x.2.1) (awq x.1 x.2.1 hc.1.1 hc.1.2 hc.2)
noncomputable abbrev aFw:zE:=(100,true,ct (aC be (aC (br ak) a0)) Oh)
noncomputable def wh (z:au) (l:List Name):List az × Int:=if dy z≠0 then ([],dy z) else (wj z l,0)
theorem at5 (z:au) (l:List Name) (hz:bj z) (hl:jq l):wl PP [Ko,aFw] 0 (Tryz.f45.body.getD .skip) (c8 PP Tryz.f45.results.toList (fun r st=>(r2 (br ai) (ba .i64)).get true st.h r=some (wh z l))) (cg 0 [be.val false z,(br ak).val false l]) (bh []):=by
 unfold Tryz.f45;simp only [dr];simp only [↓wR,zT,simprocAttr,tt,hz];unfold wh;rw [dg];refine ⟨fun ⟨h,e⟩=>?_,fun ⟨h,e⟩=>?_⟩
 ·rw [if_pos e];simp only [↓wR,zT,simprocAttr,h]
  try rfl
 have he:dy z=0:=zO;rw [if_neg (show ¬ dy z≠0 from fun q=>q he)];simp only [↓wR,zT,simprocAttr,h,Oh,hz,he,hl]
 try rfl
noncomputable def Je (x:au × List Name × Unit):Option AV:=if bj x.1/\jq x.2.1 then some ((r2 (br ai) (ba .i64)).E true (wh x.1 x.2.1)) else none
theorem ak2 (x:au × List Name × Unit) (r:AV) (h:Je x=some r):bf PP 45 ((aC be (aC (br ak) a0)).E x) r:=by obtain ⟨hc,rfl⟩:=zI h;exact aw (ar.cons (aq Bi) (ar.cons (aq aq0) (ar.nil PP))) Tryz.func45 zK zK zK zL (r2 (br ai) (ba .i64)) true (wh x.1 x.2.1) (at5 x.1 x.2.1 hc.1 hc.2)
noncomputable abbrev atm:zE:=(45,true,ct (aC be (aC (br ak) a0)) Je)
theorem asi (z:au) (l:List Name) (hz:bj z) (hl:jq l):wl PP [aim,aE2] 0 (Tryz.f44.body.getD .skip) (c8 PP Tryz.f44.results.toList (fun r st=>(r2 (br ai) (ba .i64)).get true st.h r=some (wh z l))) (cg 0 [be.val false z,(br ak).val false l]) (bh []):=by
 unfold Tryz.f44;simp only [dr];simp only [↓wR,zT,simprocAttr,C6,hz];unfold wh;by_cases he:dy z=0
 ·have hb:(dy z != 0)=false:=by rw [he];rfl
  rw [if_neg (show ¬ dy z≠0 from fun q=>q he)];simp only [↓wR,zT,simprocAttr,hb,Od,hz,he,hl]
  try rfl
 ·have hb:(dy z != 0)=true:=by simpa using he
  rw [if_pos he];simp only [↓wR,zT,simprocAttr,hb]
  try rfl
noncomputable def Jv (x:au × List Name × Unit):Option AV:=if bj x.1/\jq x.2.1 then some ((r2 (br ai) (ba .i64)).E true (wh x.1 x.2.1)) else none
theorem akc (x:au × List Name × Unit) (r:AV) (h:Jv x=some r):bf PP 44 ((aC be (aC (br ak) a0)).E x) r:=by obtain ⟨hc,rfl⟩:=zI h;exact aw (ar.cons (aq Iw) (ar.cons (aq aom) (ar.nil PP))) Tryz.func44 zK zK zK zL (r2 (br ai) (ba .i64)) true (wh x.1 x.2.1) (asi x.1 x.2.1 hc.1 hc.2)
noncomputable abbrev aul:zE:=(44,true,ct (aC be (aC (br ak) a0)) Jv)
end Go.Proofs.YtgencolcibpcaaaGreat
end
namespace Go.Vm
variable [TK]
noncomputable section
def Vg (P:Program) (N:Nat) (ops:Array Oper) (l:List Oper) (X:Exit->Act->World->Prop) (a:Act) (w:World):Prop:=
 ∀ is:List Nat,is.map (fun i=>ops[i]?)=l.map some->wpOpsIn (ft none) N P ops X is a w
theorem ak0 {P:Program} {N id:Nat} {ops:Array Oper} {X:Exit->Act->World->Prop} {a:Act} {w:World} (h:Vg P N ops ops.toList X a w):(Code.region id ops false).wpIn (ft none) N P X a w:=
 wpIn_region (h (List.range ops.size) (H2 ops))
theorem ax1 {P:Program} [KP P] {T:eh} (hT:ar P T) {B:fh} {nt:NT} (aH:B.ll) {N:Nat} {ops:Array Oper} {l:List Oper} {K:SL->St->Prop} {X:Exit->Act->World->Prop} {L st g a w} (hg:rj nt ops=true) (hd:xc nt ops=true) (hm:∀ o ∈ l,o ∈ ops)
 (h:opsL P T ops l K L st) (hh:jn B nt L st g a w) (hK:∀ L st g a w,K L st->jn B nt L st g a w->X .normal a w):Vg P N ops l X a w:=fun is aQ=>
 anq hT aH hg hd (fun L st g w a hk hc hr hm=>hK L st g a w hk ⟨hc,hr,hm⟩) l is hm aQ L st g w a h hh.cur hh.sl hh.Fg
theorem aus {o:Oper} {f:Nat} {d:Option Nat} {args:List Nat} (h:Pd o=some (d,f,args)):∃ ts pos af ty,o=⟨d,.call { callee:=.value (.func f),args:=(args.map Operand.tmp).toArray,argTypes:=ts },ty,pos,af,none⟩:=by
 obtain ⟨dst,op,ty,pos,af,gd⟩:=o;unfold Pd at h
 split at h
 ·rename_i f' aa ats h1 h2;simp only [zzk,Prod.mk.injEq] at h;obtain ⟨ts,h3,rfl,rfl,rfl⟩:=h;subst h1 h2;refine ⟨ats,pos,af,ty,?_⟩;rw [<- Y5 h3]
 ·cases h
theorem asq {P:Program} [KP P] {T:eh} (hT:ar P T) {B:fh} {nt:NT} (aH:B.ll) {N:Nat} {ops:Array Oper} {l1 l2:List Oper} {o:Oper} {K:SL->St->Prop} {X:Exit->Act->World->Prop} {L st g a w} (hg:rj nt ops=true) (hd:xc nt ops=true) (hm:∀ o ∈ l1,o ∈ ops) (wV:o ∈ ops)
 {f:Nat} {args:List Nat} {d:Option Nat} (hl:Pd o=some (d,f,args)) (he:nq P f=true)
 (h:opsL P T ops l1 K L st) (hh:jn B nt L st g a w)
 (hK:∀ L' aA g' a' w',K L' aA->jn B nt L' aA g' a' w'->Calls P f (args.map fun t=>a'.tmps.getD t undef).toArray w' (fun e w''=>∃ r,e = .returned r/\∀ a'',a''.defers=a'.defers->a''.tmps.size=a'.tmps.size->(∀ t,d≠some t->a''.tmps.getD t undef=a'.tmps.getD t undef)->(∀ dd,d=some dd->a''.tmps.getD dd undef=r)->Vg P N ops l2 X a'' w'')) :
 Vg P N ops (l1++o::l2) X a w:=by
 obtain ⟨ts,pos,af,ty,rfl⟩:=aus hl;have key:∀ (l:List Oper) (is:List Nat),(∀ o ∈ l,o ∈ ops)->is.map (fun i=>ops[i]?)=(l++(⟨d,.call { callee:=.value (.func f),args:=(args.map Operand.tmp).toArray,argTypes:=ts },ty,pos,af,none⟩:Oper)::l2).map some->∀ L st g a w,opsL P T ops l K L st->jn B nt L st g a w->wpOpsIn (ft none) N P ops X is a w:=by
  intro l
  induction l with
  |nil=>
   intro is _ aQ L st g a w h hh;rw [List.nil_append] at aQ
   match is,aQ with
   |i::is,aQ=>
    simp only [List.map_cons,List.cons.injEq] at aQ;obtain ⟨hi,aQ⟩:=aQ;have hK':=hK L st g a w h hh;simp only [wpOpsIn,hi];have hw:Region.wanted (⟨d,.call { callee:=.value (.func f),args:=(args.map Operand.tmp).toArray,argTypes:=ts },ty,pos,af,none⟩:Oper) (yielded ops a.tmps)=true:=by simp [Region.wanted]
    rw [hw,if_pos rfl];refine ⟨lh none P _ a w,?_⟩;rw [Oper.semAt_eq _ _ _ (by intro c e;cases e)];have hrun:(execOp a.eval (⟨d,.call { callee:=.value (.func f),args:=(args.map Operand.tmp).toArray,argTypes:=ts },ty,pos,af,none⟩:Oper)).run P w=(callFunc f (args.map fun t=>a.tmps.getD t undef).toArray).run P w:=by
     rw [G8 (h:=f) (first:=#[]) (captured:=#[]) (f:=.func f) rfl rfl]
     congr 2
     apply Array.ext';simp [Act.eval]
    rw [hrun,sq he];refine ⟨(fun h=>(by cases h)),(rp (ro:=none) (n:=N - 1) hK').mono ?_⟩;rintro e w' ⟨r,rfl,hX⟩;have hdd:=fun dd (e:d=some dd)=>pg hd wV dd e
    show wpOpsIn (ft none) N P ops X is (a.put d r) w';refine hX _ (put_defers _ _ _) ?_ (fun t ht=>?_) (fun dd e=>?_) is aQ
    ·cases d with
     |none=>rfl
     |some dd=>show (a.tmps.setIfInBounds dd r).size=_;simp
    ·cases d with
     |none=>rfl
     |some dd=>
      have hne:dd≠t:=fun e=>ht (by rw [e])
      show (a.tmps.setIfInBounds dd r).getD t undef=a.tmps.getD t undef;rw [zze,zzz,if_neg hne,zze]
    ·subst e;have:=(NT.J1 (hdd dd rfl)).1;show (a.tmps.setIfInBounds dd r).getD dd undef=r;rw [zze,zzz,if_pos rfl,if_pos (by rw [hh.sl.1.size];exact this)];rfl
   | [],aQ=>cases aQ
  |cons o l ih=>
   intro is hmem aQ L st g a w h hh;obtain ⟨hc,hr,cA⟩:=hh;cases is with
   |nil=>cases aQ
   |cons i is=>
    simp only [List.cons_append,List.map_cons,List.cons.injEq] at aQ;obtain ⟨hi,aQ⟩:=aQ;have ho:=hmem o (by simp);simp only [wpOpsIn,hi];rcases Fq hr (Ge hg ho) h with ⟨hw,h1⟩|⟨hw,h1⟩
    ·rw [hw,if_pos rfl];unfold Tn Gm at h1;cases hop:gz P T o (dw L) st with
     |none=>
      rw [hop] at h1;refine Tp hc.ok (fun o ho=>hc.fresh o ho (aH o)) hr.eval h1 none N _ _ ?_;rintro u w' ⟨g',v,aA,q0,q1,q2,q3,q4⟩;exact ih is (fun o ho=>hmem o (by simp [ho])) aQ _ aA g' _ w' q0 ⟨hc.step (aH.Di _ _) ⟨q1,q2⟩ q3,(hr.ext q2.ext).put q4 (pg hd ho),by rw [put_defers];exact cA.step q2⟩
     |some p=>
      obtain ⟨v,aA⟩:=p;rw [hop] at h1;refine Kw hT hc.ok (hc.free (aH.Di _ _)) hr.eval hop none N _ _ ?_;rintro u w' ⟨g',q1,q2,q3⟩;exact ih is (fun o ho=>hmem o (by simp [ho])) aQ _ aA g' _ w' h1 ⟨hc.step (aH.Di _ _) ⟨Dr hop,q1⟩ q2,(hr.ext q1.ext).put q3 (pg hd ho),by rw [put_defers];exact cA.step q1⟩
    ·rw [hw,if_neg (by simp)];refine ⟨lh none P o a w,?_⟩;exact ih is (fun o ho=>hmem o (by simp [ho])) aQ _ st g _ w h1 ⟨hc,hr.put (.sc _) (pg hd ho),by rw [put_defers];exact cA⟩
 intro is aQ;exact key l1 is hm aQ L st g a w h hh
theorem avj {b0:Nat} {K:Nat->Nat->Prop} {w:World} (hb:b0<=w.heap.size) (hK:∀ b j,K b j->b<w.heap.size):Ok (gK b0 K) .nil w:=
 ⟨hb,fun o x hx=>(by rw [Tr.get_nil] at hx;cases hx),fun o o' x x' b base base' _ hx=>(by rw [Tr.get_nil] at hx;cases hx),hK⟩
theorem bt.aCu {b0:Nat} {K K':Nat->Nat->Prop} {w:World} {l:List AV} {vs:List Value} (h:bt (gK b0 K) w l vs) (hf:∀ a ∈ l,a.fresh=true) (nJ:∀ b j,K b j->b0<=b->K' b j):bt (gK b0 K') w l vs:=
 ⟨h.1,fun i a v ha hv=>(h.2 i a v ha hv).fresh (g:=gK b0 K') (hf a (zm ha)) (zza _) nJ⟩
theorem auj {α:Type} (C:di α) {b0 b1:Nat} {K K':Nat->Nat->Prop} {w:World} {x : α} {vs:List Value} (hb:b0<=w.heap.size) (hK:∀ b j,K' b j->b<w.heap.size) (nJ:∀ b j,K b j->b0<=b->K' b j) (hr:bt (gK b0 K) w (C.cells true x) vs):bt (gK b1 K') w (C.cells false x) vs:=
 C.ok (fr:=false) (avj hb hK) (u9.nil _ _ (fun _ _ h=>h)) (fun e=>by cases e) (hr.aCu (C.fr x) nJ) (C.rt false .nil true x (fun e=>by cases e))
theorem Qv {α:Type} (C:di α) {b0 b1:Nat} {K K':Nat->Nat->Prop} {w:World} {x : α} {v:Value} (hb:b0<=w.heap.size) (hK:∀ b j,K' b j->b<w.heap.size) (nJ:∀ b j,K b j->b0<=b->K' b j) (hr:Rel (gK b0 K) w (C.val true x) v):Rel (gK b1 K') w (C.val false x) v:=
 C.J3 (fr:=false) (avj hb hK) (u9.nil _ _ (fun _ _ h=>h)) (fun e=>by cases e) (hr.fresh (g:=gK b0 K') (aa5 C x) (zza _) nJ) (C.Me false .nil true x (fun e=>by cases e))
theorem aot {g:Gh} {w:World} {b:Nat} {cs:Array Value} {e:TypeId} {fr:Nat × Nat} {cells:List AV} (h:w.heap[b]? = some (.cells cs e fr)) (hK:∀ j,g.K b j) (hr:bt g w cells cs.toList):Rel g w (.fe cells) (.pointer (some ⟨b,0,none⟩)):=by
 have hlen:cs.size=cells.length:=by rw [<- hr.1];simp
 refine .fe _ b 0 (fun j=>cs.getD j undef) (fun j a ha=>⟨hK _,?_⟩) (fun j a ha=>?_)
 ·rw [Nat.zero_add];exact cell_of h (by have:=(zg.1 ha).1;omega)
 ·have hj:=(zg.1 ha).1;refine hr.2 j a _ ha ?_;rw [zz2,zze,zz3 zO];rfl
theorem bt.apn {b0 b1:Nat} {K K':Nat->Nat->Prop} {w w':World} {l:List AV} {vs:List Value} (hb0:∀ b,b0<=b->(∀ j,K b j)->b1<=b) (hK:∀ b j,K b j->K' b j) (hh:∀ b j,K b j->w'.heap[b]? = w.heap[b]?) (h:bt (gK b0 K) w l vs):bt (gK b1 K') w' l vs:=
 ⟨h.1,fun i a v ha hv=>(h.2 i a v ha hv).stay hb0 hK hh⟩
theorem bf.calls {P:Program} [KP P] {f:Nat} {args:List AV} {r:AV} (h:bf P f args r) (he:nq P f=true) {K:Nat->Nat->Prop} {w:World} {vs:List Value} (hK:∀ b j,K b j->b<w.heap.size) (hrel:bt (gK w.heap.size K) w args vs) :
 Calls P f vs.toArray w (fun e w'=>∃ v,e = .returned v/\k5 w w'/\Rel (gK w.heap.size (v9 K w w')) w' r v):=by
 rcases h K w vs hK hrel with ⟨v,h1,_⟩|⟨_,h2⟩
 ·rw [sq he] at h1;cases h1
 ·exact h2
theorem anb {cs:Array Value} (h:cs.size=3):∃ a b c,cs.toList=[a,b,c]:=by
 have h2:cs.toList.length=3:=by simpa using h
 match hc:cs.toList,h2 with
 | [a,b,c],_=>exact ⟨a,b,c,rfl⟩
end
variable [TK]
theorem atu {n:Nat} {ts:List Nat} {z x y:Array Value} {d:Nat} (h:tl (uu n ts z) x) (hs:y.size=x.size) (hn:∀ t,some d≠some t->y.getD t undef=x.getD t undef) (hd:d ∉ ts):tl (uu n ts z) y:=by refine ⟨by rw [hs];exact h.size,fun p hp=>?_⟩;have h2:=h.fix p hp;obtain ⟨t,ht,rfl⟩:=zyj.1 hp;rw [hn t (fun e=>hd (by cases e;exact ht))];exact h2
theorem afc {g:Gh} {w:World} {tmps:Array Value} {t:Nat} {x:Value} (h:tmps.getD t undef=x):Rel g w (.sc x) (tmps.getD t undef):=by rw [h];exact .sc _
theorem aB6 {cs:Array Value} (h:cs.size=2):∃ a b,cs.toList=[a,b]:=by
 have h2:cs.toList.length=2:=by simpa using h
 match hc:cs.toList,h2 with
 | [a,b],_=>exact ⟨a,b,rfl⟩
theorem k5.ph {w w':World} (q:k5 w w') (S:Nat->Prop) (m:Nat) (xx:Bool):gp S m xx w w':=.quiet S m xx q.size q.os q.tape q.output q.heap
end Go.Vm
section
namespace Go.Proofs.YtgencolcibpcaaaGreat
open Go.Vm
theorem M5 (xs:List az) (σ:Nat->Option Nat):AV.da.go σ (cellsOf ai true xs)=cellsOf ai true xs:=by
 induction xs with
 |nil=>rfl
 |cons x xs ih=>
  have e:cellsOf ai true (x::xs)=ai.cells true x++cellsOf ai true xs:=rfl;rw [e,gv,zzw,<- gv,<- gv,ih];have h:=Ji ai σ true x;rw [jj] at h;simp only [AV.da,AV.agg.injEq] at h;rw [adj,h]
noncomputable def og {α:Type} (a b : α):Bool:=@decide (a=b) (Classical.propDecidable _)
theorem G9 {α:Type} (a : α):og a a=true:=by unfold og;exact @zp _ (Classical.propDecidable _) rfl
theorem nj {α:Type} {a b : α} (h:a≠b):og a b=false:=by unfold og;exact @zq _ (Classical.propDecidable _) h
theorem I2 {α:Type} {a b : α} (h:a=b):og a b=true:=by rw [h];exact G9 b
theorem Ed {α:Type} {a b : α} (h:og a b=true):a=b:=by unfold og at h;exact @of_decide_eq_true _ (Classical.propDecidable _) h
theorem Ay {α:Type} {a b : α} (h:og a b=false):a≠b:=fun q=>by rw [q,G9] at h;cases h
theorem A2 {α:Type} {l m:List α} {i:Nat} {c d : α} (h:l.take i=m.take i) (hc:l[i]? = some c) (hd:m[i]? = some d) (e:c=d):l.take (i+1)=m.take (i+1):=by obtain ⟨h1,rfl⟩:=zg.1 hc;obtain ⟨h2,rfl⟩:=zg.1 hd;rw [zz5 h1,zz5 h2,h,e]
theorem Ec {α:Type} {l m:List α} {i:Nat} (h:l.take i=m.take i) (hi:¬ i<l.length) (hl:l.length=m.length):l=m:=by rwa [zzp zO,zzp zO] at h
theorem yf {α:Type} {l m:List α} {i:Nat} {c d : α} (hc:l[i]? = some c) (hd:m[i]? = some d) (e:c≠d):l≠m:=fun q=>by rw [q,hd] at hc;cases hc;exact e rfl
theorem Eh {α:Type} {l m:List α} (h:(l.length:Int)≠m.length):l≠m:=fun q=>h (by rw [q])
theorem Ei {α:Type} {l m:List α} {i:Nat} (hl:l.length=m.length) (hi:i<l.length):∃ d,m[i]? = some d:=⟨m[i],zh zO⟩
theorem ahz (a b:Name) (ha:a.length<=16777216):wl PP [] 0 (Tryz.f92.body.getD .skip) (c8 PP Tryz.f92.results.toList (fun r st=>(r1 bk).get true st.h r=some (og a b))) (cg 0 [ak.val false a,ak.val false b]) (bh []):=by
 have hq:∀ a b c d,ga a b c=d->ga a b c=d:=fun _ _ _ _ h=>h
 unfold Tryz.f92;simp only [bw];simp only [↓wR,zT,simprocAttr];rw [dg];refine ⟨fun ⟨h,e⟩=>?_,fun ⟨h,e⟩=>?_⟩
 ·simp only [↓wR,zT,simprocAttr,h,nj (Eh e)]
 have hl:a.length=b.length:=zO;simp only [↓wR,zT,simprocAttr,h];refine dq [0,1,5] (fun (i:Nat)=>[zn a,zn b,zi i]) (fun _=>[]) (fun i=>i<=a.length/\a.take i=b.take i) (fun i=>a.length - i) 0 ⟨zzb _,rfl⟩ zS zS ?_;rintro i ⟨hi,hx⟩;simp only [↓wR,zT,simprocAttr];rw [bg];refine ⟨fun h2=>?_,fun h2=>?_⟩
 ·obtain ⟨c,hc,aF,hlt⟩:=du (zp h2);obtain ⟨d,hd⟩:=Ei hl hlt;simp only [↓wR,zT,simprocAttr,h2];refine ⟨zK,.inl ?_⟩;simp only [↓wR,zT,simprocAttr,hc,hd];refine ⟨by apply hq;kernel_rfl,?_⟩;by_cases e2:c=d
  ·repeat (first|simp only [↓wR,zT,simprocAttr,zp e2]|simp (disch:=omega) only [zW])
   exact ⟨i+1,⟨hlt,A2 hx hc hd e2⟩,zO,zF⟩
  ·simp only [↓wR,zT,simprocAttr,zq e2,nj (yf hc hd e2)]
 ·simp only [↓wR,zT,simprocAttr,h2,I2 (Ec hx zO hl)]
noncomputable def xo (x:Name × Name × Unit):Option AV:=if x.1.length<=16777216 then some ((r1 bk).E true (og x.1 x.2.1)) else none
theorem I8 (x:Name × Name × Unit) (r:AV) (h:xo x=some r):bf PP 92 ((aC ak (aC ak a0)).E x) r:=by obtain ⟨hc,rfl⟩:=zI h;exact aw (ar.nil PP) Tryz.func92 zK zK zK zL (r1 bk) true (og x.1 x.2.1) (ahz x.1 x.2.1 hc)
noncomputable abbrev abt:zE:=(92,true,ct (aC ak (aC ak a0)) xo)
theorem akp (a b:Name) (ha:a.length<=16777216):wl PP [abt] 0 (Tryz.f33.body.getD .skip) (c8 PP Tryz.f33.results.toList (fun r st=>(r1 bk).get true st.h r=some (og a b))) (cg 0 [ak.val false a,ak.val false b]) (bh []):=by unfold Tryz.f33;simp only [bw];simp only [↓wR,zT,simprocAttr,xo,ha]
noncomputable def s7 (x:Name × Name × Unit):Option AV:=if x.1.length<=16777216 then some ((r1 bk).E true (og x.1 x.2.1)) else none
theorem xu (x:Name × Name × Unit) (r:AV) (h:s7 x=some r):bf PP 33 ((aC ak (aC ak a0)).E x) r:=by obtain ⟨hc,rfl⟩:=zI h;exact aw (ar.cons (aq I8) (ar.nil PP)) Tryz.func33 zK zK zK zL (r1 bk) true (og x.1 x.2.1) (akp x.1 x.2.1 hc)
noncomputable abbrev Em:zE:=(33,true,ct (aC ak (aC ak a0)) s7)
theorem ahc (a b:List UInt8):wl PP [] 0 (Tryz.f115.body.getD .skip) (c8 PP Tryz.f115.results.toList (fun r st=>(r1 bk).get true st.h r=some (og a b))) (cg 0 [(br bq).val false a,(br bq).val false b]) (bh []):=by
 unfold Tryz.f115;simp only [j5];simp only [↓wR,zT,simprocAttr]
 congr 1
 by_cases e:a=b
 ·rw [I2 e,e];exact zp rfl
 ·rw [nj e];exact zq fun q=>e (by injection q with q;simpa using q)
noncomputable def Ii (x:List UInt8 × List UInt8 × Unit):Option AV:=some ((r1 bk).E true (og x.1 x.2.1))
theorem Wt (x:List UInt8 × List UInt8 × Unit) (r:AV) (h:Ii x=some r):bf PP 115 ((aC (br bq) (aC (br bq) a0)).E x) r:=by cases h;exact aw (ar.nil PP) Tryz.func115 zK zK zK zL (r1 bk) true (og x.1 x.2.1) (ahc x.1 x.2.1)
noncomputable abbrev aoo:zE:=(115,true,ct (aC (br bq) (aC (br bq) a0)) Ii)
theorem Fz {a b:cj} (h:¬ (a.names=b.names/\a.nums=b.nums/\a.texts=b.texts/\a.raw=b.raw)):a≠b:=fun q=>h (by rw [q];exact ⟨rfl,rfl,rfl,rfl⟩)
theorem aCh {a b:cj} (h1:a.names=b.names) (h2:a.nums=b.nums) (h3:a.texts=b.texts) (h4:a.raw=b.raw):a=b:=by cases a;cases b;simp_all
set_option maxHeartbeats 4000000 in
theorem ae3 (a b:cj) (ha:c7 a):wl PP [abt,Em,aoo] 0 (Tryz.f64.body.getD .skip) (c8 PP Tryz.f64.results.toList (fun r st=>(r1 bk).get true st.h r=some (og a b))) (cg 0 [bc.val false a,bc.val false b]) (bh []):=by
 have kA:=ha.lens;have hq:∀ a b c d,ga a b c=d->ga a b c=d:=fun _ _ _ _ h=>h
 unfold Tryz.f64;simp only [gq];simp only [↓wR,zT,simprocAttr];rw [dg];refine ⟨fun ⟨h1,e1⟩=>?_,fun ⟨h1,e1⟩=>?_⟩
 ·simp only [↓wR,zT,simprocAttr,h1,nj (Fz fun q=>Eh e1 q.1)]
 simp only [↓wR,zT,simprocAttr,h1];rw [dg];refine ⟨fun ⟨h2,e2⟩=>?_,fun ⟨h2,e2⟩=>?_⟩
 ·simp only [↓wR,zT,simprocAttr,h2,nj (Fz fun q=>Eh e2 q.2.1)]
 simp only [↓wR,zT,simprocAttr,h2,xo,kA.2.2.1];cases h3:og a.texts b.texts with
 |false=>simp only [↓wR,zT,simprocAttr,nj (Fz fun q=>Ay h3 q.2.2.1)]
 |true=>
 simp only [↓wR,zT,simprocAttr,Ii];cases h4:og a.raw b.raw with
 |false=>simp only [↓wR,zT,simprocAttr,nj (Fz fun q=>Ay h4 q.2.2.2)]
 |true=>
 have eE:a.names.length=b.names.length:=zO;have hl2:a.nums.length=b.nums.length:=zO;simp only [↓wR,zT,simprocAttr];refine dq [2,3,5] (fun (i:Nat)=>[.ptr 0 0,.ptr 1 0,zi i]) (fun _=>[some (.row [zv a.names,zu a.nums,zn a.texts,zw a.raw] 0 2 101),some (.row [zv b.names,zu b.nums,zn b.texts,zw b.raw] 0 2 101)]) (fun i=>i<=a.names.length/\a.names.take i=b.names.take i) (fun i=>a.names.length - i) 0 ⟨zzb _,rfl⟩ zS zS ?_;rintro i ⟨hi,hx⟩;simp only [↓wR,zT,simprocAttr];rw [bg];refine ⟨fun h5=>?_,fun h5=>?_⟩
 ·obtain ⟨c,hc,aF,hlt⟩:=du (zp h5);obtain ⟨d,hd⟩:=Ei eE hlt;have hcl:c.length<=16777216:=by have:=(ha.name c (zm hc));have:=(ja c 0).2;unfold ay at *;omega
  simp only [↓wR,zT,simprocAttr,h5];refine ⟨zK,.inl ?_⟩;simp only [↓wR,zT,simprocAttr,hc,hd,s7,hcl];refine ⟨by apply hq;kernel_rfl,?_⟩;cases e6:og c d with
  |true=>
   repeat (first|simp only [↓wR,zT,simprocAttr]|simp (disch:=omega) only [zW])
   exact ⟨i+1,⟨hlt,A2 hx hc hd (Ed e6)⟩,zO,zF⟩
  |false=>simp only [↓wR,zT,simprocAttr,nj (Fz fun q=>yf hc hd (Ay e6) q.1)]
 have mE:=Ec hx zO eE;simp only [↓wR,zT,simprocAttr,h5];refine dq [2,3,6] (fun (i:Nat)=>[.ptr 0 0,.ptr 1 0,zi i]) (fun _=>[some (.row [zv a.names,zu a.nums,zn a.texts,zw a.raw] 0 2 101),some (.row [zv b.names,zu b.nums,zn b.texts,zw b.raw] 0 2 101)]) (fun i=>i<=a.nums.length/\a.nums.take i=b.nums.take i) (fun i=>a.nums.length - i) 0 ⟨zzb _,rfl⟩ zS zS ?_;clear hi hx h5;rintro i ⟨hi,hx⟩;simp only [↓wR,zT,simprocAttr];rw [bg];refine ⟨fun h5=>?_,fun h5=>?_⟩
 ·obtain ⟨c,hc,aF,hlt⟩:=du (zp h5);obtain ⟨d,hd⟩:=Ei hl2 hlt;simp only [↓wR,zT,simprocAttr,h5];refine ⟨zK,.inl ?_⟩;simp only [↓wR,zT,simprocAttr,hc,hd];refine ⟨by apply hq;kernel_rfl,?_⟩;rw [dg];refine ⟨fun ⟨h6,e6⟩=>?_,fun ⟨h6,e6⟩=>?_⟩
  ·simp only [↓wR,zT,simprocAttr,h6,nj (Fz fun q=>yf hc hd (fun q=>e6 (by rw [q])) q.2.1)]
  ·repeat (first|simp only [↓wR,zT,simprocAttr,h6]|simp (disch:=omega) only [zW])
   exact ⟨i+1,⟨hlt,A2 hx hc hd (UInt32.toNat_inj.1 zO)⟩,zO,zF⟩
 ·simp only [↓wR,zT,simprocAttr,h5,I2 (aCh mE (Ec hx zO hl2) (Ed h3) (Ed h4))]
noncomputable def A6 (x:cj × cj × Unit):Option AV:=if c7 x.1 then some ((r1 bk).E true (og x.1 x.2.1)) else none
theorem Zi (x:cj × cj × Unit) (r:AV) (h:A6 x=some r):bf PP 64 ((aC bc (aC bc a0)).E x) r:=by obtain ⟨hc,rfl⟩:=zI h;exact aw (ar.cons (aq I8) (ar.cons (aq xu) (ar.cons (aq Wt) (ar.nil PP)))) Tryz.func64 zK zK zK zL (r1 bk) true (og x.1 x.2.1) (ae3 x.1 x.2.1 hc)
noncomputable abbrev ar2:zE:=(64,true,ct (aC bc (aC bc a0)) A6)
theorem Jz {a b:az} (h:¬ (a.owner=b.owner/\a.type=b.type/\a.cls=b.cls/\a.jb=b.jb/\a.data=b.data)):a≠b:=fun q=>h (by rw [q];exact ⟨rfl,rfl,rfl,rfl,rfl⟩)
theorem aD5 {a b:az} (h1:a.owner=b.owner) (h2:a.type=b.type) (h3:a.cls=b.cls) (h4:a.jb=b.jb) (h5:a.data=b.data):a=b:=by cases a;cases b;simp_all
set_option maxHeartbeats 4000000 in
theorem ajm (a b:az) (ha:dh a):wl PP [Em,ar2] 0 (Tryz.f16.body.getD .skip) (c8 PP Tryz.f16.results.toList (fun r st=>(r1 bk).get true st.h r=some (og a b))) (cg 0 [ai.val false a,ai.val false b]) (bh []):=by
 have bY:a.owner.length<=16777216:=by have:=ha.owner;have:=(ja a.owner 0).2;unfold ay at *;omega
 have rJ:=ha.data.len;have hq:∀ a b c d,ga a b c=d->ga a b c=d:=fun _ _ _ _ h=>h
 unfold Tryz.f16;simp only [jj];simp only [↓wR,zT,simprocAttr,s7,bY];cases h1:og a.owner b.owner with
 |false=>simp only [↓wR,zT,simprocAttr,nj (Jz fun q=>Ay h1 q.1)]
 |true=>
 simp only [↓wR,zT,simprocAttr];rw [dg];refine ⟨fun ⟨h2,e2⟩=>?_,fun ⟨h2,e2⟩=>?_⟩
 ·simp only [↓wR,zT,simprocAttr,h2,nj (Jz fun q=>e2 (by rw [q.2.1]))]
 simp only [↓wR,zT,simprocAttr,h2];rw [dg];refine ⟨fun ⟨h3,e3⟩=>?_,fun ⟨h3,e3⟩=>?_⟩
 ·simp only [↓wR,zT,simprocAttr,h3,nj (Jz fun q=>e3 (by rw [q.2.2.1]))]
 simp only [↓wR,zT,simprocAttr,h3];rw [dg];refine ⟨fun ⟨h4,e4⟩=>?_,fun ⟨h4,e4⟩=>?_⟩
 ·simp only [↓wR,zT,simprocAttr,h4,nj (Jz fun q=>e4 (by rw [q.2.2.2.1]))]
 simp only [↓wR,zT,simprocAttr,h4];rw [dg];refine ⟨fun ⟨h5,e5⟩=>?_,fun ⟨h5,e5⟩=>?_⟩
 ·simp only [↓wR,zT,simprocAttr,h5,nj (Jz fun q=>Eh e5 q.2.2.2.2)]
 have eE:a.data.length=b.data.length:=zO;simp only [↓wR,zT,simprocAttr,h5];refine dq [2,3,5] (fun (i:Nat)=>[.ptr 0 0,.ptr 1 0,zi i]) (fun _=>[(zY a),(zY b)]) (fun i=>i<=a.data.length/\a.data.take i=b.data.take i) (fun i=>a.data.length - i) 0 ⟨zzb _,rfl⟩ zS zS ?_;rintro i ⟨hi,hx⟩;simp only [↓wR,zT,simprocAttr];rw [bg];refine ⟨fun h6=>?_,fun h6=>?_⟩
 ·obtain ⟨c,hc,aF,hlt⟩:=du (zp h6);obtain ⟨d,hd⟩:=Ei eE hlt;have hcs:=ha.data.mem c (zm hc);simp only [↓wR,zT,simprocAttr,h6];refine ⟨zK,.inl ?_⟩;simp only [↓wR,zT,simprocAttr,hc,hd,A6,hcs];refine ⟨by apply hq;kernel_rfl,?_⟩;cases e7:og c d with
  |true=>
   repeat (first|simp only [↓wR,zT,simprocAttr]|simp (disch:=omega) only [zW])
   exact ⟨i+1,⟨hlt,A2 hx hc hd (Ed e7)⟩,zO,zF⟩
  |false=>simp only [↓wR,zT,simprocAttr,nj (Jz fun q=>yf hc hd (Ay e7) q.2.2.2.2)]
 ·simp only [↓wR,zT,simprocAttr,h6,I2 (aD5 (Ed h1) (UInt16.toNat_inj.1 zO) (UInt16.toNat_inj.1 zO) (UInt32.toNat_inj.1 zO) (Ec hx zO eE))]
noncomputable def Ap (x:az × az × Unit):Option AV:=if dh x.1 then some ((r1 bk).E true (og x.1 x.2.1)) else none
theorem Mh (x:az × az × Unit) (r:AV) (h:Ap x=some r):bf PP 16 ((aC ai (aC ai a0)).E x) r:=by obtain ⟨hc,rfl⟩:=zI h;exact aw (ar.cons (aq xu) (ar.cons (aq Zi) (ar.nil PP))) Tryz.func16 zK zK zK zL (r1 bk) true (og x.1 x.2.1) (ajm x.1 x.2.1 hc)
noncomputable abbrev Ts:zE:=(16,true,ct (aC ai (aC ai a0)) Ap)
theorem aed (a b:List az) (ha:se a):wl PP [Ts] 0 (Tryz.f17.body.getD .skip) (c8 PP Tryz.f17.results.toList (fun r st=>(r1 bk).get true st.h r=some (og a b))) (cg 0 [(br ai).val false a,(br ai).val false b]) (bh []):=by
 have dM:=ha.1;have hq:∀ a b c d,ga a b c=d->ga a b c=d:=fun _ _ _ _ h=>h
 unfold Tryz.f17;simp only [j5];simp only [↓wR,zT,simprocAttr];rw [dg];refine ⟨fun ⟨h,e⟩=>?_,fun ⟨h,e⟩=>?_⟩
 ·simp only [↓wR,zT,simprocAttr,h,nj (Eh e)]
 have hl:a.length=b.length:=zO;simp only [↓wR,zT,simprocAttr,h];refine dq [0,1,5] (fun (i:Nat)=>[zs a,zs b,zi i]) (fun _=>[]) (fun i=>i<=a.length/\a.take i=b.take i) (fun i=>a.length - i) 0 ⟨zzb _,rfl⟩ zS zS ?_;rintro i ⟨hi,hx⟩;simp only [↓wR,zT,simprocAttr];rw [bg];refine ⟨fun h2=>?_,fun h2=>?_⟩
 ·obtain ⟨c,hc,aF,hlt⟩:=du (zp h2);obtain ⟨d,hd⟩:=Ei hl hlt;have hcs:=ha.2 c (zm hc);simp only [↓wR,zT,simprocAttr,h2];refine ⟨zK,.inl ?_⟩;simp only [↓wR,zT,simprocAttr,hc,hd,Ap,hcs];refine ⟨by apply hq;kernel_rfl,?_⟩;cases e7:og c d with
  |true=>
   repeat (first|simp only [↓wR,zT,simprocAttr]|simp (disch:=omega) only [zW])
   exact ⟨i+1,⟨hlt,A2 hx hc hd (Ed e7)⟩,zO,zF⟩
  |false=>simp only [↓wR,zT,simprocAttr,nj (yf hc hd (Ay e7))]
 ·simp only [↓wR,zT,simprocAttr,h2,I2 (Ec hx zO hl)]
noncomputable def ux (x:List az × List az × Unit):Option AV:=if se x.1 then some ((r1 bk).E true (og x.1 x.2.1)) else none
theorem Dp (x:List az × List az × Unit) (r:AV) (h:ux x=some r):bf PP 17 ((aC (br ai) (aC (br ai) a0)).E x) r:=by obtain ⟨hc,rfl⟩:=zI h;exact aw (ar.cons (aq Mh) (ar.nil PP)) Tryz.func17 zK zK zK zL (r1 bk) true (og x.1 x.2.1) (aed x.1 x.2.1 hc)
noncomputable abbrev E2:zE:=(17,true,ct (aC (br ai) (aC (br ai) a0)) ux)
def aGt (r:Og):Prop:=se r.answer/\(se r.authority/\se r.K7)
instance (r:Og):Decidable (aGt r):=inferInstanceAs (Decidable (_/\_))
theorem aae {s y:az} {n:Name} (hy:nl y<=8388608) (ho:s.owner=n\/nl s<=8388608) (hd:s.data=y.data) (hn:bp n<=4194304):dh s:=by
 rcases ho with h|h
 ·unfold dh nl;unfold nl at hy;rw [h,hd];omega
 ·unfold dh;omega
theorem Uj {z:au} (hz:gh nl z.aj<=8388608) {s:az} (hs:s ∈ z.aj):nl s<=8388608:=by have h1:nl s<gh nl z.aj:=Co hs;omega
theorem adi {z:au} (hz:bj z) (h:dy z=0):dh (qx z):=by obtain ⟨s,hs⟩:=O2 h;have h1:=hz.set s (Fk hs).1;unfold qx;rw [hs];exact h1
theorem auf {z:au} (hg:Fo z):∀ (r pre:List Name),(qm z pre r).length<=r.length * 2:=by
 intro r
 induction r with
 |nil=>intro pre;simp [qm]
 |cons n r ih=>
  intro pre;have h1:=ih (pre++[n]);have h2:(z.aj.filter (qi n)).length<=2:=by
   rw [ajf hg,za];have a1:(gj 1 (ew z n)).length<=1:=by rw [Aw (C9 hg n) (by decide)];cases List.find? _ _<;>simp
   have a2:(gj 28 (ew z n)).length<=1:=by rw [Aw (C9 hg n) (by decide)];cases List.find? _ _<;>simp
   omega
  rw [qm,za,List.length_cons]
  split
  ·simp;omega
  ·omega
theorem amd {a b:au} (h:¬ (a.origin=b.origin/\a.aj=b.aj)):a≠b:=fun q=>h (by rw [q];exact ⟨rfl,rfl⟩)
theorem aBc {a b:au} (h1:a.origin=b.origin) (h2:a.aj=b.aj):a=b:=by cases a;cases b;simp_all
theorem ago (a b:au) (ha:bj a):wl PP [Em,E2] 0 (Tryz.f39.body.getD .skip) (c8 PP Tryz.f39.results.toList (fun r st=>(r1 bk).get true st.h r=some (og a b))) (cg 0 [be.val false a,be.val false b]) (bh []):=by
 have h1:=qc ha.origin;unfold Tryz.f39;simp only [dr];simp only [↓wR,zT,simprocAttr,s7,h1];cases h3:og a.origin b.origin with
 |false=>simp only [↓wR,zT,simprocAttr,nj (amd fun q=>Ay h3 q.1)]
 |true=>
 simp only [↓wR,zT,simprocAttr,ux,ha.mid];cases h4:og a.aj b.aj with
 |false=>simp only [↓wR,zT,simprocAttr,nj (amd fun q=>Ay h4 q.2)]
 |true=>simp only [↓wR,zT,simprocAttr,I2 (aBc (Ed h3) (Ed h4))]
noncomputable def Bw (x:au × au × Unit):Option AV:=if bj x.1 then some ((r1 bk).E true (og x.1 x.2.1)) else none
theorem X1 (x:au × au × Unit) (r:AV) (h:Bw x=some r):bf PP 39 ((aC be (aC be a0)).E x) r:=by obtain ⟨hc,rfl⟩:=zI h;exact aw (ar.cons (aq xu) (ar.cons (aq Dp) (ar.nil PP))) Tryz.func39 zK zK zK zL (r1 bk) true (og x.1 x.2.1) (ago x.1 x.2.1 hc)
noncomputable abbrev Zp:zE:=(39,true,ct (aC be (aC be a0)) Bw)
theorem auk {z:au} (h:Oi z=true):z.aj.length<=40/\∀ x ∈ z.aj,x.data.length<=20:=by unfold Oi Yq at h;rw [zzh,zz8,decide_eq_true_eq] at h;refine ⟨zO,fun x hx=>?_⟩;have:=h.1 x hx;simp at this;omega
end Go.Proofs.YtgencolcibpcaaaGreat
end
namespace Go.Vm
variable [TK]
theorem at9 {P:Program} [KP P] {f:Nat} {args:List AV} {m:M AV}
 (h:∀ st r aA,m st=some (r,aA)->(∀ σ,AV.da.go σ args=args)/\∃ cells et n sz,r = .sl st.nx 0 n sz/\aA = { st with h:=Tr.set depth st.h st.nx (some (.row cells 0 0 et)),nx:=st.nx+1 }/\st.nx<=c9/\(∀ σ,AV.da.go σ cells=cells)/\k8 P f args (bh []) (fun r' pH=>r' = .sl 0 0 n sz/\pH=bh [some (.row cells 0 0 et)])):Ca P f args m:=by
 intro g st w vs r aA aB bF hrel hm;obtain ⟨aL,cells,et,n,sz,rfl,rfl,aD,eY,hc⟩:=h st r aA hm;have hcl:Qa cells:=eY _;have bM:g.inj st.nx=none:=bF st.nx (zza _) (Nat.lt_succ_self _);have hgn:∀ i,(g.da []).inj i=none:=fun i=>by simp [Gh.da]
 have hnil:∀ i x,(bh []).h.get i=some x->False:=fun i x hx=>by rw [Dd _ (zB rfl)] at hx;simp at hx
 have bW:∀ i x,(bh [some (.row cells 0 0 et)]).h.get i=some x->i=0/\x = .row cells 0 0 et:=fun i x hx=>by
  rw [Dd _ (zB rfl)] at hx
  match i,hx with
  |0,hx=>exact ⟨rfl,by simpa using hx.symm⟩
  |i+1,hx=>simp at hx
 have fD:Ok (g.da []) (bh []).h w:=⟨aB.size,fun i x hx=>(hnil i x hx).elim,fun i j x y b base base' _ hx _ _ _=>(hnil i x hx).elim,aB.K⟩;have fA:bt (g.da []) w args vs:=by
  have:bt (g.da []) w (AV.da.go (fun _=>none) args) vs:=by
   rw [gv];refine ⟨by rw [zzo];exact hrel.1,fun i a v ha hv=>?_⟩;rw [zzj] at ha;cases hx:args[i]? with
   |none=>rw [hx] at ha;cases ha
   |some a0=>rw [hx] at ha;cases ha;exact (hrel.2 i a0 v hx hv).da (N:=[]) (fun o p e=>by cases e)
  rw [aL] at this;exact this
 have eV:∀ o,(Tr.set depth st.h st.nx (some (bo.row cells 0 0 et))).get o=if o=st.nx then some (.row cells 0 0 et) else st.h.get o:=fun o=>i4 _ _ _ _ aD
 have key:∀ v w' g1,Step (g.da []) (bh []).h w 0 1 g1 (bh [some (.row cells 0 0 et)]).h w'->Ok g1 (bh [some (.row cells 0 0 et)]).h w'->Rel g1 w' (.sl 0 0 n sz) v ->
  ∃ g',Step g st.h w st.nx (st.nx+1) g' (Tr.set depth st.h st.nx (some (.row cells 0 0 et))) w'/\Ok g' (Tr.set depth st.h st.nx (some (.row cells 0 0 et))) w'/\Rel g' w' (.sl st.nx 0 n sz) v:=by
  intro v w' g1 q sW hr;have hb0:g1.b0=g.b0:=q.ext.b0;have mD:∀ (i b base:Nat),((bh []).h.get i).isSome=true->(g.da []).inj i≠some (b,base):=fun i b base h1=>by obtain ⟨x,hx⟩:=zzv.1 h1;exact (hnil i x hx).elim
  have hK:∀ b j,g1.K b j->g.K b j\/w.heap.size<=b:=fun b j hj=>by
   rcases q.n8 b j hj with h1|h1|⟨i,base,h1,_⟩
   ·exact .inl h1
   ·exact .inr h1
   ·obtain ⟨x,hx⟩:=zzv.1 h1;exact (hnil i x hx).elim
  have hfr:∀ b,b<w.heap.size->w'.heap[b]? = w.heap[b]? := fun b hb=>q.frame b hb (fun i base h1 h2=>mD i b base h1 h2)
  have ln:∀ b base,g1.inj 0=some (b,base)->w.heap.size<=b:=fun b base hi=>by
   rcases q.own 0 b base (by rw [Dd _ (zB rfl)];rfl) hi with h1|⟨i,base',h1,_⟩
   ·exact h1
   ·obtain ⟨x,hx⟩:=zzv.1 h1;exact (hnil i x hx).elim
  obtain ⟨g',oP⟩:∃ g':Gh,g' = { g with K:=g1.K,inj:=fun o=>if o=st.nx then g1.inj 0 else g.inj o }:=⟨_,rfl⟩;have ia:g'.inj st.nx=g1.inj 0:=by rw [oP];exact if_pos rfl
  have ib:∀ o,o≠st.nx->g'.inj o=g.inj o:=fun o ho=>by rw [oP];exact if_neg ho
  have k':g'.K=g1.K:=by rw [oP]
  have b':g'.b0=g.b0:=by rw [oP]
  have hE:Ext g w g' w':=⟨b',fun o p hp=>by
   by_cases e:o=st.nx
   ·rw [e,bM] at hp;cases hp
   ·rw [ib o e];exact hp,fun b j h=>by rw [k'];exact q.ext.K b j h,q.ext.cell,q.ext.sv,q.ext.lp,q.ext.whole⟩
  have hL:P2 g1 w' g' w':=P2.more (b'.trans hb0.symm) (fun b j h=>by rw [k'];exact h);refine ⟨g',⟨hE,q.size,q.os,q.tape,q.output,fun b hb _=>hfr b hb,fun o ho hn=>?_,fun o b base h1 h2=>?_,fun b j hj=>?_⟩,⟨by rw [b'];exact zzu aB.size q.size,fun o x hx=>?_,fun o o' x x' b base base' hne hx hx' hi hi'=>?_,fun b j hj=>sW.K b j (by rw [k'] at hj;exact hj)⟩,?_⟩
  ·rw [ib o (fun e=>hn ⟨zO,zO⟩)];exact ho
  ·by_cases e:o=st.nx
   ·rw [e,ia] at h2;exact .inl (ln b base h2)
   ·rw [eV,if_neg e] at h1;rw [ib o e] at h2;exact .inr ⟨o,base,h1,h2⟩
  ·rw [k'] at hj;rcases hK b j hj with h1|h1
   ·exact .inl h1
   ·exact .inr (.inl h1)
  ·rw [eV] at hx;by_cases e:o=st.nx
   ·rw [if_pos e] at hx;cases hx;subst e;have:=sW.mn 0 (.row cells 0 0 et) (by rw [Dd _ (zB rfl)];rfl);refine this.imp (fun z=>⟨by rw [ia];exact z.1,z.2⟩) ?_;rintro ⟨b,base,z1,z2,z3⟩;exact ⟨b,base,by rw [ia];exact z1,by rw [b',<- hb0];exact z2,at7 hcl hL rfl (fun j hj=>by rw [k'] at hj;exact hj) z3⟩
   ·rw [if_neg e] at hx;refine (aB.mn o x hx).imp (fun z=>⟨by rw [ib o e];exact z.1,z.2⟩) ?_;rintro ⟨b,base,z1,z2,z3⟩;refine ⟨b,base,by rw [ib o e];exact z1,by rw [b'];exact z2,z3.ext hE (hfr b z3.lt) (fun j hj=>?_)⟩;rw [k'] at hj;rcases hK b j hj with h1|h1
    ·exact h1
    ·have:=z3.lt;omega
  ·rw [eV] at hx hx';by_cases e:o=st.nx
   ·by_cases e':o'=st.nx
    ·exact (hne (e.trans e'.symm)).elim
    ·rw [if_neg e'] at hx';rw [ib o' e'] at hi';rw [e,ia] at hi;have h1:=ln b base hi;obtain ⟨b2,aI,z1,_,z3⟩:=aB.obj o' x' hx' ⟨_,hi'⟩;rw [hi'] at z1;cases z1;have:=z3.lt;omega
   ·by_cases e':o'=st.nx
    ·rw [if_neg e] at hx;rw [ib o e] at hi;rw [e',ia] at hi';have h1:=ln b base' hi';obtain ⟨b2,aI,z1,_,z3⟩:=aB.obj o x hx ⟨_,hi⟩;rw [hi] at z1;cases z1;have:=z3.lt;omega
    ·rw [if_neg e] at hx;rw [if_neg e'] at hx';rw [ib o e] at hi;rw [ib o' e'] at hi';exact aB.sep o o' x x' b base base' hne hx hx' hi hi'
  ·cases hr with
   |sl _ _ _ _ b base cap hi aK hmx hroom=>exact .sl st.nx 0 n sz b base cap (by rw [ia];exact hi) aK hmx hroom
   |r9 _ _ _ a=>exact .r9 _ _ _ a
   |tg _ _ _=>exact .tg _ _ _
 rcases hc (g.da []) w vs fD (fun o _=>hgn o) fA with ⟨v,w',g',r1,gi,q1,⟨rfl,rfl⟩,q3,q4,q5,q6⟩|⟨q1,q2⟩
 ·obtain ⟨g2,c1,c2,c3⟩:=key v w' g' q4 q5 q6;exact .inl ⟨v,w',g2,q1,c1,c2,c3⟩
 ·refine .inr ⟨q1,q2.mono ?_⟩;rintro e w' ⟨v,g',r1,gi,rfl,⟨rfl,rfl⟩,q3,q4,q5,q6⟩;obtain ⟨g2,c1,c2,c3⟩:=key v w' g' q4 q5 q6;exact ⟨v,g2,rfl,c1,c2,c3⟩
end Go.Vm
section
namespace Go.Proofs.YtgencolcibpcaaaGreat
open Go.Vm
theorem anz (l:Bool) (n:Name) (hl:n.length<=16777216):k8 PP 73 [.vl l 1 (n.map (ah.val false))] (bh []) (fun r aA=>r = .sl 0 0 n.length 1/\aA=bh [some (.row ((n).map (ah.val false)) 0 0 9)]):=by have aD:n.length * 16<=140737488355328:=zO;refine ed _ rfl ?_ (fun r aA h=>h);refine cx (T:=[]) (ar.nil PP) mixed Tryz.func73 rfl zK zK zK zK ?_;unfold Tryz.f73;simp only [↓wR,zT,simprocAttr,aD,jl,jd,iy]
theorem ai1 (n:Name) (σ:Nat->Option Nat):AV.da.go σ (n.map (ah.val false))=n.map (ah.val false):=by
 induction n with
 |nil=>rfl
 |cons a n ih=>rw [List.map_cons,gv,List.map_cons,<- gv,ih];rfl
noncomputable def J4 (args:List AV):M AV:=fun st=>open Classical in
 if h:∃ p:Bool × Name,args=[.vl p.1 1 (p.2.map (ah.val false))]/\p.2.length<=16777216/\st.nx<=c9 then some (.sl st.nx 0 h.choose.2.length 1,{ st with h:=Tr.set depth st.h st.nx (some (.row ((h.choose.2).map (ah.val false)) 0 0 9)),nx:=st.nx+1 }) else none
theorem str_inj {a b:ByteArray} (h:ah.val false a=ah.val false b):a=b:=by rw [A8,A8] at h;cases h;rfl
theorem aav:∀ {m n:Name},m.map (ah.val false)=n.map (ah.val false)->m=n
 | [],[],_=>rfl
 | [],b::n,h=>by cases h
 |a::m,[],h=>by cases h
 |a::m,b::n,h=>by rw [List.map_cons,List.map_cons] at h;rw [str_inj (List.cons.inj h).1,aav (List.cons.inj h).2]
theorem avg (l:Bool) {n:Name} {st:St} (hl:n.length<=16777216) (hx:st.nx<=c9):J4 [.vl l 1 (n.map (ah.val false))] st=some (.sl st.nx 0 n.length 1,{ st with h:=Tr.set depth st.h st.nx (some (.row ((n).map (ah.val false)) 0 0 9)),nx:=st.nx+1 }):=by have h:∃ p:Bool × Name,[AV.vl l 1 (n.map (ah.val false))]=[.vl p.1 1 (p.2.map (ah.val false))]/\p.2.length<=16777216/\st.nx<=c9:=⟨(l,n),rfl,hl,hx⟩;unfold J4;rw [dif_pos h];have e1:=h.choose_spec.1;generalize h.choose=p at e1;obtain ⟨l',n'⟩:=p;simp only at e1;obtain ⟨_,_,e2⟩:=AV.vl.inj (List.cons.inj e1).1;have:=aav e2;subst this;rfl
theorem alm (args:List AV):Ca PP 73 args (J4 args):=by
 refine at9 (fun st r aA hm=>?_);unfold J4 at hm
 split at hm
 ·rename_i h;obtain ⟨e1,e2,e3⟩:=h.choose_spec;generalize h.choose=p at e1 e2 hm;obtain ⟨l,n⟩:=p;simp only [Option.some.injEq,Prod.mk.injEq] at e1 e2 hm;obtain ⟨rfl,rfl⟩:=hm;refine ⟨fun σ=>?_,n.map (ah.val false),_,n.length,1,rfl,rfl,e3,ai1 n,?_⟩
  ·rw [e1];show [AV.da σ (.vl l 1 (n.map (ah.val false)))]=_;simp only [AV.da];rw [ai1]
  ·rw [e1];exact anz l n e2
 ·cases hm
noncomputable abbrev ab0:zE:=(73,true,J4)
def arc (x:th) (r:AV) (h:Tr bo):Prop:=∃ A B,r = .agg [.sc (.int .u8 x.turn),A,B]/\∃ F:List Nat,(F.all fun q=>Nat.ble q c9)=true/\(br ai).fq true (j7 h F) A=some x.aj/\((x.to=[]/\B = .sc (.slice none 0 0))\/∃ o,(o ∉ F/\o<=c9)/\B = .sl o 0 x.to.length 1/\h.get o=some (.row ((x.to).map (ah.val false)) 0 0 9))
theorem x7 {k:Int} {aj:List az} {A:AV} {h:Tr bo} (F:List Nat) (hF:(F.all fun q=>Nat.ble q c9)=true) (hA:(br ai).fq true (j7 h F) A=some aj):arc (sd k aj []) (.agg [.sc (.int .u8 k),A,.sc (.slice none 0 0)]) h:=⟨A,_,rfl,F,hF,hA,.inl ⟨rfl,rfl⟩⟩
set_option maxHeartbeats 4000000 in
theorem azd (z:au) (n:Name) (t:UInt16) (s:D5) (hz:bj z) (hn:ay n) (he:dy z=0) (gD:ay s.node):wl PP [J9,ee,vr,ab0] 0 (Tryz.f94.body.getD .skip) (c8 PP Tryz.f94.results.toList (fun r st=>arc (rz z n t s) r st.h)) (cg 0 [be.val false z,ak.val false n,cf.val false t,m8.val false s]) (bh []):=by
 have hl:=hz.len;have ok:ar PP [J9,ee,vr,uq]:=ar.cons (aq Im) (ar.cons (aq j3) (ar.cons (aq ug) (ar.cons (aq pz) (ar.nil PP))));unfold Tryz.f94;simp only [dr,bw,Dy];simp only [↓wR,zT,simprocAttr];unfold rz;rw [bz];refine ⟨fun ⟨h4,e4⟩=>?_,fun ⟨h4,e4⟩=>?_⟩
 ·rw [if_pos e4];simp only [↓wR,zT,simprocAttr,h4,aEq,F4,hz.mid,gD,I0];exact x7 [4] rfl (by simp only [↓wR,zT,simprocAttr,I0])
 rw [if_neg e4];simp only [↓wR,zT,simprocAttr,h4];rw [bz];refine ⟨fun ⟨h0,e0⟩=>?_,fun ⟨h0,e0⟩=>?_⟩
 ·rw [if_pos e0];simp only [↓wR,zT,simprocAttr,h0];exact x7 [] rfl (by simp only [↓wR,zT,simprocAttr])
 rw [if_neg e0];simp only [↓wR,zT,simprocAttr,h0];rw [bz];refine ⟨fun ⟨h2,e2⟩=>?_,fun ⟨h2,e2⟩=>?_⟩
 ·rw [if_pos e2];simp only [↓wR,zT,simprocAttr,h2];exact x7 [] rfl (by simp only [↓wR,zT,simprocAttr])
 rw [if_neg e2];simp only [↓wR,zT,simprocAttr,h2];refine ed (fun r aA=>r = .sl 3 0 (ew z s.node).length 5/\aA=bh [(zZ z),some (.row [.sc (.int .u8 s.kind),zn s.node,zn s.Ai] 0 2 126),some (.row [.sc (.int .u8 0),.sc (.slice none 0 0),.sc (.slice none 0 0)] 0 2 66),some (.row (cellsOf ai true (ew z s.node)) 0 0 31)]) rfl ?_ ?_
 ·refine cx (T:=[J9,ee,vr,uq]) ok mixed Tryz.func24 rfl zK zK zK zK ?_;unfold Tryz.f24;simp only [↓wR,zT,simprocAttr];refine fm [1,9,10,11,5] (fun (x:Nat × List az)=>[zn s.node,zs z.aj,zi z.aj.length,zi x.1,.sl 3 0 x.2.length 5]) (fun x=>[(zZ z),some (.row [.sc (.int .u8 s.kind),zn s.node,zn s.Ai] 0 2 126),some (.row [.sc (.int .u8 0),.sc (.slice none 0 0),.sc (.slice none 0 0)] 0 2 66),some (.row (cellsOf ai true (x.2)) 0 0 31)]) (fun x=>x.1<=z.aj.length/\x.2++(z.aj.drop x.1).filter (fun q=>dm q.owner s.node)=ew z s.node) (fun x=>z.aj.length - x.1) (0,[]) ⟨zzb _,rfl⟩ zX ?_;rintro ⟨i,x⟩ ⟨hi,hx⟩;simp only at hi hx;have bP:x.length<=z.aj.length:=by
   have h1:=mj (l:=z.aj) (fun q=>dm q.owner s.node);have h2:=congrArg List.length hx;simp only [za,ew] at h2;omega
  simp only [↓wR,zT,simprocAttr];rw [bg];refine ⟨fun h=>?_,fun h=>?_⟩
  ·obtain ⟨c,hc,aF,hlt⟩:=du (zp h);rw [N9 aF] at hx;have hcs:=hz.set c (zm hc);simp only [↓wR,zT,simprocAttr,h,hc,jx,hcs.owner,gD];rw [cq];refine ⟨fun h1=>?_,fun h1=>?_⟩
   ·rw [if_pos h1] at hx;have aD:(x.length * 5+5) * 64<=140737488355328:=zO
    repeat (first|simp only [↓wR,zT,simprocAttr,h1,qb,hcs,aD]|simp (disch:=omega) only [zW])
    refine ⟨(i+1,x++[c]),⟨hlt,by rw [<- hx];simp⟩,by simp;omega,zF,?_⟩;rw [ov]
   ·rw [if_neg (by rw [h1];decide)] at hx
    repeat (first|simp only [↓wR,zT,simprocAttr,h1]|simp (disch:=omega) only [zW])
    exact ⟨(i+1,x),⟨hlt,hx⟩,by simp;omega,zF,zF⟩
  ·rw [eg (zq h)] at hx;rw [List.filter_nil,zzn] at hx;subst hx;simp only [↓wR,zT,simprocAttr,h,jl,jd,iy]
 rintro _ _ ⟨rfl,rfl⟩;simp only [↓wR,zT,simprocAttr,fu];rw [bz];refine ⟨fun ⟨h3,e3⟩=>?_,fun ⟨h3,e3⟩=>?_⟩;rotate_left;rw [if_neg e3];simp only [↓wR,zT,simprocAttr,h3];obtain ⟨L,gU⟩:∃ L,L=ew z s.node:=⟨_,rfl⟩;have tX:∀ x ∈ L,∃ y ∈ z.aj,x.data=y.data/\x.type=y.type:=fun x hx=>⟨x,by rw [gU] at hx;exact (List.mem_filter.1 hx).1,rfl,rfl⟩
 have oX:L.length=(ew z s.node).length:=by rw [gU]
 rw [<- oX,<- gU];clear gU;rotate_left;rw [if_pos e3];simp only [↓wR,zT,simprocAttr,h3];refine ed (fun r aA=>r = .sl 3 0 (ew z s.node).length 5/\aA=bh [(zZ z),some (.row [.sc (.int .u8 s.kind),zn s.node,zn s.Ai] 0 2 126),some (.row [.sc (.int .u8 0),.sc (.slice none 0 0),.sc (.slice none 0 0)] 0 2 66),some (.row (cellsOf ai true ((ew z s.node).map (ly n))) 0 0 31)]) rfl ?_ ?_
 ·refine cx (T:=[J9,ee,vr,uq]) ok mixed Tryz.func133 rfl zK zK zK zK ?_;unfold Tryz.f133;simp only [↓wR,zT,simprocAttr];refine dq [0,1,7,8] (fun (i:Nat)=>[.sl 3 0 (ew z s.node).length 5,zn n,zi ((ew z s.node).length),zi i]) (fun i=>[(zZ z),some (.row [.sc (.int .u8 s.kind),zn s.node,zn s.Ai] 0 2 126),some (.row [.sc (.int .u8 0),.sc (.slice none 0 0),.sc (.slice none 0 0)] 0 2 66),some (.row (cellsOf ai true (((ew z s.node).take i).map (ly n)++(ew z s.node).drop i)) 0 0 31)]) (fun i=>i<=(ew z s.node).length) (fun i=>(ew z s.node).length - i) 0 (zzb _) zS zS ?_;intro i hi;have dM:(ew z s.node).length<=z.aj.length:=mj _;simp only [↓wR,zT,simprocAttr];rw [bg];refine ⟨fun h=>?_,fun h=>?_⟩
  ·obtain ⟨c,hc,aF,hlt⟩:=du (zp h);have lI:(((ew z s.node).take i).map (ly n)++(ew z s.node).drop i)[i]? = some c:=by
    rw [zzd (by simp;omega),aF];simp [Nat.min_eq_left (show i<=(ew z s.node).length by omega)]
   have hst:=Z9 (xs:=((ew z s.node).take i).map (ly n)++(ew z s.node).drop i) n 0 31 3 lI;have iD:(((ew z s.node).take i).map (ly n)++(ew z s.node).drop i).take i++ly n c::(((ew z s.node).take i).map (ly n)++(ew z s.node).drop i).drop (i+1)=((ew z s.node).take (i+1)).map (ly n)++(ew z s.node).drop (i+1):=by
    obtain ⟨_,rfl⟩:=zg.1 hc;have iQ:(((ew z s.node).take i).map (ly n)).length=i:=by simp;omega
    rw [List.take_left' iQ,List.drop_append,iQ,zz5 hlt,zzw];rw [zzx zO,List.drop_drop,Nat.add_sub_cancel_left];simp
   rw [iD] at hst
   repeat (first|simp only [↓wR,zT,simprocAttr,h,nv,hn,↓hst]|simp (disch:=omega) only [zW])
   exact ⟨i+1,hlt,zO,zF⟩
  ·have hin:i=(ew z s.node).length:=zO;subst hin;simp only [↓wR,zT,simprocAttr,h,jl,jd,iy,zz7,List.drop_length,zzn]
 rintro _ _ ⟨rfl,rfl⟩;simp only [↓wR,zT,simprocAttr,fu];obtain ⟨L,gU⟩:∃ L,L=(ew z s.node).map (ly n):=⟨_,rfl⟩;have tX:∀ x ∈ L,∃ y ∈ z.aj,x.data=y.data/\x.type=y.type:=fun x hx=>by rw [gU] at hx;obtain ⟨y,hy,rfl⟩:=zyj.1 hx;exact ⟨y,(List.mem_filter.1 hy).1,rfl,rfl⟩
 have oX:L.length=(ew z s.node).length:=by rw [gU,zzo]
 rw [<- oX,<- gU];clear gU
 all_goals
  unfold Q0;have tY:L.length<=z.aj.length:=by rw [oX];exact mj _
  have rH:∀ h k st et,Af true st 5 ai.kd et=true->kf ai true h 0 L.length (.row (cellsOf ai true L) k st et)=some L:=fun h k st et hro=>oz ai true h true L k st et _ rfl rfl hro
  by_cases kJ:(t.toNat:Int)=255/\0<L.length
  ·rw [if_pos kJ];have e5:((t.toNat:Int) == 255)=true:=by rw [kJ.1];rfl
   have e6:decide ((L.length:Int) > 0)=true:=zp zO;simp only [↓wR,zT,simprocAttr,e5,e6];exact x7 [3] rfl (by simp only [↓wR,zT,simprocAttr,rH])
  rw [if_neg kJ];by_cases h5:(t.toNat:Int)=255;rotate_left;have e5:((t.toNat:Int) == 255)=false:=by simpa using h5
  simp only [↓wR,zT,simprocAttr,e5];rotate_left;have e5:((t.toNat:Int) == 255)=true:=by rw [h5];rfl
  have e6:decide ((L.length:Int) > 0)=false:=zq zO;simp only [↓wR,zT,simprocAttr,e5,e6]
  all_goals
   refine fm [2,8,11,56,57,58] (fun (i:Nat)=>[.sc (.int .u16 t.toNat),.ptr 0 0,.vl true 5 (L.map (ai.val true)),.vl true 5 (L.map (ai.val true)),zi L.length,zi i]) (fun _=>[some (.row [.sc (.int .u8 0),.sc (.slice none 0 0),.sc (.slice none 0 0)] 0 2 66)]) (fun i=>i<=L.length/\L.find? (fun s=>decide ((s.type.toNat:Int)=t.toNat))=(L.drop i).find? (fun s=>decide ((s.type.toNat:Int)=t.toNat))) (fun i=>L.length - i) 0 ⟨zzb _,rfl⟩ (by simp only [↓wR,zT,simprocAttr];refine .trans (jh.lax [1] (zB rfl) (.cons (.same _) (.cons (.same _) (.cons (.data (br ai) true L _ ?_) (.cons (.data (br ai) true L _ ?_) (.cons (.same _) (.cons (.same _) .nil)))))) (.same (.same .nil))) (jh.aej (by decide) ?_ ?_)<;>simp only [↓wR,zT,simprocAttr,xt,zb,m11,m01,rh]) ?_;rintro i ⟨hi,hx⟩;simp only [↓wR,zT,simprocAttr];rw [bg];refine ⟨fun h=>?_,fun h=>?_⟩
   ·obtain ⟨c,hc,aF,hlt⟩:=du (zp h);by_cases h5:(t.toNat:Int)=255
    ·omega
    rw [Y4 aF] at hx;simp only [↓wR,zT,simprocAttr,h,hc];rw [bz];refine ⟨fun ⟨h1,e1⟩=>?_,fun ⟨h1,e1⟩=>?_⟩
    ·rw [if_pos (zp e1)] at hx;simp only [↓wR,zT,simprocAttr,h1,hx,I0];exact x7 [2] rfl (by simp only [↓wR,zT,simprocAttr,I0])
    ·rw [zq e1,if_neg (by decide)] at hx
     repeat (first|simp only [↓wR,zT,simprocAttr,h1]|simp (disch:=omega) only [zW])
     exact ⟨i+1,⟨hlt,hx⟩,zO,zF⟩
   rw [eg (zq h),List.find?_nil] at hx;rw [hx];simp only [↓wR,zT,simprocAttr,h];clear h hx hi;refine dq [2,8,70,71,72] (fun (i:Nat)=>[.sc (.int .u16 t.toNat),.ptr 0 0,.vl true 5 (L.map (ai.val true)),zi L.length,zi i]) (fun _=>[some (.row [.sc (.int .u8 0),.sc (.slice none 0 0),.sc (.slice none 0 0)] 0 2 66)]) (fun i=>i<=L.length/\L.find? (fun s=>decide ((s.type.toNat:Int)=5) && decide ((t.toNat:Int)≠255))=(L.drop i).find? (fun s=>decide ((s.type.toNat:Int)=5) && decide ((t.toNat:Int)≠255))) (fun i=>L.length - i) 0 ⟨zzb _,rfl⟩ zS zS ?_;rintro i ⟨hi,hx⟩;simp only [↓wR,zT,simprocAttr];rw [bg];refine ⟨fun h=>?_,fun h=>?_⟩
   ·obtain ⟨c,hc,aF,hlt⟩:=du (zp h);by_cases h5:(t.toNat:Int)=255
    ·omega
    have hne:((t.toNat:Int) != 255)=true:=by simpa using h5
    rw [Y4 aF] at hx;simp only [↓wR,zT,simprocAttr,h,hc];rw [bz];refine ⟨fun ⟨h1,e1⟩=>?_,fun ⟨h1,e1⟩=>?_⟩
    ·have hp:(decide ((c.type.toNat:Int)=5) && decide ((t.toNat:Int)≠255))=true:=by rw [zp e1,zp h5];rfl
     rw [if_pos hp] at hx;obtain ⟨y,hy,gA,iD⟩:=tX c (zm hc);obtain ⟨d,m,hd,hm⟩:=T7 (Ad he y hy) (by rw [<- iD];exact e1);rw [<- gA] at hd;have iO:ay m:=by have:=(hz.set y hy).data.mem d (by rw [<- gA];exact zm hd);exact this.name m (zm hm)
     simp only [↓wR,zT,simprocAttr,h1,hne];refine ⟨zK,.inl ?_⟩;have bS:=qc iO;have xS:∀ st,st.nx<=c9->J4 [ak.val true m] st=some (.sl st.nx 0 m.length 1,{ st with h:=Tr.set depth st.h st.nx (some (.row ((m).map (ah.val false)) 0 0 9)),nx:=st.nx+1 }):=fun st hx=>avg true bS hx
     simp only [↓wR,zT,simprocAttr,hd,hm,hx,xS,I0];exact ⟨zK,_,_,rfl,[2],rfl,by simp only [↓wR,zT,simprocAttr,I0],.inr ⟨3,⟨by decide,zB rfl⟩,rfl,by simp only [↓wR,zT,simprocAttr]⟩⟩
    ·have hp:(decide ((c.type.toNat:Int)=5) && decide ((t.toNat:Int)≠255))=false:=by rw [zq e1];rfl
     rw [hp,if_neg (by decide)] at hx
     repeat (first|simp only [↓wR,zT,simprocAttr,h1]|simp (disch:=omega) only [zW])
     exact ⟨i+1,⟨hlt,hx⟩,zO,zF⟩
   rw [eg (zq h),List.find?_nil] at hx;rw [hx];simp only [↓wR,zT,simprocAttr,h];exact x7 [] rfl (by simp only [↓wR,zT,simprocAttr])
end Go.Proofs.YtgencolcibpcaaaGreat
end
namespace Go.Vm
variable [TK]
noncomputable section
theorem aoh {P:Program} [KP P] {f:Nat} {fn:Func} {body:Code} (hf:P.funcs[f]? = some fn) (hb:fn.body=some body) {args:List AV} (hl:args.length<=fn.ntmps) {R:AV->St->Prop}
 (h:∀ (B:fh) (g:Gh) (a:Act) (w:World),B.ll->B.bb=0->(∀ b,¬ B.O b)->B.n0<=B.w.heap.size->jn B fn.ntmps (cg 0 args) (bh []) g a w->body.wpIn (ft none) 0 P (Fin B fn.ntmps (c8 P fn.results.toList R)) a w)
 {K:Nat->Nat->Prop} {w:World} {X:Value->World->Prop} (hX:∀ g st u r v,Ok g st.h u->k5 w u->g.b0=w.heap.size->(∀ b j,g.K b j->v9 K w u b j)->R r st->Rel g u r v->X v u)
 {vs:List Value} (hK:∀ b j,K b j->b<w.heap.size) (hrel:bt (gK w.heap.size K) w args vs):Calls P f vs.toArray w (fun e w'=>∃ v,e = .returned v/\k5 w w'/\X v w'):=by
 refine u2 (ro:=none) (n:=0) (callsIn_of_wp_marks hf hb trivial ?_)
 let B:fh:={ b0:=w.heap.size,w,K,O:=fun _=>False,bb:=0,pb:=fun _=>none,n0:=w.heap.size }
 have dK:j8 B (gK w.heap.size K) (bh []) w:=by
  refine ⟨⟨zza _,fun o x hx=>?_,fun o o' x x' b base base' _ hx=>?_,hK⟩,fun o _ _=>rfl,⟨rfl,(fun o ho=>(by rcases ho with ho|ho;cases ho;exact ho.elim)),fun _ _ h=>h,fun _ _ _=>rfl,zza _,rfl,rfl,rfl,fun _ _ _=>rfl,fun o b base ho=>?_,fun _ _ h=>.inl h,fun b cs e fr h=>⟨cs,fr,h,rfl⟩,fun b l h=>⟨l,h⟩,fun _ _ _ _ _ _=>rfl⟩,zzb _⟩
  ·simp [bh,l6,Tr.get_nil] at hx
  ·simp [bh,l6,Tr.get_nil] at hx
  ·simp [bh,l6,Tr.get_nil] at ho
 refine wpIn_mono (h B (gK w.heap.size K) _ w (fun _ h=>h) rfl (fun _ h=>h) (zza _) ⟨dK,B2 hrel hl,Marks.nil _ _ _ _⟩) ?_;rintro ex a w' ⟨e,L,st,g,rfl,hq,hc,hr,hd⟩;have fin:E8 (sg P L st fn.results.toList) R st->bodyPostM (ft none) 0 P fn (fun e w'=>∃ v,e = .returned v/\k5 w w'/\X v w') .ret a w':=by
  intro hq;show LeavesInM (ft none) 0 P fn a.tmps _ a.defers .returning w';unfold E8 at hq;cases hres:sg P L st fn.results.toList with
  |none=>rw [hres] at hq;exact hq.elim
  |some l=>
   rw [hres] at hq;have aT:=hc.base;obtain ⟨bs,e1,e2,e3⟩:=hd;have e1:=e1.trans (zzn _);rw [e1];refine D1 (Good:=fun u=>Ok g st.h u/\k5 w u/\(∀ a v,Rel g w' a v->Rel g u a v)/\u.heap.size=w'.heap.size) (S:=fun b=>w.heap.size<=b/\i5 g st.h b) ?_ ?_ bs w'
    ⟨hc.ok,⟨aT.size,fun b hlt=>aT.frame b hlt (fun h=>h),aT.os,aT.tape,aT.output⟩,fun _ _ h=>h,rfl⟩ e2 (fun b hb=>⟨⟨(e3 b hb).1,(e3 b hb).2.2⟩,(e3 b hb).2.1⟩)
   ·rintro u b ⟨g1,g2,g3,g4⟩ ⟨hb1,hb2⟩ hb3;have hput:=Ok.D2 (ds':=none) g1 hb3 hb2;exact ⟨hput.1,⟨by rw [lf];exact g2.size,fun c hc=>(ey u _ zO).trans (g2.heap c hc),g2.os,g2.tape,g2.output⟩,fun a v h=>hput.2 a v (g3 a v h),by rw [lf];exact g4⟩
   ·rintro u ⟨g1,g2,g3,g4⟩;obtain ⟨us,h1,h2⟩:=Pz (P:=P) g1 ⟨hr.1,fun t=>g3 _ _ (hr.2 t)⟩ fn.results.toList l hres;obtain ⟨v,h3,h4⟩:=Qe h1 h2;refine ⟨v,h3,v,rfl,g2,hX g st u _ v g1 g2 aT.b0 (fun b j hk=>?_) hq h4⟩;have hlt:=g1.K b j hk;rcases aT.n8 b j hk with h5|h5|h5
    ·exact .inl h5
    ·exact .inr ⟨h5,hlt⟩
    ·exact h5.elim
 cases e with
 |normal=>exact fin hq
 |ret=>exact fin hq
 |exit id=>exact hq.elim
theorem D9 {h:Tr bo} {F:List Nat} {p:Nat} {x:bo} (hF:∀ q ∈ F,q<=c9) (hx:(j7 h F).get p=some x):p ∈ F/\h.get p=some x:=by
 induction F with
 |nil=>rw [j7,Tr.get_nil] at hx;cases hx
 |cons q F ih=>
  rw [j7,i4 _ _ _ _ (hF q (by simp))] at hx;by_cases e:p=q
  ·rw [if_pos e] at hx;subst e;exact ⟨by simp,hx⟩
  ·rw [if_neg e] at hx;obtain ⟨h1,h2⟩:=ih (fun r hr=>hF r (by simp [hr])) hx;exact ⟨by simp [h1],h2⟩
theorem Ok.sub {g:Gh} {h h':Tr bo} {w:World} (aB:Ok g h w) (hs:∀ p x,h'.get p=some x->h.get p=some x):Ok g h' w:=
 ⟨aB.size,fun o x hx=>aB.mn o x (hs o x hx),fun o o' x x' b base base' hne hx hx'=>aB.sep o o' x x' b base base' hne (hs o x hx) (hs o' x' hx'),aB.K⟩
theorem aDn {g:Gh} {h:Tr bo} {u:World} (aB:Ok g h u) {α β:Type} (C:di α) (C2:di β) {A:AV} {va vb:Value} {x : α} {y : β} {F:List Nat} (hF:∀ q ∈ F,q<=c9) (hA:C.fq true (j7 h F) A=some x) (rA:Rel g u A va)
 {o n sz:Nat} {cells:List AV} {et:TypeId} (bY:o<=c9) (ho:o ∉ F) (hrow:h.get o=some (.row cells 0 0 et)) (hsc:∀ a ∈ cells,∃ s,a = .sc s) (rB:Rel g u (.sl o 0 n sz) vb) (hB:C2.fq true (j7 h [o]) (.sl o 0 n sz)=some y) :
 ∃ K1 K2:Nat->Nat->Prop,(∀ b j,K1 b j->g.K b j\/(g.b0<=b/\b<u.heap.size))/\(∀ b j,K2 b j->g.b0<=b/\b<u.heap.size)/\(∀ b j j',K1 b j->¬ K2 b j')/\Rel (gK g.b0 K1) u (C.val true x) va/\Rel (gK g.b0 K2) u (C2.val true y) vb:=by
 have wS:∀ q ∈ [o],q<=c9:=fun q hq=>by rw [zz0] at hq;rw [hq];exact bY
 have m1:∀ p z,(j7 h F).get p=some z->h.get p=some z:=fun p z hz=>(D9 hF hz).2
 have m2:∀ p z,(j7 h [o]).get p=some z->p=o/\z = .row cells 0 0 et:=fun p z hz=>by obtain ⟨h1,h2⟩:=D9 wS hz;have h1:=zz0.1 h1;subst h1;rw [hrow] at h2;cases h2;exact ⟨rfl,rfl⟩
 refine ⟨fun b j=>g.K b j\/∃ p base,((j7 h F).get p).isSome=true/\g.inj p=some (b,base),fun b j=>∃ base,g.inj o=some (b,base),fun b j hk=>?_,fun b j hk=>?_,fun b j j' h1 h2=>?_,?_,?_⟩
 ·rcases hk with hk|⟨p,base,h1,h2⟩
  ·exact .inl hk
  ·obtain ⟨z,hz⟩:=zzv.1 h1;obtain ⟨b',base',q1,q2,q3⟩:=aB.obj p z (m1 p z hz) ⟨_,h2⟩;rw [h2] at q1;cases q1;exact .inr ⟨q2,q3.lt⟩
 ·obtain ⟨base,h2⟩:=hk;obtain ⟨b',base',q1,q2,q3⟩:=aB.obj o _ hrow ⟨_,h2⟩;rw [h2] at q1;cases q1;exact ⟨q2,q3.lt⟩
 ·obtain ⟨base,h2⟩:=h2;obtain ⟨b',base',q1,q2,cs,fr,q3,q4,q5,q6,q7,q8,q9,nT⟩:=aB.obj o _ hrow ⟨_,h2⟩;rw [h2] at q1;cases q1;have hb0:=(nT rfl).1;rcases h1 with h1|⟨p,aI,h3,h4⟩
  ·have:=q7 j h1;rw [hb0] at this;omega
  ·obtain ⟨z,hz⟩:=zzv.1 h3;obtain ⟨wQ,hz2⟩:=D9 hF hz;exact aB.sep p o z _ b aI base (fun e=>ho (e ▸ wQ)) hz2 hrow h4 h2
 ·exact C.J3 (b0:=g.b0) (aB.sub m1) ⟨fun b j hk=>.inl hk,fun p cs k s e hp b base hi j _=>.inr ⟨p,base,by rw [hp];rfl,hi⟩⟩ (fun _=>zza _) rA hA
 ·obtain ⟨g0,hg0⟩:∃ g0:Gh,g0 = { g with K:=fun _ _=>False }:=⟨_,rfl⟩;have i0:g0.inj=g.inj:=by rw [hg0]
  have b0:g0.b0=g.b0:=by rw [hg0]
  have k0:∀ b j,¬ g0.K b j:=fun b j hk=>by rw [hg0] at hk;exact hk
  have lH:Ok g0 (j7 h [o]) u:=by
   refine ⟨by rw [b0];exact aB.size,fun p z hz=>?_,fun p p' z z' b base base' hne hz hz' _ _=>?_,fun b j hk=>(k0 b j hk).elim⟩
   ·obtain ⟨rfl,rfl⟩:=m2 p z hz;refine (aB.mn p _ hrow).imp (fun q=>⟨by rw [i0];exact q.1,q.2⟩) ?_;rintro ⟨b,base,q1,q2,cs,fr,q3,q4,q5,q6,q7,q8⟩;refine ⟨b,base,by rw [i0];exact q1,by rw [b0];exact q2,cs,fr,q3,q4,fun j a ha=>?_,q6,fun j hj=>(k0 b j hj).elim,q8⟩;obtain ⟨c,hc,hr⟩:=q5 j a ha;obtain ⟨s,rfl⟩:=hsc a (zm ha);exact ⟨c,hc,by rw [hr.exact rfl];exact .sc s⟩
   ·obtain ⟨rfl,_⟩:=m2 p z hz;obtain ⟨rfl,_⟩:=m2 p' z' hz';exact (hne rfl).elim
  have vM:Rel g0 u (.sl o 0 n sz) vb:=by
   cases rB with
   |sl _ _ _ _ b base cap hi hc hm hr=>exact .sl o 0 n sz b base cap (by rw [i0];exact hi) hc hm hr
   |r9 _ _ _ a=>exact .r9 _ _ _ a
   |tg _ _ _=>exact .tg _ _ _
  exact C2.J3 (b0:=g.b0) lH ⟨fun b j hk=>(k0 b j hk).elim,fun p cs k s e hp b base hi j _=>by obtain ⟨rfl,_⟩:=m2 p _ hp;exact ⟨base,by rw [i0] at hi;exact hi⟩⟩ (fun _=>Nat.le_of_eq b0.symm) vM hB
end
end Go.Vm
section
namespace Go.Proofs.YtgencolcibpcaaaGreat
open Go.Vm
def Fv (w u:World) (K:Nat->Nat->Prop) (x:th) (va vb:Value):Prop:=∃ K1 K2:Nat->Nat->Prop,(∀ b j,K1 b j->v9 K w u b j)/\(∀ b j,K2 b j->w.heap.size<=b/\b<u.heap.size)/\(∀ b j j',K1 b j->¬ K2 b j')/\Rel (gK w.heap.size K1) u ((br ai).val true x.aj) va/\Rel (gK w.heap.size K2) u (ak.val true x.to) vb
theorem aA9 (n:Name):∀ a ∈ n.map (ah.val false),∃ s,a = .sc s:=fun a ha=>by obtain ⟨s,_,rfl⟩:=zyj.1 ha;exact ⟨_,A8 false s⟩
theorem Sj:∀ n:Name,cellsOf ah true n=n.map (ah.val false)
 | []=>rfl
 |a::n=>by rw [List.map_cons,<- Sj n];rfl
theorem aw6 (n:Name) (h:Tr bo) (o:Nat) (bY:o<=c9) (hrow:h.get o=some (.row ((n).map (ah.val false)) 0 0 9)):ak.fq true (j7 h [o]) (.sl o 0 n.length 1)=some n:=by
 have hg:(j7 h [o]).get o=some (.row ((n).map (ah.val false)) 0 0 9):=by rw [Ao _ _ _ (fun p hp=>by rw [zz0] at hp;rw [hp];exact bY),if_pos (by simp)];exact hrow
 obtain ⟨M,hM⟩:∃ M,M=j7 h [o]:=⟨_,rfl⟩;rw [<- hM] at hg ⊢;have hd:∀ h k,kf ah true h 0 n.length (.row (n.map (ah.val false)) k 0 9)=some n:=fun h k=>by have:=oz ah true h true n k 0 9 n.length rfl rfl zK;rw [Sj] at this;exact this
 simp only [↓wR,zT,simprocAttr,hg,hd]
theorem ap6 {z:au} {n:Name} {t:UInt16} {s:D5} (hz:bj z) (hn:ay n) (he:dy z=0) (gD:ay s.node) {K:Nat->Nat->Prop} {w:World} {vs:List Value} (hK:∀ b j,K b j->b<w.heap.size)
 (hrel:bt (gK w.heap.size K) w [be.val false z,ak.val false n,cf.val false t,m8.val false s] vs) :
 Calls PP 94 vs.toArray w (fun e w'=>∃ v,e = .returned v/\k5 w w'/\∃ va vb,v = .agg #[.int .u8 (rz z n t s).turn,va,vb]/\Fv w w' K (rz z n t s) va vb):=by
 have hT:ar PP [J9,ee,vr,ab0]:=ar.cons (aq Im) (ar.cons (aq j3) (ar.cons (aq ug) (ar.cons alm (ar.nil PP))));refine aoh (body:=(Tryz.f94.body.getD .skip)) (args:=[be.val false z,ak.val false n,cf.val false t,m8.val false s]) (R:=fun r st=>arc (rz z n t s) r st.h) Tryz.func94 zK zL ?_ ?_ hK hrel
 ·intro B g a w aH hp hO aS hh;exact abr hT zK aH zO aS zK (fun e L' aA g' a' w' hq bH=>⟨e,L',aA,g',rfl,hq,bH.cur,bH.sl,bH.Fg⟩) (by rw [hp];exact azd z n t s hz hn he gD) hh
 ·rintro g st u r v aB q hb0 tP ⟨A,B,rfl,F,hF,hA,hB⟩ hr;have hF2:∀ q ∈ F,q<=c9:=fun q hq=>zB (zz8.1 hF q hq)
  cases hr with
  |agg _ vs hs hel=>
   have hs3:vs.size=3:=hs;obtain ⟨v0,va,vb,jK⟩:=anb hs3;have g0:vs[0]? = some v0:=by rw [<- zz2,jK];rfl
   have g1:vs[1]? = some va:=by rw [<- zz2,jK];rfl
   have g2:vs[2]? = some vb:=by rw [<- zz2,jK];rfl
   have r0:=hel 0 _ _ rfl g0;have sU:=hel 1 _ _ rfl g1;have lD:=hel 2 _ _ rfl g2;have e0:=r0.exact rfl;refine ⟨va,vb,?_,?_⟩
   ·congr 1
    apply Array.ext';rw [jK,e0]
   rcases hB with ⟨pV,rfl⟩|⟨o,⟨ho,bY⟩,rfl,hrow⟩
   ·have e2:=lD.exact rfl;refine ⟨v9 K w u,fun _ _=>False,fun _ _ h=>h,fun _ _ h=>h.elim,fun _ _ _ _ h=>h,?_,?_⟩
    ·refine (br ai).J3 (b0:=w.heap.size) (aB.sub (fun p z hz=>(D9 hF2 hz).2)) ⟨tP,fun p cs k s e hp b base hi j _=>?_⟩ (fun _=>Nat.le_of_eq hb0.symm) sU hA;obtain ⟨b',base',q1,q2,q3⟩:=aB.obj p _ (D9 hF2 hp).2 ⟨_,hi⟩;rw [hi] at q1;cases q1;exact .inr ⟨by rw [<- hb0];exact q2,q3.lt⟩
    ·rw [pV,e2,bw];exact .jy _ _
   ·obtain ⟨K1,K2,a1,a2,a3,a4,a5⟩:=aDn aB (br ai) ak hF2 hA sU bY ho hrow (aA9 _) lD (aw6 _ _ _ bY hrow);rw [hb0] at a1 a2 a4 a5;refine ⟨K1,K2,fun b j hk=>?_,a2,a3,a4,a5⟩;rcases a1 b j hk with h|h
    ·exact tP b j h
    ·exact .inr h
end Go.Proofs.YtgencolcibpcaaaGreat
end
