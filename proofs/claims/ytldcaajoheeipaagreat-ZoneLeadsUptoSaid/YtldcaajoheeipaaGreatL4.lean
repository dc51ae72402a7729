/- A piece of the proof. Proved: where the arguments are together of bulk at most 1048576, the law ZoneLeads returns true (a set put in and taken out), and what it was given reads afterwards as it did before. No other conditions. -/
import Derived.WalkKit
import Derived.CallsIn
import Derived.RangeFuncIn
import Derived.RangeFuncLeaves
import Derived.Orders
import Derived.OrdersIn
import Derived.Scope
import Derived.RangeFuncOwn
import Derived.Stop.SameAnswer
import Derived.Laws.Externs
import Derived.Lib.Bytealg
import Derived.ProofKit
import Derived.OpenShut
import Derived.ReadAgain
import Derived.Deep.Slices
import Derived.ChangeSame
import Derived.Test.YtldcaajoheeipaaGreatProg
import Derived.KernelRfl
import Derived.Test.YtldcaajoheeipaaGreatRows
import Derived.Maps.RangeRun
import Derived.JoinedCond
import Derived.Test.YtldcaajoheeipaaGreatL3
set_option linter.unusedSimpArgs false
set_option linter.unusedVariables false
section
namespace Go.Proofs.YtldcaajoheeipaaGreat
open Go.Vm
set_option maxRecDepth 2000000
theorem Bh (s:ba) (N a b n:Nat) (A P M Q Z:List bq) (hN:N=(A++P++M++Q++Z).length) (hs:N≤1048576) (ha:a=A.length) (hp:n=P.length) (hq:n=Q.length) (hb:b=a+n+M.length) :
 gp PP 113 [.sl 0 0 N 4,.sc (.int .i64 (a)),.sc (.int .i64 (b)),.sc (.int .i64 (n)),(.fn (.func 70) [] [.ptr 1 0])] (bj [some (.row (cellsOf aq true ((A++P++M++Q++Z))) 0 0 71),some (.row [.vl false 1 (s.owner.map (ak.val false)),.sc (.int .u16 s.type.toNat),.sc (.int .u16 s.cls.toNat),.sc (.int .u32 s.ff.toNat),.vl false 4 (s.data.map (aq.val false))] 0 2 33)])
  (fun r st'=>r = .ea []∧st'=bj [some (.row (cellsOf aq true ((A++Q++M++P++Z))) 0 0 71),some (.row [.vl false 1 (s.owner.map (ak.val false)),.sc (.int .u16 s.type.toNat),.sc (.int .u16 s.cls.toNat),.sc (.int .u32 s.ff.toNat),.vl false 4 (s.data.map (aq.val false))] 0 2 33)]):=by
 have hc:∀ a b c d,dj a b c=d→dj a b c=d:=fun _ _ _ _ h=>h
 have hlen:N=A.length+P.length+M.length+Q.length+Z.length:=by rw [hN];simp;omega
 refine cz _ rfl ?_ (fun r st' h=>h)
 refine bn (T:=[]) (an.nil PP) mixed Tryz.func113 rfl (by kernel_rfl) (by kernel_rfl) (by kernel_rfl) (by kernel_rfl) ?_;unfold Tryz.f113
 simp only [↓wR,RA,simprocAttr,TF,ae]
 refine cq [0,1,2,3,10] (fun (i:Nat)=>[.sl 0 0 N 4,.sc (.int .i64 (a)),.sc (.int .i64 (b)),.sc (.int .i64 (n)),.sc (.int .i64 (i))]) (fun i=>[some (.row (cellsOf aq true ((A++Q.take i++P.drop i++M++P.take i++Q.drop i++Z))) 0 0 71),some (.row [.vl false 1 (s.owner.map (ak.val false)),.sc (.int .u16 s.type.toNat),.sc (.int .u16 s.cls.toNat),.sc (.int .u32 s.ff.toNat),.vl false 4 (s.data.map (aq.val false))] 0 2 33)]) (fun i=>i≤n) (fun i=>n - i) 0 (Nat.zero_le _) (by simp only [↓wR,RA,simprocAttr,TF,ae]<;>simp) (by simp only [↓wR,RA,simprocAttr,TF,ae]<;>simp) ?_
 intro i hi
 simp only [↓wR,RA,simprocAttr,TF,ae]
 rw [bc];refine ⟨fun h=>?_,fun h=>?_⟩
 ·have hlt:i<n:=by omega
  obtain ⟨p,hpp⟩:∃ p,P[i]? = some p:=⟨_,List.getElem?_eq_getElem (by omega)⟩
  obtain ⟨q,hqq⟩:∃ q,Q[i]? = some q:=⟨_,List.getElem?_eq_getElem (by omega)⟩
  obtain ⟨X,hX⟩:∃ X,X=A++Q.take i:=⟨_,rfl⟩
  obtain ⟨Y,hY⟩:∃ Y,Y=P.drop (i+1)++M++P.take i:=⟨_,rfl⟩
  obtain ⟨W,hW⟩:∃ W,W=Q.drop (i+1)++Z:=⟨_,rfl⟩
  have hx1:X.length=a+i:=by rw [hX,List.length_append,List.length_take];omega
  have hy1:Y.length=n - 1+M.length:=by rw [hY];simp;omega
  have hpd:P.drop i=p::P.drop (i+1):=by obtain ⟨_,rfl⟩:=List.getElem?_eq_some_iff.1 hpp;exact List.drop_eq_getElem_cons _
  have hqd:Q.drop i=q::Q.drop (i+1):=by obtain ⟨_,rfl⟩:=List.getElem?_eq_some_iff.1 hqq;exact List.drop_eq_getElem_cons _
  have hpt:P.take (i+1)=P.take i++[p]:=by rw [List.take_add_one,hpp];rfl
  have hqt:Q.take (i+1)=Q.take i++[q]:=by rw [List.take_add_one,hqq];rfl
  have hcur:A++Q.take i++P.drop i++M++P.take i++Q.drop i++Z=X++p::(Y++q::W):=by rw [hX,hY,hW,hpd,hqd];simp
  have ew:A++Q.take (i+1)++P.drop (i+1)++M++P.take (i+1)++Q.drop (i+1)++Z=X++q::(Y++p::W):=by rw [hX,hY,hW,hpt,hqt];simp
  have hi1:(a:Int)+i=((a+i:Nat):Int):=by omega
  have hi2:(b:Int)+i=((b+i:Nat):Int):=by omega
  have g1:(X++p::(Y++q::W))[a+i]? = some p:=by rw [← hx1];exact get_at X _ p
  have hxy:(X++p::Y).length=b+i:=by rw [List.length_append,List.length_cons,hx1,hy1];omega
  have g2:(X++p::(Y++q::W))[b+i]? = some q:=by
   have:=get_at (X++p::Y) W q
   rw [hxy] at this
   rw [← this];simp
  have s1:(X++p::(Y++q::W)).set (a+i) q=X++q::(Y++q::W):=by rw [← hx1];exact ox X _ p q
  have g3:(X++q::(Y++q::W))[b+i]? = some q:=by
   have:=get_at (X++q::Y) W q
   rw [show (X++q::Y).length=b+i by rw [← hxy];simp] at this
   rw [← this];simp
  have s2:(X++q::(Y++q::W)).set (b+i) p=X++q::(Y++p::W):=by
   have:=ox (X++q::Y) W q p
   rw [show (X++q::Y).length=b+i by rw [← hxy];simp] at this
   simpa using this
  have l1:=jn 0 0 71 g1
  have l2:=jn 0 0 71 g2
  have t1:=qk q 0 71 0 g1
  have t2:=qk p 0 71 0 g3
  rw [s1] at t1
  rw [s2] at t2
  rw [hcur]
  simp only [↓wR,RA,simprocAttr,TF,ae,h,hi1,hi2,↓l1,↓l2,↓t1,↓t2];repeat (simp (disch:=omega) only [ah,be,bf,bd,bg];try simp only [↓wR,RA,simprocAttr,TF,ae,h,hi1,hi2,↓l1,↓l2,↓t1,↓t2])
  refine ⟨by kernel_rfl,.inl ?_⟩
  exact ⟨by apply hc;kernel_rfl,i+1,hlt,by omega,by (first|rfl|trivial|omega|((try (simp (disch:=omega) only [ah]));(try (simp only [FB]));first|done|rfl|omega)),by rw [ew]⟩
 ·have hin:i=n:=by omega
  subst hin
  have e1:Q.take i=Q:=by rw [hq,List.take_length]
  have e2:P.drop i=[]:=by rw [hp,List.drop_length]
  have e3:P.take i=P:=by rw [hp,List.take_length]
  have e4:Q.drop i=[]:=by rw [hq,List.drop_length]
  rw [e1,e2,e3,e4]
  simp only [↓wR,RA,simprocAttr,TF,ae,h,ft,fh,eu,List.append_nil]
theorem aa4 (s:ba) (N a m b:Nat) (A L R Z:List bq) (hN:N=(A++L++R++Z).length) (hs:N≤1048576) (ha:a=A.length) (hm:m=a+L.length) (hb:b=m+R.length) (hl : 0<L.length) (hr : 0<R.length) :
 gp PP 110 [.sl 0 0 N 4,.sc (.int .i64 (a)),.sc (.int .i64 (m)),.sc (.int .i64 (b)),(.fn (.func 70) [] [.ptr 1 0])] (bj [some (.row (cellsOf aq true ((A++L++R++Z))) 0 0 71),some (.row [.vl false 1 (s.owner.map (ak.val false)),.sc (.int .u16 s.type.toNat),.sc (.int .u16 s.cls.toNat),.sc (.int .u32 s.ff.toNat),.vl false 4 (s.data.map (aq.val false))] 0 2 33)])
  (fun r st'=>r = .ea []∧st'=bj [some (.row (cellsOf aq true ((A++R++L++Z))) 0 0 71),some (.row [.vl false 1 (s.owner.map (ak.val false)),.sc (.int .u16 s.type.toNat),.sc (.int .u16 s.cls.toNat),.sc (.int .u32 s.ff.toNat),.vl false 4 (s.data.map (aq.val false))] 0 2 33)]):=by
 have hlen:N=A.length+L.length+R.length+Z.length:=by rw [hN];simp;omega
 refine cz _ rfl ?_ (fun r st' h=>h)
 refine bn (T:=[]) (an.nil PP) mixed Tryz.func110 rfl (by kernel_rfl) (by kernel_rfl) (by kernel_rfl) (by kernel_rfl) ?_;unfold Tryz.f110
 have hi1:(m:Int) - a=((L.length:Nat):Int):=by omega
 have hi2:(b:Int) - m=((R.length:Nat):Int):=by omega
 simp only [↓wR,RA,simprocAttr,TF,ae,hi1,hi2];repeat (simp (disch:=omega) only [ah,be,bf,bd,bg];try simp only [↓wR,RA,simprocAttr,TF,ae,hi1,hi2])
 refine cq [0,2,4,10,11] (fun (x:List bq × List bq × List bq × List bq)=>[.sl 0 0 N 4,.sc (.int .i64 (m)),(.fn (.func 70) [] [.ptr 1 0]),.sc (.int .i64 (x.2.1.length)),.sc (.int .i64 (x.2.2.1.length))]) (fun x=>[some (.row (cellsOf aq true ((x.1++x.2.1++x.2.2.1++x.2.2.2))) 0 0 71),some (.row [.vl false 1 (s.owner.map (ak.val false)),.sc (.int .u16 s.type.toNat),.sc (.int .u16 s.cls.toNat),.sc (.int .u32 s.ff.toNat),.vl false 4 (s.data.map (aq.val false))] 0 2 33)]) (fun x=>x.1++x.2.2.1++x.2.1++x.2.2.2=A++R++L++Z∧x.1.length+x.2.1.length=m∧0<x.2.1.length∧0<x.2.2.1.length) (fun x=>x.2.1.length+x.2.2.1.length) (A,L,R,Z) ⟨rfl,by show A.length+L.length=m;omega,hl,hr⟩ (by simp only [↓wR,RA,simprocAttr,TF,ae]<;>rfl) (by simp only [↓wR,RA,simprocAttr,TF,ae]<;>rfl) ?_
 rintro ⟨A',P,Q,Z'⟩ ⟨h1,h2,h3,h4⟩
 have h5:=congrArg List.length h1
 simp only [List.length_append] at h1 h2 h3 h4 h5
 simp only []
 simp only [↓wR,RA,simprocAttr,TF,ae]
 rw [dr];refine ⟨fun ⟨h,e⟩=>?_,fun ⟨h,e⟩=>?_⟩
 ·have hne:P.length≠Q.length:=by omega
  simp only [↓wR,RA,simprocAttr,TF,ae,h]
  have hi3:(m:Int) - P.length=((A'.length:Nat):Int):=by omega
  rw [bc];refine ⟨fun hg=>?_,fun hg=>?_⟩
  ·have hlt:Q.length<P.length:=by omega
   obtain ⟨P1,hP1⟩:∃ P1,P1=P.take Q.length:=⟨_,rfl⟩
   obtain ⟨P2,hP2⟩:∃ P2,P2=P.drop Q.length:=⟨_,rfl⟩
   have hp:P=P1++P2:=by rw [hP1,hP2,List.take_append_drop]
   have hl1:P1.length=Q.length:=by rw [hP1,List.length_take];omega
   have hl2:P2.length=P.length - Q.length:=by rw [hP2,List.length_drop]
   have hi4:(P.length:Int) - Q.length=((P2.length:Nat):Int):=by omega
   simp only [↓wR,RA,simprocAttr,TF,ae,hg,hi3];repeat (simp (disch:=omega) only [ah,be,bf,bd,bg];try simp only [↓wR,RA,simprocAttr,TF,ae,hg,hi3])
   refine dq (R0:=fun r st'=>r = .ea []∧st'=bj [some (.row (cellsOf aq true ((A'++Q++P2++P1++Z'))) 0 0 71),some (.row [.vl false 1 (s.owner.map (ak.val false)),.sc (.int .u16 s.type.toNat),.sc (.int .u16 s.cls.toNat),.sc (.int .u32 s.ff.toNat),.vl false 4 (s.data.map (aq.val false))] 0 2 33)]) ?_ ?_
   ·have:=Bh s N A'.length m Q.length A' P1 P2 Q Z' (by simp only [List.length_append];omega) hs rfl hl1.symm rfl (by omega)
    rw [show A'++P++Q++Z'=A'++P1++P2++Q++Z' by rw [hp];simp]
    exact this
   ·rintro _ _ ⟨rfl,rfl⟩
    simp only [↓wR,RA,simprocAttr,TF,ae,da,hi4];repeat (simp (disch:=omega) only [ah,be,bf,bd,bg];try simp only [↓wR,RA,simprocAttr,TF,ae,da,hi4])
    refine ⟨(A'++Q,P2,P1,Z'),⟨?_,?_,?_,?_⟩,?_,?_,?_⟩
    ·rw [← h1,hp];simp
    ·simp only [List.length_append];omega
    ·show 0<P2.length;omega
    ·show 0<P1.length;omega
    ·show P2.length+P1.length<P.length+Q.length;omega
    ·rw [hl1]
    ·simp only [List.append_assoc]
  ·have hlt:P.length<Q.length:=by omega
   obtain ⟨Q1,hQ1⟩:∃ Q1,Q1=Q.take (Q.length - P.length):=⟨_,rfl⟩
   obtain ⟨Q2,hQ2⟩:∃ Q2,Q2=Q.drop (Q.length - P.length):=⟨_,rfl⟩
   have hp:Q=Q1++Q2:=by rw [hQ1,hQ2,List.take_append_drop]
   have hl1:Q1.length=Q.length - P.length:=by rw [hQ1,List.length_take];omega
   have hl2:Q2.length=P.length:=by rw [hQ2,List.length_drop];omega
   have hi4:(Q.length:Int) - P.length=((Q1.length:Nat):Int):=by omega
   have hi5:(m:Int)+Q.length - P.length=((m+Q1.length:Nat):Int):=by omega
   simp only [↓wR,RA,simprocAttr,TF,ae,hg,hi3,hi5];repeat (simp (disch:=omega) only [ah,be,bf,bd,bg];try simp only [↓wR,RA,simprocAttr,TF,ae,hg,hi3,hi5])
   refine dq (R0:=fun r st'=>r = .ea []∧st'=bj [some (.row (cellsOf aq true ((A'++Q2++Q1++P++Z'))) 0 0 71),some (.row [.vl false 1 (s.owner.map (ak.val false)),.sc (.int .u16 s.type.toNat),.sc (.int .u16 s.cls.toNat),.sc (.int .u32 s.ff.toNat),.vl false 4 (s.data.map (aq.val false))] 0 2 33)]) ?_ ?_
   ·have:=Bh s N A'.length (m+Q1.length) P.length A' P Q1 Q2 Z' (by simp only [List.length_append];omega) hs rfl rfl hl2.symm (by omega)
    rw [show A'++P++Q++Z'=A'++P++Q1++Q2++Z' by rw [hp];simp]
    exact this
   ·rintro _ _ ⟨rfl,rfl⟩
    simp only [↓wR,RA,simprocAttr,TF,ae,da,hi4];repeat (simp (disch:=omega) only [ah,be,bf,bd,bg];try simp only [↓wR,RA,simprocAttr,TF,ae,da,hi4])
    refine ⟨(A',Q2,Q1,P++Z'),⟨?_,?_,?_,?_⟩,?_,?_,?_⟩
    ·rw [← h1,hp];simp
    ·show A'.length+Q2.length=m;omega
    ·show 0<Q2.length;omega
    ·show 0<Q1.length;omega
    ·show Q2.length+Q1.length<P.length+Q.length;omega
    ·rw [hl2]
    ·simp only [List.append_assoc]
 ·have hne:P.length=Q.length:=by omega
  simp only [↓wR,RA,simprocAttr,TF,ae,h]
  have hi3:(m:Int) - P.length=((A'.length:Nat):Int):=by omega
  simp only [↓wR,RA,simprocAttr,TF,ae,hi3];repeat (simp (disch:=omega) only [ah,be,bf,bd,bg];try simp only [↓wR,RA,simprocAttr,TF,ae,hi3])
  refine dq (R0:=fun r st'=>r = .ea []∧st'=bj [some (.row (cellsOf aq true ((A++R++L++Z))) 0 0 71),some (.row [.vl false 1 (s.owner.map (ak.val false)),.sc (.int .u16 s.type.toNat),.sc (.int .u16 s.cls.toNat),.sc (.int .u32 s.ff.toNat),.vl false 4 (s.data.map (aq.val false))] 0 2 33)]) ?_ ?_
  ·have:=Bh s N A'.length m P.length A' P [] Q Z' (by simp only [List.length_append,List.length_nil];omega) hs rfl rfl hne (by simp only [List.length_nil];omega)
   rw [List.append_nil,List.append_nil,List.append_assoc (A'++Q),← List.append_assoc (A'++Q),h1] at this
   exact this
  ·rintro _ _ ⟨rfl,rfl⟩
   simp only [↓wR,RA,simprocAttr,TF,ae,da,ft,fh,eu]
theorem I4 (s:ba) (N a b:Nat) (A L Z:List bq) (hN:N=(A++L++Z).length) (hs:N≤1048576) (ha:a=A.length) (hb:b=a+L.length) (hV:∀ x ∈ L,sy s.type x) :
 gp PP 103 [.sl 0 0 N 4,.sc (.int .i64 (a)),.sc (.int .i64 (b)),(.fn (.func 70) [] [.ptr 1 0])] (bj [some (.row (cellsOf aq true ((A++L++Z))) 0 0 71),some (.row [.vl false 1 (s.owner.map (ak.val false)),.sc (.int .u16 s.type.toNat),.sc (.int .u16 s.cls.toNat),.sc (.int .u32 s.ff.toNat),.vl false 4 (s.data.map (aq.val false))] 0 2 33)])
  (fun r st'=>r = .ea []∧st'=bj [some (.row (cellsOf aq true ((A++c8 (dz s.type) L++Z))) 0 0 71),some (.row [.vl false 1 (s.owner.map (ak.val false)),.sc (.int .u16 s.type.toNat),.sc (.int .u16 s.cls.toNat),.sc (.int .u32 s.ff.toNat),.vl false 4 (s.data.map (aq.val false))] 0 2 33)]):=by
 have hc:∀ a b c d,dj a b c=d→dj a b c=d:=fun _ _ _ _ h=>h
 have hlen:N=A.length+L.length+Z.length:=by rw [hN];simp;omega
 refine cz _ rfl ?_ (fun r st' h=>h)
 refine bn (T:=[ab7]) (an.cons (ar Hq) (an.nil PP)) mixed Tryz.func103 rfl (by kernel_rfl) (by kernel_rfl) (by kernel_rfl) (by kernel_rfl) ?_;unfold Tryz.f103
 simp only [↓wR,RA,simprocAttr,TF,ae]
 refine cq [0,1,2,3,8] (fun (i:Nat)=>[.sl 0 0 N 4,.sc (.int .i64 (a)),.sc (.int .i64 (b)),(.fn (.func 70) [] [.ptr 1 0]),.sc (.int .i64 (i))]) (fun i=>[some (.row (cellsOf aq true ((A++c8 (dz s.type) (L.take (i - a))++L.drop (i - a)++Z))) 0 0 71),some (.row [.vl false 1 (s.owner.map (ak.val false)),.sc (.int .u16 s.type.toNat),.sc (.int .u16 s.cls.toNat),.sc (.int .u32 s.ff.toNat),.vl false 4 (s.data.map (aq.val false))] 0 2 33)]) (fun i=>a<i∧(i≤b∨i=a+1)) (fun i=>b - i) (a+1) ⟨by omega,.inr rfl⟩ (by simp only [↓wR,RA,simprocAttr,TF,ae];repeat (simp (disch:=omega) only [ah,be,bf,bd,bg];try simp only [↓wR,RA,simprocAttr,TF,ae])<;>rfl) (by
  simp only [↓wR,RA,simprocAttr,TF,ae]
  cases L with
  |nil=>simp [c8]
  |cons x l=>simp [c8,g5]) ?_
 rintro i ⟨hi0,hi⟩
 simp only [↓wR,RA,simprocAttr,TF,ae]
 rw [bc];refine ⟨fun h=>?_,fun h=>?_⟩
 ·have hlt:i<b:=by omega
  obtain ⟨x,hx⟩:∃ x,L[i - a]? = some x:=⟨_,List.getElem?_eq_getElem (by omega)⟩
  have hxV:=hV x (List.mem_of_getElem? hx)
  obtain ⟨sp,hse⟩:∃ sp,sp=c8 (dz s.type) (L.take (i - a)):=⟨_,rfl⟩
  have hsl:sp.length=i - a:=by rw [hse,dn,List.length_take];omega
  have hsV:∀ y ∈ sp,sy s.type y:=fun y hy=>hV y (List.mem_of_mem_take (jh.1 (by rw [← hse];exact hy)))
  have hsR:gu (dz s.type) sp:=by rw [hse];exact l6 (nm s.type) _ (fun y hy=>hV y (List.mem_of_mem_take hy))
  have hnext:c8 (dz s.type) (L.take (i+1 - a))=g5 (dz s.type) x sp:=by rw [show i+1 - a=i - a+1 by omega,iq hx,qo,← hse]
  obtain ⟨W,hW⟩:∃ W,W=L.drop (i+1 - a)++Z:=⟨_,rfl⟩
  have hcur:A++c8 (dz s.type) (L.take (i - a))++L.drop (i - a)++Z=A++sp++x::W:=by rw [← hse,lj hx,hW,show i+1 - a=i - a+1 by omega];simp
  rw [hcur]
  simp only [↓wR,RA,simprocAttr,TF,ae,h]
  refine cq [0,1,2,3,8,9] (fun (j:Nat)=>[.sl 0 0 N 4,.sc (.int .i64 (a)),.sc (.int .i64 (b)),(.fn (.func 70) [] [.ptr 1 0]),.sc (.int .i64 (i)),.sc (.int .i64 (j))]) (fun j=>[some (.row (cellsOf aq true ((A++sp.take (j - a)++x::(sp.drop (j - a)++W)))) 0 0 71),some (.row [.vl false 1 (s.owner.map (ak.val false)),.sc (.int .u16 s.type.toNat),.sc (.int .u16 s.cls.toNat),.sc (.int .u32 s.ff.toNat),.vl false 4 (s.data.map (aq.val false))] 0 2 33)]) (fun j=>a≤j∧j≤i∧∀ y,sp[j - a]? = some y→(dz s.type) x y=true) (fun j=>j - a) i ⟨by omega,Nat.le_refl _,fun y hy=>by rw [List.getElem?_eq_none (by omega)] at hy;cases hy⟩ (by simp only [↓wR,RA,simprocAttr,TF,ae]<;>rfl) (by
   simp only [↓wR,RA,simprocAttr,TF,ae]
   rw [show List.take (i - a) sp=sp from List.take_of_length_le (by omega),show List.drop (i - a) sp=[] from List.drop_eq_nil_of_le (by omega)];simp) ?_
  rintro j ⟨hj0,hj1,hj2⟩
  simp only [↓wR,RA,simprocAttr,TF,ae]
  by_cases hja:a<j
  ·obtain ⟨y,hy⟩:∃ y,sp[j - 1 - a]? = some y:=⟨_,List.getElem?_eq_getElem (by omega)⟩
   have hyV:=hsV y (List.mem_of_getElem? hy)
   have hdg:decide ((j:Int) > (a:Int))=true:=decide_eq_true (by omega)
   have hj3:(j:Int) - 1=((j - 1:Nat):Int):=by omega
   have hjj:j - a=j - 1 - a+1:=by omega
   have hc2:A++sp.take (j - a)++x::(sp.drop (j - a)++W)=A++sp.take (j - 1 - a)++y::(x::(sp.drop (j - a)++W)):=by rw [hjj,iq hy];simp
   obtain ⟨X,hX⟩:∃ X,X=A++sp.take (j - 1 - a):=⟨_,rfl⟩
   obtain ⟨Y,hY⟩:∃ Y,Y=sp.drop (j - a)++W:=⟨_,rfl⟩
   have hxl:X.length=j - 1:=by rw [hX,List.length_append,List.length_take];omega
   have g1:(X++y::x::Y)[j - 1]? = some y:=by rw [← hxl];exact get_at X _ y
   have g2:(X++y::x::Y)[j]? = some x:=by
    have:=get_at (X++[y]) Y x
    rw [show (X++[y]).length=j by rw [List.length_append,hxl,List.length_singleton];omega] at this
    rw [← this];simp
   have l1:=jn 0 0 71 g1
   have l2:=jn 0 0 71 g2
   rw [hc2,← hX,← hY]
   simp only [↓wR,RA,simprocAttr,TF,ae,hdg,hj3,↓l1,↓l2,kg,hxV.1,hyV.1];repeat (simp (disch:=omega) only [ah,be,bf,bd,bg];try simp only [↓wR,RA,simprocAttr,TF,ae,hdg,hj3,↓l1,↓l2,kg,hxV.1,hyV.1])
   refine ⟨by kernel_rfl,.inl ?_⟩
   rw [u6 (g:=70) (a:=[]) (b:=[.ptr 1 0])]
   rotate_left
   ·rfl
   simp only [↓wR,RA,simprocAttr,TF,ae]
   refine ⟨by apply hc;kernel_rfl,?_⟩
   rw [bc];refine ⟨fun hl=>?_,fun hl=>?_⟩
   ·have hll:(dz s.type) x y=true:=decide_eq_true hl
    have s1:(X++y::x::Y).set j y=X++y::y::Y:=by
     have:=ox (X++[y]) Y x y
     rw [show (X++[y]).length=j by rw [List.length_append,hxl,List.length_singleton];omega] at this
     simpa using this
    have s2:(X++y::y::Y).set (j - 1) x=X++x::y::Y:=by rw [← hxl];exact ox X _ y x
    have g3:(X++y::y::Y)[j - 1]? = some y:=by rw [← hxl];exact get_at X _ y
    have t1:=qk y 0 71 0 g2
    have t2:=qk x 0 71 0 g3
    rw [s1] at t1
    rw [s2] at t2
    simp only [↓wR,RA,simprocAttr,TF,ae,hl,hj3,↓l1,↓l2,↓t1,↓t2];repeat (simp (disch:=omega) only [ah,be,bf,bd,bg];try simp only [↓wR,RA,simprocAttr,TF,ae,hl,hj3,↓l1,↓l2,↓t1,↓t2])
    refine ⟨by kernel_rfl,.inl ?_⟩
    refine ⟨by apply hc;kernel_rfl,j - 1,⟨by omega,by omega,fun z hz=>?_⟩,by omega,by (first|rfl|trivial|omega|((try (simp (disch:=omega) only [ah]));(try (simp only [FB]));first|done|rfl|omega)),?_⟩
    ·rw [hy] at hz;cases hz;exact hll
    ·rw [hX,hY,hjj,lj hy];simp
   ·have hll:(dz s.type) x y=false:=decide_eq_false hl
    have hA:∀ z ∈ sp.take (j - a),(dz s.type) x z=false:=by
     refine Dr (nm s.type) hsV hsR hxV (by omega) (fun c _ hcc=>?_)
     rw [show j - a - 1=j - 1 - a by omega,hy] at hcc;cases hcc;exact hll
    have hins:g5 (dz s.type) x sp=sp.take (j - a)++x::sp.drop (j - a):=by
     have:=Fs (lt:=(dz s.type)) (x:=x) (sp.take (j - a)) (sp.drop (j - a)) hA (fun z hz=>by rw [List.head?_drop] at hz;exact hj2 z hz)
     rw [List.take_append_drop] at this
     exact this
    simp only [↓wR,RA,simprocAttr,TF,ae,hl];repeat (simp (disch:=omega) only [ah,be,bf,bd,bg];try simp only [↓wR,RA,simprocAttr,TF,ae,hl])
    refine ⟨i+1,⟨by omega,by omega⟩,by omega,by (first|rfl|trivial|omega|((try (simp (disch:=omega) only [ah]));(try (simp only [FB]));first|done|rfl|omega)),?_⟩
    rw [hnext,hins,hX,hY,hW,hjj,iq hy];simp
  ·have hja':j=a:=by omega
   subst hja'
   have hins:g5 (dz s.type) x sp=x::sp:=by
    have:=Fs (lt:=(dz s.type)) (x:=x) [] sp (fun z hz=>by cases hz) (fun z hz=>by rw [Nat.sub_self] at hj2;rw [List.head?_eq_getElem?] at hz;exact hj2 z hz)
    exact this
   have hdg:decide ((j:Int) > (j:Int))=false:=decide_eq_false (by omega)
   simp only [↓wR,RA,simprocAttr,TF,ae,hdg];repeat (simp (disch:=omega) only [ah,be,bf,bd,bg];try simp only [↓wR,RA,simprocAttr,TF,ae,hdg])
   refine ⟨by kernel_rfl,.inl ?_⟩
   refine ⟨by apply hc;kernel_rfl,i+1,⟨by omega,by omega⟩,by omega,by (first|rfl|trivial|omega|((try (simp (disch:=omega) only [ah]));(try (simp only [FB]));first|done|rfl|omega)),?_⟩
   rw [hnext,hins,hW];simp
 ·have hin:L.length≤i - a:=by omega
  rw [List.take_of_length_le hin,List.drop_eq_nil_of_le hin]
  simp only [↓wR,RA,simprocAttr,TF,ae,h,ft,fh,eu,List.append_nil]
theorem Bj (N a b n:Nat) (A P M Q Z:List ba) (hN:N=(A++P++M++Q++Z).length) (hs:N≤1048576) (ha:a=A.length) (hp:n=P.length) (hq:n=Q.length) (hb:b=a+n+M.length) :
 gp PP 112 [.sl 0 0 N 5,.sc (.int .i64 (a)),.sc (.int .i64 (b)),.sc (.int .i64 (n)),(.sc (.func (.func 67) #[] #[]))] (bj [some (.row (cellsOf aj true ((A++P++M++Q++Z))) 0 0 33)])
  (fun r st'=>r = .ea []∧st'=bj [some (.row (cellsOf aj true ((A++Q++M++P++Z))) 0 0 33)]):=by
 have hc:∀ a b c d,dj a b c=d→dj a b c=d:=fun _ _ _ _ h=>h
 have hlen:N=A.length+P.length+M.length+Q.length+Z.length:=by rw [hN];simp;omega
 refine cz _ rfl ?_ (fun r st' h=>h)
 refine bn (T:=[]) (an.nil PP) mixed Tryz.func112 rfl (by kernel_rfl) (by kernel_rfl) (by kernel_rfl) (by kernel_rfl) ?_;unfold Tryz.f112
 simp only [↓wR,RA,simprocAttr,TF,ae]
 refine cq [0,1,2,3,10] (fun (i:Nat)=>[.sl 0 0 N 5,.sc (.int .i64 (a)),.sc (.int .i64 (b)),.sc (.int .i64 (n)),.sc (.int .i64 (i))]) (fun i=>[some (.row (cellsOf aj true ((A++Q.take i++P.drop i++M++P.take i++Q.drop i++Z))) 0 0 33)]) (fun i=>i≤n) (fun i=>n - i) 0 (Nat.zero_le _) (by simp only [↓wR,RA,simprocAttr,TF,ae]<;>simp) (by simp only [↓wR,RA,simprocAttr,TF,ae]<;>simp) ?_
 intro i hi
 simp only [↓wR,RA,simprocAttr,TF,ae]
 rw [bc];refine ⟨fun h=>?_,fun h=>?_⟩
 ·have hlt:i<n:=by omega
  obtain ⟨p,hpp⟩:∃ p,P[i]? = some p:=⟨_,List.getElem?_eq_getElem (by omega)⟩
  obtain ⟨q,hqq⟩:∃ q,Q[i]? = some q:=⟨_,List.getElem?_eq_getElem (by omega)⟩
  obtain ⟨X,hX⟩:∃ X,X=A++Q.take i:=⟨_,rfl⟩
  obtain ⟨Y,hY⟩:∃ Y,Y=P.drop (i+1)++M++P.take i:=⟨_,rfl⟩
  obtain ⟨W,hW⟩:∃ W,W=Q.drop (i+1)++Z:=⟨_,rfl⟩
  have hx1:X.length=a+i:=by rw [hX,List.length_append,List.length_take];omega
  have hy1:Y.length=n - 1+M.length:=by rw [hY];simp;omega
  have hpd:P.drop i=p::P.drop (i+1):=by obtain ⟨_,rfl⟩:=List.getElem?_eq_some_iff.1 hpp;exact List.drop_eq_getElem_cons _
  have hqd:Q.drop i=q::Q.drop (i+1):=by obtain ⟨_,rfl⟩:=List.getElem?_eq_some_iff.1 hqq;exact List.drop_eq_getElem_cons _
  have hpt:P.take (i+1)=P.take i++[p]:=by rw [List.take_add_one,hpp];rfl
  have hqt:Q.take (i+1)=Q.take i++[q]:=by rw [List.take_add_one,hqq];rfl
  have hcur:A++Q.take i++P.drop i++M++P.take i++Q.drop i++Z=X++p::(Y++q::W):=by rw [hX,hY,hW,hpd,hqd];simp
  have ew:A++Q.take (i+1)++P.drop (i+1)++M++P.take (i+1)++Q.drop (i+1)++Z=X++q::(Y++p::W):=by rw [hX,hY,hW,hpt,hqt];simp
  have hi1:(a:Int)+i=((a+i:Nat):Int):=by omega
  have hi2:(b:Int)+i=((b+i:Nat):Int):=by omega
  have g1:(X++p::(Y++q::W))[a+i]? = some p:=by rw [← hx1];exact get_at X _ p
  have hxy:(X++p::Y).length=b+i:=by rw [List.length_append,List.length_cons,hx1,hy1];omega
  have g2:(X++p::(Y++q::W))[b+i]? = some q:=by
   have:=get_at (X++p::Y) W q
   rw [hxy] at this
   rw [← this];simp
  have s1:(X++p::(Y++q::W)).set (a+i) q=X++q::(Y++q::W):=by rw [← hx1];exact ox X _ p q
  have g3:(X++q::(Y++q::W))[b+i]? = some q:=by
   have:=get_at (X++q::Y) W q
   rw [show (X++q::Y).length=b+i by rw [← hxy];simp] at this
   rw [← this];simp
  have s2:(X++q::(Y++q::W)).set (b+i) p=X++q::(Y++p::W):=by
   have:=ox (X++q::Y) W q p
   rw [show (X++q::Y).length=b+i by rw [← hxy];simp] at this
   simpa using this
  have l1:=kb 0 0 33 g1
  have l2:=kb 0 0 33 g2
  have t1:=sf q 0 33 0 g1
  have t2:=sf p 0 33 0 g3
  rw [s1] at t1
  rw [s2] at t2
  rw [hcur]
  simp only [↓wR,RA,simprocAttr,TF,ae,h,hi1,hi2,↓l1,↓l2,↓t1,↓t2];repeat (simp (disch:=omega) only [ah,be,bf,bd,bg];try simp only [↓wR,RA,simprocAttr,TF,ae,h,hi1,hi2,↓l1,↓l2,↓t1,↓t2])
  refine ⟨by kernel_rfl,.inl ?_⟩
  exact ⟨by apply hc;kernel_rfl,i+1,hlt,by omega,by (first|rfl|trivial|omega|((try (simp (disch:=omega) only [ah]));(try (simp only [FB]));first|done|rfl|omega)),by rw [ew]⟩
 ·have hin:i=n:=by omega
  subst hin
  have e1:Q.take i=Q:=by rw [hq,List.take_length]
  have e2:P.drop i=[]:=by rw [hp,List.drop_length]
  have e3:P.take i=P:=by rw [hp,List.take_length]
  have e4:Q.drop i=[]:=by rw [hq,List.drop_length]
  rw [e1,e2,e3,e4]
  simp only [↓wR,RA,simprocAttr,TF,ae,h,ft,fh,eu,List.append_nil]
theorem abx (N a m b:Nat) (A L R Z:List ba) (hN:N=(A++L++R++Z).length) (hs:N≤1048576) (ha:a=A.length) (hm:m=a+L.length) (hb:b=m+R.length) (hl : 0<L.length) (hr : 0<R.length) :
 gp PP 109 [.sl 0 0 N 5,.sc (.int .i64 (a)),.sc (.int .i64 (m)),.sc (.int .i64 (b)),(.sc (.func (.func 67) #[] #[]))] (bj [some (.row (cellsOf aj true ((A++L++R++Z))) 0 0 33)])
  (fun r st'=>r = .ea []∧st'=bj [some (.row (cellsOf aj true ((A++R++L++Z))) 0 0 33)]):=by
 have hlen:N=A.length+L.length+R.length+Z.length:=by rw [hN];simp;omega
 refine cz _ rfl ?_ (fun r st' h=>h)
 refine bn (T:=[]) (an.nil PP) mixed Tryz.func109 rfl (by kernel_rfl) (by kernel_rfl) (by kernel_rfl) (by kernel_rfl) ?_;unfold Tryz.f109
 have hi1:(m:Int) - a=((L.length:Nat):Int):=by omega
 have hi2:(b:Int) - m=((R.length:Nat):Int):=by omega
 simp only [↓wR,RA,simprocAttr,TF,ae,hi1,hi2];repeat (simp (disch:=omega) only [ah,be,bf,bd,bg];try simp only [↓wR,RA,simprocAttr,TF,ae,hi1,hi2])
 refine cq [0,2,4,10,11] (fun (x:List ba × List ba × List ba × List ba)=>[.sl 0 0 N 5,.sc (.int .i64 (m)),(.sc (.func (.func 67) #[] #[])),.sc (.int .i64 (x.2.1.length)),.sc (.int .i64 (x.2.2.1.length))]) (fun x=>[some (.row (cellsOf aj true ((x.1++x.2.1++x.2.2.1++x.2.2.2))) 0 0 33)]) (fun x=>x.1++x.2.2.1++x.2.1++x.2.2.2=A++R++L++Z∧x.1.length+x.2.1.length=m∧0<x.2.1.length∧0<x.2.2.1.length) (fun x=>x.2.1.length+x.2.2.1.length) (A,L,R,Z) ⟨rfl,by show A.length+L.length=m;omega,hl,hr⟩ (by simp only [↓wR,RA,simprocAttr,TF,ae]<;>rfl) (by simp only [↓wR,RA,simprocAttr,TF,ae]<;>rfl) ?_
 rintro ⟨A',P,Q,Z'⟩ ⟨h1,h2,h3,h4⟩
 have h5:=congrArg List.length h1
 simp only [List.length_append] at h1 h2 h3 h4 h5
 simp only []
 simp only [↓wR,RA,simprocAttr,TF,ae]
 rw [dr];refine ⟨fun ⟨h,e⟩=>?_,fun ⟨h,e⟩=>?_⟩
 ·have hne:P.length≠Q.length:=by omega
  simp only [↓wR,RA,simprocAttr,TF,ae,h]
  have hi3:(m:Int) - P.length=((A'.length:Nat):Int):=by omega
  rw [bc];refine ⟨fun hg=>?_,fun hg=>?_⟩
  ·have hlt:Q.length<P.length:=by omega
   obtain ⟨P1,hP1⟩:∃ P1,P1=P.take Q.length:=⟨_,rfl⟩
   obtain ⟨P2,hP2⟩:∃ P2,P2=P.drop Q.length:=⟨_,rfl⟩
   have hp:P=P1++P2:=by rw [hP1,hP2,List.take_append_drop]
   have hl1:P1.length=Q.length:=by rw [hP1,List.length_take];omega
   have hl2:P2.length=P.length - Q.length:=by rw [hP2,List.length_drop]
   have hi4:(P.length:Int) - Q.length=((P2.length:Nat):Int):=by omega
   simp only [↓wR,RA,simprocAttr,TF,ae,hg,hi3];repeat (simp (disch:=omega) only [ah,be,bf,bd,bg];try simp only [↓wR,RA,simprocAttr,TF,ae,hg,hi3])
   refine dq (R0:=fun r st'=>r = .ea []∧st'=bj [some (.row (cellsOf aj true ((A'++Q++P2++P1++Z'))) 0 0 33)]) ?_ ?_
   ·have:=Bj N A'.length m Q.length A' P1 P2 Q Z' (by simp only [List.length_append];omega) hs rfl hl1.symm rfl (by omega)
    rw [show A'++P++Q++Z'=A'++P1++P2++Q++Z' by rw [hp];simp]
    exact this
   ·rintro _ _ ⟨rfl,rfl⟩
    simp only [↓wR,RA,simprocAttr,TF,ae,da,hi4];repeat (simp (disch:=omega) only [ah,be,bf,bd,bg];try simp only [↓wR,RA,simprocAttr,TF,ae,da,hi4])
    refine ⟨(A'++Q,P2,P1,Z'),⟨?_,?_,?_,?_⟩,?_,?_,?_⟩
    ·rw [← h1,hp];simp
    ·simp only [List.length_append];omega
    ·show 0<P2.length;omega
    ·show 0<P1.length;omega
    ·show P2.length+P1.length<P.length+Q.length;omega
    ·rw [hl1]
    ·simp only [List.append_assoc]
  ·have hlt:P.length<Q.length:=by omega
   obtain ⟨Q1,hQ1⟩:∃ Q1,Q1=Q.take (Q.length - P.length):=⟨_,rfl⟩
   obtain ⟨Q2,hQ2⟩:∃ Q2,Q2=Q.drop (Q.length - P.length):=⟨_,rfl⟩
   have hp:Q=Q1++Q2:=by rw [hQ1,hQ2,List.take_append_drop]
   have hl1:Q1.length=Q.length - P.length:=by rw [hQ1,List.length_take];omega
   have hl2:Q2.length=P.length:=by rw [hQ2,List.length_drop];omega
   have hi4:(Q.length:Int) - P.length=((Q1.length:Nat):Int):=by omega
   have hi5:(m:Int)+Q.length - P.length=((m+Q1.length:Nat):Int):=by omega
   simp only [↓wR,RA,simprocAttr,TF,ae,hg,hi3,hi5];repeat (simp (disch:=omega) only [ah,be,bf,bd,bg];try simp only [↓wR,RA,simprocAttr,TF,ae,hg,hi3,hi5])
   refine dq (R0:=fun r st'=>r = .ea []∧st'=bj [some (.row (cellsOf aj true ((A'++Q2++Q1++P++Z'))) 0 0 33)]) ?_ ?_
   ·have:=Bj N A'.length (m+Q1.length) P.length A' P Q1 Q2 Z' (by simp only [List.length_append];omega) hs rfl rfl hl2.symm (by omega)
    rw [show A'++P++Q++Z'=A'++P++Q1++Q2++Z' by rw [hp];simp]
    exact this
   ·rintro _ _ ⟨rfl,rfl⟩
    simp only [↓wR,RA,simprocAttr,TF,ae,da,hi4];repeat (simp (disch:=omega) only [ah,be,bf,bd,bg];try simp only [↓wR,RA,simprocAttr,TF,ae,da,hi4])
    refine ⟨(A',Q2,Q1,P++Z'),⟨?_,?_,?_,?_⟩,?_,?_,?_⟩
    ·rw [← h1,hp];simp
    ·show A'.length+Q2.length=m;omega
    ·show 0<Q2.length;omega
    ·show 0<Q1.length;omega
    ·show Q2.length+Q1.length<P.length+Q.length;omega
    ·rw [hl2]
    ·simp only [List.append_assoc]
 ·have hne:P.length=Q.length:=by omega
  simp only [↓wR,RA,simprocAttr,TF,ae,h]
  have hi3:(m:Int) - P.length=((A'.length:Nat):Int):=by omega
  simp only [↓wR,RA,simprocAttr,TF,ae,hi3];repeat (simp (disch:=omega) only [ah,be,bf,bd,bg];try simp only [↓wR,RA,simprocAttr,TF,ae,hi3])
  refine dq (R0:=fun r st'=>r = .ea []∧st'=bj [some (.row (cellsOf aj true ((A++R++L++Z))) 0 0 33)]) ?_ ?_
  ·have:=Bj N A'.length m P.length A' P [] Q Z' (by simp only [List.length_append,List.length_nil];omega) hs rfl rfl hne (by simp only [List.length_nil];omega)
   rw [List.append_nil,List.append_nil,List.append_assoc (A'++Q),← List.append_assoc (A'++Q),h1] at this
   exact this
  ·rintro _ _ ⟨rfl,rfl⟩
   simp only [↓wR,RA,simprocAttr,TF,ae,da,ft,fh,eu]
theorem Jb (N a b:Nat) (A L Z:List ba) (hN:N=(A++L++Z).length) (hs:N≤1048576) (ha:a=A.length) (hb:b=a+L.length) (hV:∀ x ∈ L,ct x) :
 gp PP 101 [.sl 0 0 N 5,.sc (.int .i64 (a)),.sc (.int .i64 (b)),(.sc (.func (.func 67) #[] #[]))] (bj [some (.row (cellsOf aj true ((A++L++Z))) 0 0 33)])
  (fun r st'=>r = .ea []∧st'=bj [some (.row (cellsOf aj true ((A++c8 dk L++Z))) 0 0 33)]):=by
 have hc:∀ a b c d,dj a b c=d→dj a b c=d:=fun _ _ _ _ h=>h
 have hlen:N=A.length+L.length+Z.length:=by rw [hN];simp;omega
 refine cz _ rfl ?_ (fun r st' h=>h)
 refine bn (T:=[aa9]) (an.cons (ar Hr) (an.nil PP)) mixed Tryz.func101 rfl (by kernel_rfl) (by kernel_rfl) (by kernel_rfl) (by kernel_rfl) ?_;unfold Tryz.f101
 simp only [↓wR,RA,simprocAttr,TF,ae]
 refine cq [0,1,2,3,8] (fun (i:Nat)=>[.sl 0 0 N 5,.sc (.int .i64 (a)),.sc (.int .i64 (b)),(.sc (.func (.func 67) #[] #[])),.sc (.int .i64 (i))]) (fun i=>[some (.row (cellsOf aj true ((A++c8 dk (L.take (i - a))++L.drop (i - a)++Z))) 0 0 33)]) (fun i=>a<i∧(i≤b∨i=a+1)) (fun i=>b - i) (a+1) ⟨by omega,.inr rfl⟩ (by simp only [↓wR,RA,simprocAttr,TF,ae];repeat (simp (disch:=omega) only [ah,be,bf,bd,bg];try simp only [↓wR,RA,simprocAttr,TF,ae])<;>rfl) (by
  simp only [↓wR,RA,simprocAttr,TF,ae]
  cases L with
  |nil=>simp [c8]
  |cons x l=>simp [c8,g5]) ?_
 rintro i ⟨hi0,hi⟩
 simp only [↓wR,RA,simprocAttr,TF,ae]
 rw [bc];refine ⟨fun h=>?_,fun h=>?_⟩
 ·have hlt:i<b:=by omega
  obtain ⟨x,hx⟩:∃ x,L[i - a]? = some x:=⟨_,List.getElem?_eq_getElem (by omega)⟩
  have hxV:=hV x (List.mem_of_getElem? hx)
  obtain ⟨sp,hse⟩:∃ sp,sp=c8 dk (L.take (i - a)):=⟨_,rfl⟩
  have hsl:sp.length=i - a:=by rw [hse,dn,List.length_take];omega
  have hsV:∀ y ∈ sp,ct y:=fun y hy=>hV y (List.mem_of_mem_take (jh.1 (by rw [← hse];exact hy)))
  have hsR:gu dk sp:=by rw [hse];exact l6 nl _ (fun y hy=>hV y (List.mem_of_mem_take hy))
  have hnext:c8 dk (L.take (i+1 - a))=g5 dk x sp:=by rw [show i+1 - a=i - a+1 by omega,iq hx,qo,← hse]
  obtain ⟨W,hW⟩:∃ W,W=L.drop (i+1 - a)++Z:=⟨_,rfl⟩
  have hcur:A++c8 dk (L.take (i - a))++L.drop (i - a)++Z=A++sp++x::W:=by rw [← hse,lj hx,hW,show i+1 - a=i - a+1 by omega];simp
  rw [hcur]
  simp only [↓wR,RA,simprocAttr,TF,ae,h]
  refine cq [0,1,2,3,8,9] (fun (j:Nat)=>[.sl 0 0 N 5,.sc (.int .i64 (a)),.sc (.int .i64 (b)),(.sc (.func (.func 67) #[] #[])),.sc (.int .i64 (i)),.sc (.int .i64 (j))]) (fun j=>[some (.row (cellsOf aj true ((A++sp.take (j - a)++x::(sp.drop (j - a)++W)))) 0 0 33)]) (fun j=>a≤j∧j≤i∧∀ y,sp[j - a]? = some y→dk x y=true) (fun j=>j - a) i ⟨by omega,Nat.le_refl _,fun y hy=>by rw [List.getElem?_eq_none (by omega)] at hy;cases hy⟩ (by simp only [↓wR,RA,simprocAttr,TF,ae]<;>rfl) (by
   simp only [↓wR,RA,simprocAttr,TF,ae]
   rw [show List.take (i - a) sp=sp from List.take_of_length_le (by omega),show List.drop (i - a) sp=[] from List.drop_eq_nil_of_le (by omega)];simp) ?_
  rintro j ⟨hj0,hj1,hj2⟩
  simp only [↓wR,RA,simprocAttr,TF,ae]
  by_cases hja:a<j
  ·obtain ⟨y,hy⟩:∃ y,sp[j - 1 - a]? = some y:=⟨_,List.getElem?_eq_getElem (by omega)⟩
   have hyV:=hsV y (List.mem_of_getElem? hy)
   have hdg:decide ((j:Int) > (a:Int))=true:=decide_eq_true (by omega)
   have hj3:(j:Int) - 1=((j - 1:Nat):Int):=by omega
   have hjj:j - a=j - 1 - a+1:=by omega
   have hc2:A++sp.take (j - a)++x::(sp.drop (j - a)++W)=A++sp.take (j - 1 - a)++y::(x::(sp.drop (j - a)++W)):=by rw [hjj,iq hy];simp
   obtain ⟨X,hX⟩:∃ X,X=A++sp.take (j - 1 - a):=⟨_,rfl⟩
   obtain ⟨Y,hY⟩:∃ Y,Y=sp.drop (j - a)++W:=⟨_,rfl⟩
   have hxl:X.length=j - 1:=by rw [hX,List.length_append,List.length_take];omega
   have g1:(X++y::x::Y)[j - 1]? = some y:=by rw [← hxl];exact get_at X _ y
   have g2:(X++y::x::Y)[j]? = some x:=by
    have:=get_at (X++[y]) Y x
    rw [show (X++[y]).length=j by rw [List.length_append,hxl,List.length_singleton];omega] at this
    rw [← this];simp
   have l1:=kb 0 0 33 g1
   have l2:=kb 0 0 33 g2
   rw [hc2,← hX,← hY]
   simp only [↓wR,RA,simprocAttr,TF,ae,hdg,hj3,↓l1,↓l2,ko,hxV,hyV];repeat (simp (disch:=omega) only [ah,be,bf,bd,bg];try simp only [↓wR,RA,simprocAttr,TF,ae,hdg,hj3,↓l1,↓l2,ko,hxV,hyV])
   refine ⟨by kernel_rfl,.inl ?_⟩
   (try simp only [↓wR,RA,simprocAttr,TF,ae,C7])
   refine ⟨by apply hc;kernel_rfl,?_⟩
   rw [bc];refine ⟨fun hl=>?_,fun hl=>?_⟩
   ·have hll:dk x y=true:=decide_eq_true hl
    have s1:(X++y::x::Y).set j y=X++y::y::Y:=by
     have:=ox (X++[y]) Y x y
     rw [show (X++[y]).length=j by rw [List.length_append,hxl,List.length_singleton];omega] at this
     simpa using this
    have s2:(X++y::y::Y).set (j - 1) x=X++x::y::Y:=by rw [← hxl];exact ox X _ y x
    have g3:(X++y::y::Y)[j - 1]? = some y:=by rw [← hxl];exact get_at X _ y
    have t1:=sf y 0 33 0 g2
    have t2:=sf x 0 33 0 g3
    rw [s1] at t1
    rw [s2] at t2
    simp only [↓wR,RA,simprocAttr,TF,ae,hl,hj3,↓l1,↓l2,↓t1,↓t2];repeat (simp (disch:=omega) only [ah,be,bf,bd,bg];try simp only [↓wR,RA,simprocAttr,TF,ae,hl,hj3,↓l1,↓l2,↓t1,↓t2])
    refine ⟨by kernel_rfl,.inl ?_⟩
    refine ⟨by apply hc;kernel_rfl,j - 1,⟨by omega,by omega,fun z hz=>?_⟩,by omega,by (first|rfl|trivial|omega|((try (simp (disch:=omega) only [ah]));(try (simp only [FB]));first|done|rfl|omega)),?_⟩
    ·rw [hy] at hz;cases hz;exact hll
    ·rw [hX,hY,hjj,lj hy];simp
   ·have hll:dk x y=false:=decide_eq_false hl
    have hA:∀ z ∈ sp.take (j - a),dk x z=false:=by
     refine Dr nl hsV hsR hxV (by omega) (fun c _ hcc=>?_)
     rw [show j - a - 1=j - 1 - a by omega,hy] at hcc;cases hcc;exact hll
    have hins:g5 dk x sp=sp.take (j - a)++x::sp.drop (j - a):=by
     have:=Fs (lt:=dk) (x:=x) (sp.take (j - a)) (sp.drop (j - a)) hA (fun z hz=>by rw [List.head?_drop] at hz;exact hj2 z hz)
     rw [List.take_append_drop] at this
     exact this
    simp only [↓wR,RA,simprocAttr,TF,ae,hl];repeat (simp (disch:=omega) only [ah,be,bf,bd,bg];try simp only [↓wR,RA,simprocAttr,TF,ae,hl])
    refine ⟨i+1,⟨by omega,by omega⟩,by omega,by (first|rfl|trivial|omega|((try (simp (disch:=omega) only [ah]));(try (simp only [FB]));first|done|rfl|omega)),?_⟩
    rw [hnext,hins,hX,hY,hW,hjj,iq hy];simp
  ·have hja':j=a:=by omega
   subst hja'
   have hins:g5 dk x sp=x::sp:=by
    have:=Fs (lt:=dk) (x:=x) [] sp (fun z hz=>by cases hz) (fun z hz=>by rw [Nat.sub_self] at hj2;rw [List.head?_eq_getElem?] at hz;exact hj2 z hz)
    exact this
   have hdg:decide ((j:Int) > (j:Int))=false:=decide_eq_false (by omega)
   simp only [↓wR,RA,simprocAttr,TF,ae,hdg];repeat (simp (disch:=omega) only [ah,be,bf,bd,bg];try simp only [↓wR,RA,simprocAttr,TF,ae,hdg])
   refine ⟨by kernel_rfl,.inl ?_⟩
   refine ⟨by apply hc;kernel_rfl,i+1,⟨by omega,by omega⟩,by omega,by (first|rfl|trivial|omega|((try (simp (disch:=omega) only [ah]));(try (simp only [FB]));first|done|rfl|omega)),?_⟩
   rw [hnext,hins,hW];simp
 ·have hin:L.length≤i - a:=by omega
  rw [List.take_of_length_le hin,List.drop_eq_nil_of_le hin]
  simp only [↓wR,RA,simprocAttr,TF,ae,h,ft,fh,eu,List.append_nil]
theorem ap5 (x:Int) (h0 : 0≤x) (h1:x<9223372036854775808):IntKind.u64.wrap x=x:=by
 simp only [IntKind.wrap,IntKind.bits]
 have h2:x % 18446744073709551616=x:=Int.emod_eq_of_lt h0 (by omega)
 first|(simp [IntKind.signed];omega)|(simp;omega)
theorem half (i j:Nat) (h:i+j≤4611686018427387904):IntKind.i64.wrap ((IntKind.u64.wrap ((i:Int)+j)).fdiv 2)=(((i+j) / 2:Nat):Int):=by
 rw [ap5 _ (by omega) (by omega),← Int.natCast_add,arf,ah _ (by omega) (by omega)]
theorem vt (a b:Nat):decide ((a:Int)<(b:Int))=decide (a<b):=by simp
theorem Fg {p:Prop} [Decidable p]:(!decide p)=decide (¬ p):=by by_cases h:p<;>simp [h]
set_option maxHeartbeats 20000000 in
theorem If (d:Nat):∀ (N a m b:Nat) (A L R Z:List ba),b - a≤d→N=(A++L++R++Z).length→N≤1048576→a=A.length→m=a+L.length→b=m+R.length→0<L.length→0<R.length→(∀ x ∈ L,ct x)→(∀ x ∈ R,ct x)→gu dk L→gu dk R →
 gp PP 102 [.sl 0 0 N 5,.sc (.int .i64 (a)),.sc (.int .i64 (m)),.sc (.int .i64 (b)),(.sc (.func (.func 67) #[] #[]))] (bj [some (.row (cellsOf aj true ((A++L++R++Z))) 0 0 33)])
  (fun r st'=>r = .ea []∧st'=bj [some (.row (cellsOf aj true ((A++dp dk L R++Z))) 0 0 33)]):=by
 induction d with
 |zero=>intro N a m b A L R Z hd hN hs ha hm hb hl hr;omega
 |succ d ih=>
 intro N a m b A L R Z hd hN hs ha hm hb hl hr hLV hRV hLR hRR
 have hc:∀ a b c d,dj a b c=d→dj a b c=d:=fun _ _ _ _ h=>h
 have hlen:N=A.length+L.length+R.length+Z.length:=by rw [hN];simp;omega
 refine cz _ rfl ?_ (fun r st' h=>h)
 refine bn (T:=[aa9]) (an.cons (ar Hr) (an.nil PP)) mixed Tryz.func102 rfl (by kernel_rfl) (by kernel_rfl) (by kernel_rfl) (by kernel_rfl) ?_;unfold Tryz.f102
 have hi1:(m:Int) - a=((L.length:Nat):Int):=by omega
 simp only [↓wR,RA,simprocAttr,TF,ae,hi1];repeat (simp (disch:=omega) only [ah,be,bf,bd,bg];try simp only [↓wR,RA,simprocAttr,TF,ae,hi1])
 rw [di];refine ⟨fun ⟨h1,e1⟩=>?_,fun ⟨h1,e1⟩=>?_⟩
 ·have hL1:L.length=1:=by omega
  obtain ⟨x,rfl⟩:∃ x,L=[x]:=List.length_eq_one_iff.1 hL1
  have hxV:=hLV x (by simp)
  have hRb:∀ k c,R[k]? = some c→(A++[x]++R++Z)[m+k]? = some c:=fun k c hk=>by
   have hkl:=(List.getElem?_eq_some_iff.1 hk).1
   rw [List.append_assoc (A++[x]),List.getElem?_append_right (by simp at hm ⊢;omega),show m+k - (A++[x]).length=k by simp at hm ⊢;omega,List.getElem?_append_left hkl,hk]
  have gx:(A++[x]++R++Z)[a]? = some x:=by
   rw [List.append_assoc,List.append_assoc,ha];exact get_at A _ x
  simp only [↓wR,RA,simprocAttr,TF,ae,h1];repeat (simp (disch:=omega) only [ah,be,bf,bd,bg];try simp only [↓wR,RA,simprocAttr,TF,ae,h1])
  refine cq [0,1,4,10,11] (fun (p:Nat × Nat)=>[.sl 0 0 N 5,.sc (.int .i64 (a)),(.sc (.func (.func 67) #[] #[])),.sc (.int .i64 (p.1)),.sc (.int .i64 (p.2))]) (fun _=>[some (.row (cellsOf aj true ((A++[x]++R++Z))) 0 0 33)]) (fun p=>m≤p.1∧p.1≤p.2∧p.2≤b∧(∀ c,0<p.1 - m→R[p.1 - m - 1]? = some c→dk c x=true)∧(∀ c,R[p.2 - m]? = some c→dk c x=false)) (fun p=>p.2 - p.1) (m,b) ⟨Nat.le_refl _,by show m≤b;omega,Nat.le_refl _,fun c hq=>by simp at hq,fun c hq=>by rw [List.getElem?_eq_none (by show R.length≤b - m;omega)] at hq;cases hq⟩ (by simp only [↓wR,RA,simprocAttr,TF,ae]<;>rfl) (by simp only [↓wR,RA,simprocAttr,TF,ae]<;>rfl) ?_
  rintro ⟨i,j⟩ ⟨p1,p2,p3,p4,p5⟩
  simp only [] at p1 p2 p3 p4 p5 ⊢
  simp only [↓wR,RA,simprocAttr,TF,ae]
  rw [bc];refine ⟨fun h=>?_,fun h=>?_⟩
  ·have hlt:i<j:=by omega
   obtain ⟨u,hu⟩:∃ u,u=(i+j) / 2:=⟨_,rfl⟩
   have hub:i≤u∧u<j:=by omega
   have hhalf:=half i j (by omega)
   rw [← hu] at hhalf
   obtain ⟨y,hy⟩:∃ y,R[u - m]? = some y:=⟨_,List.getElem?_eq_getElem (by omega)⟩
   have hyV:=hRV y (List.mem_of_getElem? hy)
   have gy:=hRb _ _ hy
   rw [show m+(u - m)=u by omega] at gy
   have l1:=kb 0 0 33 gx
   have l2:=kb 0 0 33 gy
   simp only [↓wR,RA,simprocAttr,TF,ae,h,hhalf,↓l1,↓l2,ko,hxV,hyV];repeat (simp (disch:=omega) only [ah,be,bf,bd,bg];try simp only [↓wR,RA,simprocAttr,TF,ae,h,hhalf,↓l1,↓l2,ko,hxV,hyV])
   refine ⟨by kernel_rfl,.inl ?_⟩
   (try simp only [↓wR,RA,simprocAttr,TF,ae,C7])
   refine ⟨by apply hc;kernel_rfl,?_⟩
   rw [bc];refine ⟨fun hl=>?_,fun hl=>?_⟩
   ·have hll:dk y x=true:=decide_eq_true hl
    simp only [↓wR,RA,simprocAttr,TF,ae,hl];repeat (simp (disch:=omega) only [ah,be,bf,bd,bg];try simp only [↓wR,RA,simprocAttr,TF,ae,hl])
    exact ⟨(u+1,j),⟨by show m≤u+1;omega,by show u+1≤j;omega,p3,fun c _ hcc=>by
     have hcc':R[u+1 - m - 1]? = some c:=hcc
     rw [show u+1 - m - 1=u - m by omega,hy] at hcc';cases hcc';exact hll,p5⟩,by show j - (u+1)<j - i;omega,by (first|rfl|trivial|omega|((try (simp (disch:=omega) only [ah]));(try (simp only [FB]));first|done|rfl|omega))⟩
   ·have hll:dk y x=false:=decide_eq_false hl
    simp only [↓wR,RA,simprocAttr,TF,ae,hl];repeat (simp (disch:=omega) only [ah,be,bf,bd,bg];try simp only [↓wR,RA,simprocAttr,TF,ae,hl])
    exact ⟨(i,u),⟨p1,by show i≤u;omega,by show u≤b;omega,p4,fun c hcc=>by
     have hcc':R[u - m]? = some c:=hcc
     rw [hy] at hcc';cases hcc';exact hll⟩,by show u - i<j - i;omega,by (first|rfl|trivial|omega|((try (simp (disch:=omega) only [ah]));(try (simp only [FB]));first|done|rfl|omega))⟩
  ·have hij:j=i:=by omega
   subst hij
   have hmo:=V2 (lt:=dk) (x:=x) (l:=R) (i:=j - m) (Wn nl hRV hRR hxV (by omega) p4) p5
   obtain ⟨R1,hR1⟩:∃ R1,R1=R.take (j - m):=⟨_,rfl⟩
   obtain ⟨R2,hR2⟩:∃ R2,R2=R.drop (j - m):=⟨_,rfl⟩
   have hRe:R=R1++R2:=by rw [hR1,hR2,List.take_append_drop]
   have hR1l:R1.length=j - m:=by rw [hR1,List.length_take];omega
   rw [← hR1,← hR2] at hmo
   rw [hmo]
   simp only [↓wR,RA,simprocAttr,TF,ae,h]
   refine cq [0,10,13] (fun (k:Nat)=>[.sl 0 0 N 5,.sc (.int .i64 (j)),.sc (.int .i64 (k))]) (fun k=>[some (.row (cellsOf aj true ((A++R1.take (k - a)++x::(R1.drop (k - a)++R2++Z)))) 0 0 33)]) (fun k=>a≤k∧k+1≤j) (fun k=>j - k) a ⟨Nat.le_refl _,by omega⟩ (by simp only [↓wR,RA,simprocAttr,TF,ae]<;>rfl) (by simp only [↓wR,RA,simprocAttr,TF,ae];rw [hRe];simp) ?_
   rintro k ⟨k1,k2⟩
   simp only [↓wR,RA,simprocAttr,TF,ae];repeat (simp (disch:=omega) only [ah,be,bf,bd,bg];try simp only [↓wR,RA,simprocAttr,TF,ae])
   rw [bc];refine ⟨fun hk=>?_,fun hk=>?_⟩
   ·have hkl:k+1<j:=by omega
    obtain ⟨y,hy⟩:∃ y,R1[k - a]? = some y:=⟨_,List.getElem?_eq_getElem (by omega)⟩
    obtain ⟨X,hX⟩:∃ X,X=A++R1.take (k - a):=⟨_,rfl⟩
    obtain ⟨W,hW⟩:∃ W,W=R1.drop (k - a+1)++R2++Z:=⟨_,rfl⟩
    have hxl:X.length=k:=by rw [hX,List.length_append,List.length_take];omega
    have hcur:A++R1.take (k - a)++x::(R1.drop (k - a)++R2++Z)=X++x::y::W:=by rw [hX,hW,lj hy];simp
    have ew:A++R1.take (k+1 - a)++x::(R1.drop (k+1 - a)++R2++Z)=X++y::x::W:=by rw [hX,hW,show k+1 - a=k - a+1 by omega,iq hy];simp
    have g1:(X++x::y::W)[k]? = some x:=by rw [← hxl];exact get_at X _ x
    have hx1:(X++[x]).length=k+1:=by rw [List.length_append,hxl];rfl
    have hy1:(X++[y]).length=k+1:=by rw [List.length_append,hxl];rfl
    have g2:(X++x::y::W)[k+1]? = some y:=by
     have:=get_at (X++[x]) W y
     rw [hx1] at this
     rw [← this];simp
    have s1:(X++x::y::W).set k y=X++y::y::W:=by rw [← hxl];exact ox X _ x y
    have g3:(X++y::y::W)[k+1]? = some y:=by
     have:=get_at (X++[y]) W y
     rw [hy1] at this
     rw [← this];simp
    have s2:(X++y::y::W).set (k+1) x=X++y::x::W:=by
     have:=ox (X++[y]) W y x
     rw [hy1] at this
     simpa using this
    have l1:=kb 0 0 33 g1
    have l2:=kb 0 0 33 g2
    have t1:=sf y 0 33 0 g1
    have t2:=sf x 0 33 0 g3
    rw [s1] at t1
    rw [s2] at t2
    have hk1:(k:Int)+1=((k+1:Nat):Int):=by omega
    rw [hcur]
    simp only [↓wR,RA,simprocAttr,TF,ae,hk,hk1,↓l1,↓l2,↓t1,↓t2];repeat (simp (disch:=omega) only [ah,be,bf,bd,bg];try simp only [↓wR,RA,simprocAttr,TF,ae,hk,hk1,↓l1,↓l2,↓t1,↓t2])
    refine ⟨by kernel_rfl,.inl ?_⟩
    exact ⟨by apply hc;kernel_rfl,k+1,⟨by omega,by omega⟩,by omega,by (first|rfl|trivial|omega|((try (simp (disch:=omega) only [ah]));(try (simp only [FB]));first|done|rfl|omega)),by rw [ew]⟩
   ·have hkj:k - a=R1.length:=by omega
    rw [hkj,List.take_length,List.drop_length]
    simp only [↓wR,RA,simprocAttr,TF,ae,hk,ft,fh,eu,List.append_nil]
    simp
 ·have hL1:L.length≠1:=by omega
  have hi2:(b:Int) - m=((R.length:Nat):Int):=by omega
  simp only [↓wR,RA,simprocAttr,TF,ae,h1,hi2];repeat (simp (disch:=omega) only [ah,be,bf,bd,bg];try simp only [↓wR,RA,simprocAttr,TF,ae,h1,hi2])
  rw [di];refine ⟨fun ⟨h2,e2⟩=>?_,fun ⟨h2,e2⟩=>?_⟩
  ·have hR1:R.length=1:=by omega
   obtain ⟨y,rfl⟩:∃ y,R=[y]:=List.length_eq_one_iff.1 hR1
   have hyV:=hRV y (by simp)
   have hLb:∀ k c,L[k]? = some c→(A++L++[y]++Z)[a+k]? = some c:=fun k c hk=>by
    have hkl:=(List.getElem?_eq_some_iff.1 hk).1
    rw [List.append_assoc,List.append_assoc,List.getElem?_append_right (by omega),show a+k - A.length=k by omega,List.getElem?_append_left hkl,hk]
   have gy:(A++L++[y]++Z)[m]? = some y:=by
    rw [List.append_assoc,show m=(A++L).length by rw [List.length_append];omega];exact get_at (A++L) _ y
   simp only [↓wR,RA,simprocAttr,TF,ae,h2];repeat (simp (disch:=omega) only [ah,be,bf,bd,bg];try simp only [↓wR,RA,simprocAttr,TF,ae,h2])
   refine cq [0,2,4,14,15] (fun (p:Nat × Nat)=>[.sl 0 0 N 5,.sc (.int .i64 (m)),(.sc (.func (.func 67) #[] #[])),.sc (.int .i64 (p.1)),.sc (.int .i64 (p.2))]) (fun _=>[some (.row (cellsOf aj true ((A++L++[y]++Z))) 0 0 33)]) (fun p=>a≤p.1∧p.1≤p.2∧p.2≤m∧(∀ c,0<p.1 - a→L[p.1 - a - 1]? = some c→dk y c=false)∧(∀ c,L[p.2 - a]? = some c→dk y c=true)) (fun p=>p.2 - p.1) (a,m) ⟨Nat.le_refl _,by show a≤m;omega,Nat.le_refl _,fun c hq=>by simp at hq,fun c hq=>by rw [List.getElem?_eq_none (by show L.length≤m - a;omega)] at hq;cases hq⟩ (by simp only [↓wR,RA,simprocAttr,TF,ae]<;>rfl) (by simp only [↓wR,RA,simprocAttr,TF,ae]<;>rfl) ?_
   rintro ⟨i,j⟩ ⟨p1,p2,p3,p4,p5⟩
   simp only [] at p1 p2 p3 p4 p5 ⊢
   simp only [↓wR,RA,simprocAttr,TF,ae]
   rw [bc];refine ⟨fun h=>?_,fun h=>?_⟩
   ·have hlt:i<j:=by omega
    obtain ⟨u,hu⟩:∃ u,u=(i+j) / 2:=⟨_,rfl⟩
    have hub:i≤u∧u<j:=by omega
    have hhalf:=half i j (by omega)
    rw [← hu] at hhalf
    obtain ⟨x,hx⟩:∃ x,L[u - a]? = some x:=⟨_,List.getElem?_eq_getElem (by omega)⟩
    have hxV:=hLV x (List.mem_of_getElem? hx)
    have gx:=hLb _ _ hx
    rw [show a+(u - a)=u by omega] at gx
    have l1:=kb 0 0 33 gx
    have l2:=kb 0 0 33 gy
    simp only [↓wR,RA,simprocAttr,TF,ae,h,hhalf,↓l1,↓l2,ko,hxV,hyV];repeat (simp (disch:=omega) only [ah,be,bf,bd,bg];try simp only [↓wR,RA,simprocAttr,TF,ae,h,hhalf,↓l1,↓l2,ko,hxV,hyV])
    refine ⟨by kernel_rfl,.inl ?_⟩
    simp only [↓wR,RA,simprocAttr,TF,ae,C7,Fg]
    refine ⟨by apply hc;kernel_rfl,?_⟩
    rw [bc];refine ⟨fun hl=>?_,fun hl=>?_⟩
    ·have hll:dk y x=false:=decide_eq_false hl
     simp only [↓wR,RA,simprocAttr,TF,ae,hl];repeat (simp (disch:=omega) only [ah,be,bf,bd,bg];try simp only [↓wR,RA,simprocAttr,TF,ae,hl])
     exact ⟨(u+1,j),⟨by show a≤u+1;omega,by show u+1≤j;omega,p3,fun c _ hcc=>by
      have hcc':L[u+1 - a - 1]? = some c:=hcc
      rw [show u+1 - a - 1=u - a by omega,hx] at hcc';cases hcc';exact hll,p5⟩,by show j - (u+1)<j - i;omega,by (first|rfl|trivial|omega|((try (simp (disch:=omega) only [ah]));(try (simp only [FB]));first|done|rfl|omega))⟩
    ·have hll:dk y x=true:=decide_eq_true (Decidable.not_not.1 hl)
     simp only [↓wR,RA,simprocAttr,TF,ae,hl];repeat (simp (disch:=omega) only [ah,be,bf,bd,bg];try simp only [↓wR,RA,simprocAttr,TF,ae,hl])
     exact ⟨(i,u),⟨p1,by show i≤u;omega,by show u≤m;omega,p4,fun c hcc=>by
      have hcc':L[u - a]? = some c:=hcc
      rw [hx] at hcc';cases hcc';exact hll⟩,by show u - i<j - i;omega,by (first|rfl|trivial|omega|((try (simp (disch:=omega) only [ah]));(try (simp only [FB]));first|done|rfl|omega))⟩
   ·have hij:j=i:=by omega
    subst hij
    have hmo:=Qc (lt:=dk) (y:=y) (l:=L) (i:=j - a) (Dr nl hLV hLR hyV (by omega) p4) (Ul nl hLV hLR hyV p5)
    obtain ⟨L1,hL1e⟩:∃ L1,L1=L.take (j - a):=⟨_,rfl⟩
    obtain ⟨L2,hL2e⟩:∃ L2,L2=L.drop (j - a):=⟨_,rfl⟩
    have hLe:L=L1++L2:=by rw [hL1e,hL2e,List.take_append_drop]
    have hl1:L1.length=j - a:=by rw [hL1e,List.length_take];omega
    have hl2:L2.length=m - j:=by rw [hL2e,List.length_drop];omega
    rw [← hL1e,← hL2e] at hmo
    rw [hmo]
    simp only [↓wR,RA,simprocAttr,TF,ae,h]
    refine cq [0,14,17] (fun (k:Nat)=>[.sl 0 0 N 5,.sc (.int .i64 (j)),.sc (.int .i64 (k))]) (fun k=>[some (.row (cellsOf aj true ((A++L1++L2.take (k - j)++y::(L2.drop (k - j)++Z)))) 0 0 33)]) (fun k=>j≤k∧k≤m) (fun k=>k) m ⟨by omega,Nat.le_refl _⟩ (by simp only [↓wR,RA,simprocAttr,TF,ae]<;>rfl) (by simp only [↓wR,RA,simprocAttr,TF,ae];rw [← hl2,List.take_length,List.drop_length,hLe];simp) ?_
    rintro k ⟨k1,k2⟩
    simp only [↓wR,RA,simprocAttr,TF,ae];repeat (simp (disch:=omega) only [ah,be,bf,bd,bg];try simp only [↓wR,RA,simprocAttr,TF,ae])
    rw [bc];refine ⟨fun hk=>?_,fun hk=>?_⟩
    ·have hkl:j<k:=by omega
     obtain ⟨x,hx⟩:∃ x,L2[k - 1 - j]? = some x:=⟨_,List.getElem?_eq_getElem (by omega)⟩
     obtain ⟨X,hX⟩:∃ X,X=A++L1++L2.take (k - 1 - j):=⟨_,rfl⟩
     obtain ⟨W,hW⟩:∃ W,W=L2.drop (k - j)++Z:=⟨_,rfl⟩
     have hkk:k - j=k - 1 - j+1:=by omega
     have hxl:X.length=k - 1:=by rw [hX,List.length_append,List.length_append,List.length_take];omega
     have hcur:A++L1++L2.take (k - j)++y::(L2.drop (k - j)++Z)=X++x::y::W:=by rw [hX,hW,hkk,iq hx];simp
     have ew:A++L1++L2.take (k - 1 - j)++y::(L2.drop (k - 1 - j)++Z)=X++y::x::W:=by rw [hX,hW,lj hx,hkk];simp
     have g1:(X++x::y::W)[k - 1]? = some x:=by rw [← hxl];exact get_at X _ x
     have hx1:(X++[x]).length=k:=by rw [List.length_append,hxl,List.length_singleton];omega
     have g2:(X++x::y::W)[k]? = some y:=by
      have:=get_at (X++[x]) W y
      rw [hx1] at this
      rw [← this];simp
     have s1:(X++x::y::W).set k x=X++x::x::W:=by
      have:=ox (X++[x]) W y x
      rw [hx1] at this
      simpa using this
     have g3:(X++x::x::W)[k - 1]? = some x:=by rw [← hxl];exact get_at X _ x
     have s2:(X++x::x::W).set (k - 1) y=X++y::x::W:=by rw [← hxl];exact ox X _ x y
     have l1:=kb 0 0 33 g1
     have l2:=kb 0 0 33 g2
     have t1:=sf x 0 33 0 g2
     have t2:=sf y 0 33 0 g3
     rw [s1] at t1
     rw [s2] at t2
     have hk1:(k:Int) - 1=((k - 1:Nat):Int):=by omega
     rw [hcur]
     simp only [↓wR,RA,simprocAttr,TF,ae,hk,hk1,↓l1,↓l2,↓t1,↓t2];repeat (simp (disch:=omega) only [ah,be,bf,bd,bg];try simp only [↓wR,RA,simprocAttr,TF,ae,hk,hk1,↓l1,↓l2,↓t1,↓t2])
     refine ⟨by kernel_rfl,.inl ?_⟩
     exact ⟨by apply hc;kernel_rfl,k - 1,⟨by omega,by omega⟩,by omega,by (first|rfl|trivial|omega|((try (simp (disch:=omega) only [ah]));(try (simp only [FB]));first|done|rfl|omega)),by rw [ew]⟩
    ·have hkj:k - j=0:=by omega
     rw [hkj]
     simp only [↓wR,RA,simprocAttr,TF,ae,hk,ft,fh,eu,List.append_nil]
     simp
  ·have hR1:R.length≠1:=by omega
   obtain ⟨mid,hmid⟩:∃ mid,mid=(a+b) / 2:=⟨_,rfl⟩
   have hhalf:=half a b (by omega)
   rw [← hmid] at hhalf
   have hmm:(mid:Int)+m=((mid+m:Nat):Int):=by omega
   obtain ⟨n,hn⟩:∃ n,n=mid+m:=⟨_,rfl⟩
   rw [← hn] at hmm
   obtain ⟨s0,hs0⟩:∃ s0,s0=if mid<m then n - b else a:=⟨_,rfl⟩
   obtain ⟨r0,hr0⟩:∃ r0,r0=if mid<m then mid else m:=⟨_,rfl⟩
   have hp1:(n:Int) - 1=((n - 1:Nat):Int):=by omega
   have hsr:a≤s0∧s0≤r0∧r0≤m∧r0≤mid∧n - b≤s0:=by subst hs0 hr0;split<;>omega
   obtain ⟨X0,hX0⟩:∃ X0,X0=A++L++R++Z:=⟨_,rfl⟩
   have hXL:∀ k c,L[k]? = some c→X0[a+k]? = some c:=fun k c hk=>by
    have hkl:=(List.getElem?_eq_some_iff.1 hk).1
    rw [hX0,List.append_assoc,List.append_assoc,List.getElem?_append_right (by omega),show a+k - A.length=k by omega,List.getElem?_append_left hkl,hk]
   have hXR:∀ k c,R[k]? = some c→X0[m+k]? = some c:=fun k c hk=>by
    have hkl:=(List.getElem?_eq_some_iff.1 hk).1
    rw [hX0,List.append_assoc (A++L),List.getElem?_append_right (by rw [List.length_append];omega),List.length_append,show m+k - (A.length+L.length)=k by omega,List.getElem?_append_left hkl,hk]
   rw [← hX0]
   have hfin:∀ st,s0≤st→st≤r0→(∀ c e,s0<st→L[st - 1 - a]? = some c→R[n - st - m]? = some e→dk e c=false)→(∀ c e,st<r0→L[st - a]? = some c→R[n - 1 - st - m]? = some e→dk e c=true) →
    ∃ X1 X2,(st<m→m<n - st→gp PP 109 [.sl 0 0 N 5,.sc (.int .i64 (st)),.sc (.int .i64 (m)),.sc (.int .i64 ((n - st:Nat))),(.sc (.func (.func 67) #[] #[]))] (bj [some (.row (cellsOf aj true ((X0))) 0 0 33)]) (fun r st'=>r = .ea []∧st'=bj [some (.row (cellsOf aj true ((X1))) 0 0 33)]))∧(¬ (st<m∧m<n - st)→X0=X1) ∧
     (a<st→st<mid→gp PP 102 [.sl 0 0 N 5,.sc (.int .i64 (a)),.sc (.int .i64 (st)),.sc (.int .i64 (mid)),(.sc (.func (.func 67) #[] #[]))] (bj [some (.row (cellsOf aj true ((X1))) 0 0 33)]) (fun r st'=>r = .ea []∧st'=bj [some (.row (cellsOf aj true ((X2))) 0 0 33)]))∧(¬ (a<st∧st<mid)→X1=X2) ∧
     (mid<n - st→n - st<b→gp PP 102 [.sl 0 0 N 5,.sc (.int .i64 (mid)),.sc (.int .i64 ((n - st:Nat))),.sc (.int .i64 (b)),(.sc (.func (.func 67) #[] #[]))] (bj [some (.row (cellsOf aj true ((X2))) 0 0 33)]) (fun r st'=>r = .ea []∧st'=bj [some (.row (cellsOf aj true ((A++dp dk L R++Z))) 0 0 33)]))∧(¬ (mid<n - st∧n - st<b)→X2=A++dp dk L R++Z):=by
    intro st q1 q2 q3 q4
    obtain ⟨L1,hL1e⟩:∃ L1,L1=L.take (st - a):=⟨_,rfl⟩
    obtain ⟨L2,hL2e⟩:∃ L2,L2=L.drop (st - a):=⟨_,rfl⟩
    obtain ⟨R1,hR1e⟩:∃ R1,R1=R.take (mid - st):=⟨_,rfl⟩
    obtain ⟨R2,hR2e⟩:∃ R2,R2=R.drop (mid - st):=⟨_,rfl⟩
    have hLe:L=L1++L2:=by rw [hL1e,hL2e,List.take_append_drop]
    have hRe:R=R1++R2:=by rw [hR1e,hR2e,List.take_append_drop]
    have n1:L1.length=st - a:=by rw [hL1e,List.length_take];omega
    have n2:L2.length=m - st:=by rw [hL2e,List.length_drop];omega
    have n3:R1.length=mid - st:=by rw [hR1e,List.length_take];omega
    have n4:R2.length=b - (n - st):=by rw [hR2e,List.length_drop];omega
    have r1:gu dk L1:=by rw [hL1e];exact hLR.take _
    have r2:gu dk L2:=by rw [hL2e];exact hLR.drop _
    have r3:gu dk R1:=by rw [hR1e];exact hRR.take _
    have r4:gu dk R2:=by rw [hR2e];exact hRR.drop _
    have v1:∀ x ∈ L1,ct x:=fun x hx=>hLV x (by rw [hLe];simp [hx])
    have v2:∀ x ∈ L2,ct x:=fun x hx=>hLV x (by rw [hLe];simp [hx])
    have v3:∀ x ∈ R1,ct x:=fun x hx=>hRV x (by rw [hRe];simp [hx])
    have v4:∀ x ∈ R2,ct x:=fun x hx=>hRV x (by rw [hRe];simp [hx])
    have f1:∀ x ∈ L1,∀ y ∈ R2,dk y x=false:=by
     by_cases k1:a<st
     ·by_cases k2:n - st<b
      ·obtain ⟨c,hcc⟩:∃ c,L[st - 1 - a]? = some c:=⟨_,List.getElem?_eq_getElem (by omega)⟩
       obtain ⟨e,hee⟩:∃ e,R[n - st - m]? = some e:=⟨_,List.getElem?_eq_getElem (by omega)⟩
       have hlt:=q3 c e (by subst hs0;split<;>omega) hcc hee
       have t1:L1=L.take (st - 1 - a)++[c]:=by rw [hL1e,show st - a=st - 1 - a+1 by omega,iq hcc]
       have t2:R2=e::R.drop (n - st - m+1):=by rw [hR2e,show mid - st=n - st - m by omega,lj hee]
       rw [t1,t2]
       exact Ju nl (fun z hz=>v1 z (by rw [t1];exact hz)) (fun z hz=>v4 z (by rw [t2];exact hz)) (by rw [← t1];exact r1) (by rw [← t2];exact r4) hlt
      ·have:R2=[]:=List.eq_nil_of_length_eq_zero (by omega)
       rw [this];intro x _ y hy;cases hy
     ·have:L1=[]:=List.eq_nil_of_length_eq_zero (by omega)
      rw [this];intro x hx;cases hx
    have f2:∀ x ∈ L2,∀ y ∈ R1,dk y x=true:=by
     by_cases k1:st<m
     ·by_cases k2:st<mid
      ·obtain ⟨c,hcc⟩:∃ c,L[st - a]? = some c:=⟨_,List.getElem?_eq_getElem (by omega)⟩
       obtain ⟨e,hee⟩:∃ e,R[n - 1 - st - m]? = some e:=⟨_,List.getElem?_eq_getElem (by omega)⟩
       have hlt:=q4 c e (by subst hr0;split<;>omega) hcc hee
       have t1:L2=c::L.drop (st - a+1):=by rw [hL2e,lj hcc]
       have t2:R1=R.take (n - 1 - st - m)++[e]:=by rw [hR1e,show mid - st=n - 1 - st - m+1 by omega,iq hee]
       rw [t1,t2]
       exact G7 nl (fun z hz=>v2 z (by rw [t1];exact hz)) (fun z hz=>v3 z (by rw [t2];exact hz)) (by rw [← t1];exact r2) (by rw [← t2];exact r3) hlt
      ·have:R1=[]:=List.eq_nil_of_length_eq_zero (by omega)
       rw [this];intro x _ y hy;cases hy
     ·have:L2=[]:=List.eq_nil_of_length_eq_zero (by omega)
      rw [this];intro x hx;cases hx
    have hmg:dp dk L R=dp dk L1 R1++dp dk L2 R2:=by rw [hLe,hRe];exact nr L1 L2 R1 R2 f1 f2
    have m1:(dp dk L1 R1).length=mid - a:=by rw [Qj];omega
    have hNa:N=A.length+L1.length+L2.length+R1.length+R2.length+Z.length:=by omega
    refine ⟨A++L1++R1++(L2++R2++Z),A++dp dk L1 R1++(L2++R2++Z),fun k1 k2=>?_,fun k=>?_,fun k1 k2=>?_,fun k=>?_,fun k1 k2=>?_,fun k=>?_⟩
    ·have:=abx N st m (n - st) (A++L1) L2 R1 (R2++Z) (by simp only [List.length_append];omega) hs (by rw [List.length_append];omega) (by omega) (by omega) (by omega) (by omega)
     rw [show A++L1++L2++R1++(R2++Z)=X0 by rw [hX0,hLe,hRe];simp,show A++L1++R1++L2++(R2++Z)=A++L1++R1++(L2++R2++Z) by simp] at this
     exact this
    ·rw [hX0,hLe,hRe]
     by_cases k1:st<m
     ·have:R1=[]:=List.eq_nil_of_length_eq_zero (by omega)
      rw [this];simp
     ·have:L2=[]:=List.eq_nil_of_length_eq_zero (by omega)
      rw [this];simp
    ·exact ih N a st mid A L1 R1 (L2++R2++Z) (by omega) (by simp only [List.length_append];omega) hs ha (by omega) (by omega) (by omega) (by omega) v1 v3 r1 r3
    ·by_cases k1:a<st
     ·have:R1=[]:=List.eq_nil_of_length_eq_zero (by omega)
      rw [this,g8];simp
     ·have:L1=[]:=List.eq_nil_of_length_eq_zero (by omega)
      rw [this,i3];simp
    ·have:=ih N mid (n - st) b (A++dp dk L1 R1) L2 R2 Z (by omega) (by simp only [List.length_append,m1];omega) hs (by rw [List.length_append,m1];omega) (by omega) (by omega) (by omega) (by omega) v2 v4 r2 r4
     rw [hmg]
     rw [show A++dp dk L1 R1++L2++R2++Z=A++dp dk L1 R1++(L2++R2++Z) by simp,show A++dp dk L1 R1++dp dk L2 R2++Z=A++(dp dk L1 R1++dp dk L2 R2)++Z by simp] at this
     exact this
    ·rw [hmg]
     by_cases k1:mid<n - st
     ·have:R2=[]:=List.eq_nil_of_length_eq_zero (by omega)
      rw [this,g8];simp
     ·have:L2=[]:=List.eq_nil_of_length_eq_zero (by omega)
      rw [this,i3];simp
   simp only [↓wR,RA,simprocAttr,TF,ae,h2,hhalf,hmm];repeat (simp (disch:=omega) only [ah,be,bf,bd,bg];try simp only [↓wR,RA,simprocAttr,TF,ae,h2,hhalf,hmm])
   rw [bc];refine ⟨fun hg=>?_,fun hg=>?_⟩
   ·have e3:(n:Int) - b=((s0:Nat):Int):=by rw [hs0,if_pos (by omega)];omega
    have e4:((mid:Nat):Int)=((r0:Nat):Int):=by rw [hr0,if_pos (by omega)]
    simp only [↓wR,RA,simprocAttr,TF,ae,hg,e3,hp1];repeat (simp (disch:=omega) only [ah,be,bf,bd,bg];try simp only [↓wR,RA,simprocAttr,TF,ae,hg,e3,hp1])
    refine cq [0,1,2,3,4,18,19,20,21,22] (fun (p:Nat × Nat)=>[.sl 0 0 N 5,.sc (.int .i64 (a)),.sc (.int .i64 (m)),.sc (.int .i64 (b)),(.sc (.func (.func 67) #[] #[])),.sc (.int .i64 (mid)),.sc (.int .i64 (n)),.sc (.int .i64 (p.1)),.sc (.int .i64 (p.2)),.sc (.int .i64 (((n - 1:Nat):Int)))]) (fun _=>[some (.row (cellsOf aj true ((X0))) 0 0 33)]) (fun p=>s0≤p.1∧p.1≤p.2∧p.2≤r0∧(∀ c e,s0<p.1→L[p.1 - 1 - a]? = some c→R[n - p.1 - m]? = some e→dk e c=false)∧(∀ c e,p.2<r0→L[p.2 - a]? = some c→R[n - 1 - p.2 - m]? = some e→dk e c=true)) (fun p=>p.2 - p.1) (s0,r0) ⟨Nat.le_refl _,hsr.2.1,Nat.le_refl _,fun _ _ q=>absurd q (Nat.lt_irrefl _),fun _ _ q=>absurd q (Nat.lt_irrefl _)⟩ (by simp only [↓wR,RA,simprocAttr,TF,ae];rw [e4]) (by simp only [↓wR,RA,simprocAttr,TF,ae]<;>rfl) ?_
    rintro ⟨i,j⟩ ⟨p1,p2,p3,p4,p5⟩
    simp only [] at p1 p2 p3 p4 p5 ⊢
    simp only [↓wR,RA,simprocAttr,TF,ae]
    rw [bc];refine ⟨fun h=>?_,fun h=>?_⟩
    ·have hlt:i<j:=by omega
     obtain ⟨u,hu⟩:∃ u,u=(i+j) / 2:=⟨_,rfl⟩
     have hub:i≤u∧u<j:=by omega
     have hhalf2:=half i j (by omega)
     rw [← hu] at hhalf2
     obtain ⟨x,hx⟩:∃ x,L[u - a]? = some x:=⟨_,List.getElem?_eq_getElem (by omega)⟩
     obtain ⟨y,hy⟩:∃ y,R[n - 1 - u - m]? = some y:=⟨_,List.getElem?_eq_getElem (by omega)⟩
     have hxV:=hLV x (List.mem_of_getElem? hx)
     have hyV:=hRV y (List.mem_of_getElem? hy)
     have gx:=hXL _ _ hx
     rw [show a+(u - a)=u by omega] at gx
     have gy:=hXR _ _ hy
     rw [show m+(n - 1 - u - m)=n - 1 - u by omega] at gy
     have hpu:((n - 1:Nat):Int) - u=((n - 1 - u:Nat):Int):=by omega
     have l1:=kb 0 0 33 gx
     have l2:=kb 0 0 33 gy
     simp only [↓wR,RA,simprocAttr,TF,ae,h,hhalf2,hpu,↓l1,↓l2,ko,hxV,hyV];repeat (simp (disch:=omega) only [ah,be,bf,bd,bg];try simp only [↓wR,RA,simprocAttr,TF,ae,h,hhalf2,hpu,↓l1,↓l2,ko,hxV,hyV])
     refine ⟨by kernel_rfl,.inl ?_⟩
     simp only [↓wR,RA,simprocAttr,TF,ae,C7,Fg]
     refine ⟨by apply hc;kernel_rfl,?_⟩
     rw [bc];refine ⟨fun hl=>?_,fun hl=>?_⟩
     ·have hll:dk y x=false:=decide_eq_false hl
      simp only [↓wR,RA,simprocAttr,TF,ae,hl];repeat (simp (disch:=omega) only [ah,be,bf,bd,bg];try simp only [↓wR,RA,simprocAttr,TF,ae,hl])
      exact ⟨(u+1,j),⟨by show s0≤u+1;omega,by show u+1≤j;omega,p3,fun c e _ hcc hee=>by
       have hcc':L[u+1 - 1 - a]? = some c:=hcc
       have hee':R[n - (u+1) - m]? = some e:=hee
       rw [show u+1 - 1 - a=u - a by omega,hx] at hcc'
       rw [show n - (u+1) - m=n - 1 - u - m by omega,hy] at hee'
       cases hcc';cases hee';exact hll,p5⟩,by show j - (u+1)<j - i;omega,by (first|rfl|trivial|omega|((try (simp (disch:=omega) only [ah]));(try (simp only [FB]));first|done|rfl|omega))⟩
     ·have hll:dk y x=true:=decide_eq_true (Decidable.not_not.1 hl)
      simp only [↓wR,RA,simprocAttr,TF,ae,hl];repeat (simp (disch:=omega) only [ah,be,bf,bd,bg];try simp only [↓wR,RA,simprocAttr,TF,ae,hl])
      exact ⟨(i,u),⟨p1,by show i≤u;omega,by show u≤r0;omega,p4,fun c e _ hcc hee=>by
       have hcc':L[u - a]? = some c:=hcc
       have hee':R[n - 1 - u - m]? = some e:=hee
       rw [hx] at hcc';rw [hy] at hee'
       cases hcc';cases hee';exact hll⟩,by show u - i<j - i;omega,by (first|rfl|trivial|omega|((try (simp (disch:=omega) only [ah]));(try (simp only [FB]));first|done|rfl|omega))⟩
    ·have hij:j=i:=by omega
     subst hij
     obtain ⟨X1,X2,c1,c2,c3,c4,c5,c6⟩:=hfin j p1 p3 p4 p5
     have hen:(n:Int) - j=((n - j:Nat):Int):=by omega
     obtain ⟨en,hen2⟩:∃ en,en=n - j:=⟨_,rfl⟩
     rw [← hen2] at c1 c2 c5 c6 hen
     obtain ⟨X3,hX3⟩:∃ X3,X3=A++dp dk L R++Z:=⟨_,rfl⟩
     rw [← hX3] at c5 c6 ⊢
     have b1:m<en↔j<mid:=by omega
     have b2:mid<en↔j<m:=by omega
     by_cases k1:a<j<;>by_cases k2:j<m<;>by_cases k3:j<mid<;>by_cases k4:en<b<;>first
      |(exfalso;omega)
      |(
       have d1:=k1
       have d2:=k2
       have d3:=k3
       have d4:=k4
       have hwr:IntKind.i64.wrap (en:Int)=en:=ah _ (by omega) (by omega)
       have d5:decide (m<en)=decide (j<mid):=decide_eq_decide.2 b1
       have d6:decide (mid<en)=decide (j<m):=decide_eq_decide.2 b2
       (try rw [c2 (by omega)])
       simp only [↓wR,RA,simprocAttr,TF,ae,h,hen,hwr,vt,d1,d2,d3,d4,d5,d6]
       (try (refine dq (c1 (by omega) (by omega)) ?_;rintro _ _ ⟨rfl,rfl⟩;simp only [↓wR,RA,simprocAttr,TF,ae,da,h,hen,hwr,vt,d1,d2,d3,d4,d5,d6]))
       (try rw [c4 (by omega)])
       (try (refine dq (c3 (by omega) (by omega)) ?_;rintro _ _ ⟨rfl,rfl⟩;simp only [↓wR,RA,simprocAttr,TF,ae,da,h,hen,hwr,vt,d1,d2,d3,d4,d5,d6]))
       (try rw [c6 (by omega)])
       (try (refine dq (c5 (by omega) (by omega)) ?_;rintro _ _ ⟨rfl,rfl⟩;simp only [↓wR,RA,simprocAttr,TF,ae,da,h,hen,hwr,vt,d1,d2,d3,d4,d5,d6]))
       simp only [↓wR,RA,simprocAttr,TF,ae,ft,fh,eu])
   ·have e3:((a:Nat):Int)=((s0:Nat):Int):=by rw [hs0,if_neg (by omega)]
    have e4:((m:Nat):Int)=((r0:Nat):Int):=by rw [hr0,if_neg (by omega)]
    simp only [↓wR,RA,simprocAttr,TF,ae,hg,hp1];repeat (simp (disch:=omega) only [ah,be,bf,bd,bg];try simp only [↓wR,RA,simprocAttr,TF,ae,hg,hp1])
    refine cq [0,1,2,3,4,18,19,20,21,22] (fun (p:Nat × Nat)=>[.sl 0 0 N 5,.sc (.int .i64 (a)),.sc (.int .i64 (m)),.sc (.int .i64 (b)),(.sc (.func (.func 67) #[] #[])),.sc (.int .i64 (mid)),.sc (.int .i64 (n)),.sc (.int .i64 (p.1)),.sc (.int .i64 (p.2)),.sc (.int .i64 (((n - 1:Nat):Int)))]) (fun _=>[some (.row (cellsOf aj true ((X0))) 0 0 33)]) (fun p=>s0≤p.1∧p.1≤p.2∧p.2≤r0∧(∀ c e,s0<p.1→L[p.1 - 1 - a]? = some c→R[n - p.1 - m]? = some e→dk e c=false)∧(∀ c e,p.2<r0→L[p.2 - a]? = some c→R[n - 1 - p.2 - m]? = some e→dk e c=true)) (fun p=>p.2 - p.1) (s0,r0) ⟨Nat.le_refl _,hsr.2.1,Nat.le_refl _,fun _ _ q=>absurd q (Nat.lt_irrefl _),fun _ _ q=>absurd q (Nat.lt_irrefl _)⟩ (by simp only [↓wR,RA,simprocAttr,TF,ae];rw [← e3,← e4]) (by simp only [↓wR,RA,simprocAttr,TF,ae]<;>rfl) ?_
    rintro ⟨i,j⟩ ⟨p1,p2,p3,p4,p5⟩
    simp only [] at p1 p2 p3 p4 p5 ⊢
    simp only [↓wR,RA,simprocAttr,TF,ae]
    rw [bc];refine ⟨fun h=>?_,fun h=>?_⟩
    ·have hlt:i<j:=by omega
     obtain ⟨u,hu⟩:∃ u,u=(i+j) / 2:=⟨_,rfl⟩
     have hub:i≤u∧u<j:=by omega
     have hhalf2:=half i j (by omega)
     rw [← hu] at hhalf2
     obtain ⟨x,hx⟩:∃ x,L[u - a]? = some x:=⟨_,List.getElem?_eq_getElem (by omega)⟩
     obtain ⟨y,hy⟩:∃ y,R[n - 1 - u - m]? = some y:=⟨_,List.getElem?_eq_getElem (by omega)⟩
     have hxV:=hLV x (List.mem_of_getElem? hx)
     have hyV:=hRV y (List.mem_of_getElem? hy)
     have gx:=hXL _ _ hx
     rw [show a+(u - a)=u by omega] at gx
     have gy:=hXR _ _ hy
     rw [show m+(n - 1 - u - m)=n - 1 - u by omega] at gy
     have hpu:((n - 1:Nat):Int) - u=((n - 1 - u:Nat):Int):=by omega
     have l1:=kb 0 0 33 gx
     have l2:=kb 0 0 33 gy
     simp only [↓wR,RA,simprocAttr,TF,ae,h,hhalf2,hpu,↓l1,↓l2,ko,hxV,hyV];repeat (simp (disch:=omega) only [ah,be,bf,bd,bg];try simp only [↓wR,RA,simprocAttr,TF,ae,h,hhalf2,hpu,↓l1,↓l2,ko,hxV,hyV])
     refine ⟨by kernel_rfl,.inl ?_⟩
     simp only [↓wR,RA,simprocAttr,TF,ae,C7,Fg]
     refine ⟨by apply hc;kernel_rfl,?_⟩
     rw [bc];refine ⟨fun hl=>?_,fun hl=>?_⟩
     ·have hll:dk y x=false:=decide_eq_false hl
      simp only [↓wR,RA,simprocAttr,TF,ae,hl];repeat (simp (disch:=omega) only [ah,be,bf,bd,bg];try simp only [↓wR,RA,simprocAttr,TF,ae,hl])
      exact ⟨(u+1,j),⟨by show s0≤u+1;omega,by show u+1≤j;omega,p3,fun c e _ hcc hee=>by
       have hcc':L[u+1 - 1 - a]? = some c:=hcc
       have hee':R[n - (u+1) - m]? = some e:=hee
       rw [show u+1 - 1 - a=u - a by omega,hx] at hcc'
       rw [show n - (u+1) - m=n - 1 - u - m by omega,hy] at hee'
       cases hcc';cases hee';exact hll,p5⟩,by show j - (u+1)<j - i;omega,by (first|rfl|trivial|omega|((try (simp (disch:=omega) only [ah]));(try (simp only [FB]));first|done|rfl|omega))⟩
     ·have hll:dk y x=true:=decide_eq_true (Decidable.not_not.1 hl)
      simp only [↓wR,RA,simprocAttr,TF,ae,hl];repeat (simp (disch:=omega) only [ah,be,bf,bd,bg];try simp only [↓wR,RA,simprocAttr,TF,ae,hl])
      exact ⟨(i,u),⟨p1,by show i≤u;omega,by show u≤r0;omega,p4,fun c e _ hcc hee=>by
       have hcc':L[u - a]? = some c:=hcc
       have hee':R[n - 1 - u - m]? = some e:=hee
       rw [hx] at hcc';rw [hy] at hee'
       cases hcc';cases hee';exact hll⟩,by show u - i<j - i;omega,by (first|rfl|trivial|omega|((try (simp (disch:=omega) only [ah]));(try (simp only [FB]));first|done|rfl|omega))⟩
    ·have hij:j=i:=by omega
     subst hij
     obtain ⟨X1,X2,c1,c2,c3,c4,c5,c6⟩:=hfin j p1 p3 p4 p5
     have hen:(n:Int) - j=((n - j:Nat):Int):=by omega
     obtain ⟨en,hen2⟩:∃ en,en=n - j:=⟨_,rfl⟩
     rw [← hen2] at c1 c2 c5 c6 hen
     obtain ⟨X3,hX3⟩:∃ X3,X3=A++dp dk L R++Z:=⟨_,rfl⟩
     rw [← hX3] at c5 c6 ⊢
     have b1:m<en↔j<mid:=by omega
     have b2:mid<en↔j<m:=by omega
     by_cases k1:a<j<;>by_cases k2:j<m<;>by_cases k3:j<mid<;>by_cases k4:en<b<;>first
      |(exfalso;omega)
      |(
       have d1:=k1
       have d2:=k2
       have d3:=k3
       have d4:=k4
       have hwr:IntKind.i64.wrap (en:Int)=en:=ah _ (by omega) (by omega)
       have d5:decide (m<en)=decide (j<mid):=decide_eq_decide.2 b1
       have d6:decide (mid<en)=decide (j<m):=decide_eq_decide.2 b2
       (try rw [c2 (by omega)])
       simp only [↓wR,RA,simprocAttr,TF,ae,h,hen,hwr,vt,d1,d2,d3,d4,d5,d6]
       (try (refine dq (c1 (by omega) (by omega)) ?_;rintro _ _ ⟨rfl,rfl⟩;simp only [↓wR,RA,simprocAttr,TF,ae,da,h,hen,hwr,vt,d1,d2,d3,d4,d5,d6]))
       (try rw [c4 (by omega)])
       (try (refine dq (c3 (by omega) (by omega)) ?_;rintro _ _ ⟨rfl,rfl⟩;simp only [↓wR,RA,simprocAttr,TF,ae,da,h,hen,hwr,vt,d1,d2,d3,d4,d5,d6]))
       (try rw [c6 (by omega)])
       (try (refine dq (c5 (by omega) (by omega)) ?_;rintro _ _ ⟨rfl,rfl⟩;simp only [↓wR,RA,simprocAttr,TF,ae,da,h,hen,hwr,vt,d1,d2,d3,d4,d5,d6]))
       simp only [↓wR,RA,simprocAttr,TF,ae,ft,fh,eu])
set_option maxHeartbeats 20000000 in
theorem Jk (s:ba) (d:Nat):∀ (N a m b:Nat) (A L R Z:List bq),b - a≤d→N=(A++L++R++Z).length→N≤1048576→a=A.length→m=a+L.length→b=m+R.length→0<L.length→0<R.length→(∀ x ∈ L,sy s.type x)→(∀ x ∈ R,sy s.type x)→gu (dz s.type) L→gu (dz s.type) R →
 gp PP 104 [.sl 0 0 N 4,.sc (.int .i64 (a)),.sc (.int .i64 (m)),.sc (.int .i64 (b)),(.fn (.func 70) [] [.ptr 1 0])] (bj [some (.row (cellsOf aq true ((A++L++R++Z))) 0 0 71),some (.row [.vl false 1 (s.owner.map (ak.val false)),.sc (.int .u16 s.type.toNat),.sc (.int .u16 s.cls.toNat),.sc (.int .u32 s.ff.toNat),.vl false 4 (s.data.map (aq.val false))] 0 2 33)])
  (fun r st'=>r = .ea []∧st'=bj [some (.row (cellsOf aq true ((A++dp (dz s.type) L R++Z))) 0 0 71),some (.row [.vl false 1 (s.owner.map (ak.val false)),.sc (.int .u16 s.type.toNat),.sc (.int .u16 s.cls.toNat),.sc (.int .u32 s.ff.toNat),.vl false 4 (s.data.map (aq.val false))] 0 2 33)]):=by
 induction d with
 |zero=>intro N a m b A L R Z hd hN hs ha hm hb hl hr;omega
 |succ d ih=>
 intro N a m b A L R Z hd hN hs ha hm hb hl hr hLV hRV hLR hRR
 have hc:∀ a b c d,dj a b c=d→dj a b c=d:=fun _ _ _ _ h=>h
 have hlen:N=A.length+L.length+R.length+Z.length:=by rw [hN];simp;omega
 refine cz _ rfl ?_ (fun r st' h=>h)
 refine bn (T:=[ab7]) (an.cons (ar Hq) (an.nil PP)) mixed Tryz.func104 rfl (by kernel_rfl) (by kernel_rfl) (by kernel_rfl) (by kernel_rfl) ?_;unfold Tryz.f104
 have hi1:(m:Int) - a=((L.length:Nat):Int):=by omega
 simp only [↓wR,RA,simprocAttr,TF,ae,hi1];repeat (simp (disch:=omega) only [ah,be,bf,bd,bg];try simp only [↓wR,RA,simprocAttr,TF,ae,hi1])
 rw [di];refine ⟨fun ⟨h1,e1⟩=>?_,fun ⟨h1,e1⟩=>?_⟩
 ·have hL1:L.length=1:=by omega
  obtain ⟨x,rfl⟩:∃ x,L=[x]:=List.length_eq_one_iff.1 hL1
  have hxV:=hLV x (by simp)
  have hRb:∀ k c,R[k]? = some c→(A++[x]++R++Z)[m+k]? = some c:=fun k c hk=>by
   have hkl:=(List.getElem?_eq_some_iff.1 hk).1
   rw [List.append_assoc (A++[x]),List.getElem?_append_right (by simp at hm ⊢;omega),show m+k - (A++[x]).length=k by simp at hm ⊢;omega,List.getElem?_append_left hkl,hk]
  have gx:(A++[x]++R++Z)[a]? = some x:=by
   rw [List.append_assoc,List.append_assoc,ha];exact get_at A _ x
  simp only [↓wR,RA,simprocAttr,TF,ae,h1];repeat (simp (disch:=omega) only [ah,be,bf,bd,bg];try simp only [↓wR,RA,simprocAttr,TF,ae,h1])
  refine cq [0,1,4,10,11] (fun (p:Nat × Nat)=>[.sl 0 0 N 4,.sc (.int .i64 (a)),(.fn (.func 70) [] [.ptr 1 0]),.sc (.int .i64 (p.1)),.sc (.int .i64 (p.2))]) (fun _=>[some (.row (cellsOf aq true ((A++[x]++R++Z))) 0 0 71),some (.row [.vl false 1 (s.owner.map (ak.val false)),.sc (.int .u16 s.type.toNat),.sc (.int .u16 s.cls.toNat),.sc (.int .u32 s.ff.toNat),.vl false 4 (s.data.map (aq.val false))] 0 2 33)]) (fun p=>m≤p.1∧p.1≤p.2∧p.2≤b∧(∀ c,0<p.1 - m→R[p.1 - m - 1]? = some c→(dz s.type) c x=true)∧(∀ c,R[p.2 - m]? = some c→(dz s.type) c x=false)) (fun p=>p.2 - p.1) (m,b) ⟨Nat.le_refl _,by show m≤b;omega,Nat.le_refl _,fun c hq=>by simp at hq,fun c hq=>by rw [List.getElem?_eq_none (by show R.length≤b - m;omega)] at hq;cases hq⟩ (by simp only [↓wR,RA,simprocAttr,TF,ae]<;>rfl) (by simp only [↓wR,RA,simprocAttr,TF,ae]<;>rfl) ?_
  rintro ⟨i,j⟩ ⟨p1,p2,p3,p4,p5⟩
  simp only [] at p1 p2 p3 p4 p5 ⊢
  simp only [↓wR,RA,simprocAttr,TF,ae]
  rw [bc];refine ⟨fun h=>?_,fun h=>?_⟩
  ·have hlt:i<j:=by omega
   obtain ⟨u,hu⟩:∃ u,u=(i+j) / 2:=⟨_,rfl⟩
   have hub:i≤u∧u<j:=by omega
   have hhalf:=half i j (by omega)
   rw [← hu] at hhalf
   obtain ⟨y,hy⟩:∃ y,R[u - m]? = some y:=⟨_,List.getElem?_eq_getElem (by omega)⟩
   have hyV:=hRV y (List.mem_of_getElem? hy)
   have gy:=hRb _ _ hy
   rw [show m+(u - m)=u by omega] at gy
   have l1:=jn 0 0 71 gx
   have l2:=jn 0 0 71 gy
   simp only [↓wR,RA,simprocAttr,TF,ae,h,hhalf,↓l1,↓l2,kg,hxV.1,hyV.1];repeat (simp (disch:=omega) only [ah,be,bf,bd,bg];try simp only [↓wR,RA,simprocAttr,TF,ae,h,hhalf,↓l1,↓l2,kg,hxV.1,hyV.1])
   refine ⟨by kernel_rfl,.inl ?_⟩
   rw [u6 (g:=70) (a:=[]) (b:=[.ptr 1 0])]
   rotate_left
   ·rfl
   simp only [↓wR,RA,simprocAttr,TF,ae]
   refine ⟨by apply hc;kernel_rfl,?_⟩
   rw [bc];refine ⟨fun hl=>?_,fun hl=>?_⟩
   ·have hll:(dz s.type) y x=true:=decide_eq_true hl
    simp only [↓wR,RA,simprocAttr,TF,ae,hl];repeat (simp (disch:=omega) only [ah,be,bf,bd,bg];try simp only [↓wR,RA,simprocAttr,TF,ae,hl])
    exact ⟨(u+1,j),⟨by show m≤u+1;omega,by show u+1≤j;omega,p3,fun c _ hcc=>by
     have hcc':R[u+1 - m - 1]? = some c:=hcc
     rw [show u+1 - m - 1=u - m by omega,hy] at hcc';cases hcc';exact hll,p5⟩,by show j - (u+1)<j - i;omega,by (first|rfl|trivial|omega|((try (simp (disch:=omega) only [ah]));(try (simp only [FB]));first|done|rfl|omega))⟩
   ·have hll:(dz s.type) y x=false:=decide_eq_false hl
    simp only [↓wR,RA,simprocAttr,TF,ae,hl];repeat (simp (disch:=omega) only [ah,be,bf,bd,bg];try simp only [↓wR,RA,simprocAttr,TF,ae,hl])
    exact ⟨(i,u),⟨p1,by show i≤u;omega,by show u≤b;omega,p4,fun c hcc=>by
     have hcc':R[u - m]? = some c:=hcc
     rw [hy] at hcc';cases hcc';exact hll⟩,by show u - i<j - i;omega,by (first|rfl|trivial|omega|((try (simp (disch:=omega) only [ah]));(try (simp only [FB]));first|done|rfl|omega))⟩
  ·have hij:j=i:=by omega
   subst hij
   have hmo:=V2 (lt:=(dz s.type)) (x:=x) (l:=R) (i:=j - m) (Wn (nm s.type) hRV hRR hxV (by omega) p4) p5
   obtain ⟨R1,hR1⟩:∃ R1,R1=R.take (j - m):=⟨_,rfl⟩
   obtain ⟨R2,hR2⟩:∃ R2,R2=R.drop (j - m):=⟨_,rfl⟩
   have hRe:R=R1++R2:=by rw [hR1,hR2,List.take_append_drop]
   have hR1l:R1.length=j - m:=by rw [hR1,List.length_take];omega
   rw [← hR1,← hR2] at hmo
   rw [hmo]
   simp only [↓wR,RA,simprocAttr,TF,ae,h]
   refine cq [0,10,13] (fun (k:Nat)=>[.sl 0 0 N 4,.sc (.int .i64 (j)),.sc (.int .i64 (k))]) (fun k=>[some (.row (cellsOf aq true ((A++R1.take (k - a)++x::(R1.drop (k - a)++R2++Z)))) 0 0 71),some (.row [.vl false 1 (s.owner.map (ak.val false)),.sc (.int .u16 s.type.toNat),.sc (.int .u16 s.cls.toNat),.sc (.int .u32 s.ff.toNat),.vl false 4 (s.data.map (aq.val false))] 0 2 33)]) (fun k=>a≤k∧k+1≤j) (fun k=>j - k) a ⟨Nat.le_refl _,by omega⟩ (by simp only [↓wR,RA,simprocAttr,TF,ae]<;>rfl) (by simp only [↓wR,RA,simprocAttr,TF,ae];rw [hRe];simp) ?_
   rintro k ⟨k1,k2⟩
   simp only [↓wR,RA,simprocAttr,TF,ae];repeat (simp (disch:=omega) only [ah,be,bf,bd,bg];try simp only [↓wR,RA,simprocAttr,TF,ae])
   rw [bc];refine ⟨fun hk=>?_,fun hk=>?_⟩
   ·have hkl:k+1<j:=by omega
    obtain ⟨y,hy⟩:∃ y,R1[k - a]? = some y:=⟨_,List.getElem?_eq_getElem (by omega)⟩
    obtain ⟨X,hX⟩:∃ X,X=A++R1.take (k - a):=⟨_,rfl⟩
    obtain ⟨W,hW⟩:∃ W,W=R1.drop (k - a+1)++R2++Z:=⟨_,rfl⟩
    have hxl:X.length=k:=by rw [hX,List.length_append,List.length_take];omega
    have hcur:A++R1.take (k - a)++x::(R1.drop (k - a)++R2++Z)=X++x::y::W:=by rw [hX,hW,lj hy];simp
    have ew:A++R1.take (k+1 - a)++x::(R1.drop (k+1 - a)++R2++Z)=X++y::x::W:=by rw [hX,hW,show k+1 - a=k - a+1 by omega,iq hy];simp
    have g1:(X++x::y::W)[k]? = some x:=by rw [← hxl];exact get_at X _ x
    have hx1:(X++[x]).length=k+1:=by rw [List.length_append,hxl];rfl
    have hy1:(X++[y]).length=k+1:=by rw [List.length_append,hxl];rfl
    have g2:(X++x::y::W)[k+1]? = some y:=by
     have:=get_at (X++[x]) W y
     rw [hx1] at this
     rw [← this];simp
    have s1:(X++x::y::W).set k y=X++y::y::W:=by rw [← hxl];exact ox X _ x y
    have g3:(X++y::y::W)[k+1]? = some y:=by
     have:=get_at (X++[y]) W y
     rw [hy1] at this
     rw [← this];simp
    have s2:(X++y::y::W).set (k+1) x=X++y::x::W:=by
     have:=ox (X++[y]) W y x
     rw [hy1] at this
     simpa using this
    have l1:=jn 0 0 71 g1
    have l2:=jn 0 0 71 g2
    have t1:=qk y 0 71 0 g1
    have t2:=qk x 0 71 0 g3
    rw [s1] at t1
    rw [s2] at t2
    have hk1:(k:Int)+1=((k+1:Nat):Int):=by omega
    rw [hcur]
    simp only [↓wR,RA,simprocAttr,TF,ae,hk,hk1,↓l1,↓l2,↓t1,↓t2];repeat (simp (disch:=omega) only [ah,be,bf,bd,bg];try simp only [↓wR,RA,simprocAttr,TF,ae,hk,hk1,↓l1,↓l2,↓t1,↓t2])
    refine ⟨by kernel_rfl,.inl ?_⟩
    exact ⟨by apply hc;kernel_rfl,k+1,⟨by omega,by omega⟩,by omega,by (first|rfl|trivial|omega|((try (simp (disch:=omega) only [ah]));(try (simp only [FB]));first|done|rfl|omega)),by rw [ew]⟩
   ·have hkj:k - a=R1.length:=by omega
    rw [hkj,List.take_length,List.drop_length]
    simp only [↓wR,RA,simprocAttr,TF,ae,hk,ft,fh,eu,List.append_nil]
    simp
 ·have hL1:L.length≠1:=by omega
  have hi2:(b:Int) - m=((R.length:Nat):Int):=by omega
  simp only [↓wR,RA,simprocAttr,TF,ae,h1,hi2];repeat (simp (disch:=omega) only [ah,be,bf,bd,bg];try simp only [↓wR,RA,simprocAttr,TF,ae,h1,hi2])
  rw [di];refine ⟨fun ⟨h2,e2⟩=>?_,fun ⟨h2,e2⟩=>?_⟩
  ·have hR1:R.length=1:=by omega
   obtain ⟨y,rfl⟩:∃ y,R=[y]:=List.length_eq_one_iff.1 hR1
   have hyV:=hRV y (by simp)
   have hLb:∀ k c,L[k]? = some c→(A++L++[y]++Z)[a+k]? = some c:=fun k c hk=>by
    have hkl:=(List.getElem?_eq_some_iff.1 hk).1
    rw [List.append_assoc,List.append_assoc,List.getElem?_append_right (by omega),show a+k - A.length=k by omega,List.getElem?_append_left hkl,hk]
   have gy:(A++L++[y]++Z)[m]? = some y:=by
    rw [List.append_assoc,show m=(A++L).length by rw [List.length_append];omega];exact get_at (A++L) _ y
   simp only [↓wR,RA,simprocAttr,TF,ae,h2];repeat (simp (disch:=omega) only [ah,be,bf,bd,bg];try simp only [↓wR,RA,simprocAttr,TF,ae,h2])
   refine cq [0,2,4,14,15] (fun (p:Nat × Nat)=>[.sl 0 0 N 4,.sc (.int .i64 (m)),(.fn (.func 70) [] [.ptr 1 0]),.sc (.int .i64 (p.1)),.sc (.int .i64 (p.2))]) (fun _=>[some (.row (cellsOf aq true ((A++L++[y]++Z))) 0 0 71),some (.row [.vl false 1 (s.owner.map (ak.val false)),.sc (.int .u16 s.type.toNat),.sc (.int .u16 s.cls.toNat),.sc (.int .u32 s.ff.toNat),.vl false 4 (s.data.map (aq.val false))] 0 2 33)]) (fun p=>a≤p.1∧p.1≤p.2∧p.2≤m∧(∀ c,0<p.1 - a→L[p.1 - a - 1]? = some c→(dz s.type) y c=false)∧(∀ c,L[p.2 - a]? = some c→(dz s.type) y c=true)) (fun p=>p.2 - p.1) (a,m) ⟨Nat.le_refl _,by show a≤m;omega,Nat.le_refl _,fun c hq=>by simp at hq,fun c hq=>by rw [List.getElem?_eq_none (by show L.length≤m - a;omega)] at hq;cases hq⟩ (by simp only [↓wR,RA,simprocAttr,TF,ae]<;>rfl) (by simp only [↓wR,RA,simprocAttr,TF,ae]<;>rfl) ?_
   rintro ⟨i,j⟩ ⟨p1,p2,p3,p4,p5⟩
   simp only [] at p1 p2 p3 p4 p5 ⊢
   simp only [↓wR,RA,simprocAttr,TF,ae]
   rw [bc];refine ⟨fun h=>?_,fun h=>?_⟩
   ·have hlt:i<j:=by omega
    obtain ⟨u,hu⟩:∃ u,u=(i+j) / 2:=⟨_,rfl⟩
    have hub:i≤u∧u<j:=by omega
    have hhalf:=half i j (by omega)
    rw [← hu] at hhalf
    obtain ⟨x,hx⟩:∃ x,L[u - a]? = some x:=⟨_,List.getElem?_eq_getElem (by omega)⟩
    have hxV:=hLV x (List.mem_of_getElem? hx)
    have gx:=hLb _ _ hx
    rw [show a+(u - a)=u by omega] at gx
    have l1:=jn 0 0 71 gx
    have l2:=jn 0 0 71 gy
    simp only [↓wR,RA,simprocAttr,TF,ae,h,hhalf,↓l1,↓l2,kg,hxV.1,hyV.1];repeat (simp (disch:=omega) only [ah,be,bf,bd,bg];try simp only [↓wR,RA,simprocAttr,TF,ae,h,hhalf,↓l1,↓l2,kg,hxV.1,hyV.1])
    refine ⟨by kernel_rfl,.inl ?_⟩
    rw [u6 (g:=70) (a:=[]) (b:=[.ptr 1 0])]
    rotate_left
    ·rfl
    simp only [↓wR,RA,simprocAttr,TF,ae,Fg]
    refine ⟨by apply hc;kernel_rfl,?_⟩
    rw [bc];refine ⟨fun hl=>?_,fun hl=>?_⟩
    ·have hll:(dz s.type) y x=false:=decide_eq_false hl
     simp only [↓wR,RA,simprocAttr,TF,ae,hl];repeat (simp (disch:=omega) only [ah,be,bf,bd,bg];try simp only [↓wR,RA,simprocAttr,TF,ae,hl])
     exact ⟨(u+1,j),⟨by show a≤u+1;omega,by show u+1≤j;omega,p3,fun c _ hcc=>by
      have hcc':L[u+1 - a - 1]? = some c:=hcc
      rw [show u+1 - a - 1=u - a by omega,hx] at hcc';cases hcc';exact hll,p5⟩,by show j - (u+1)<j - i;omega,by (first|rfl|trivial|omega|((try (simp (disch:=omega) only [ah]));(try (simp only [FB]));first|done|rfl|omega))⟩
    ·have hll:(dz s.type) y x=true:=decide_eq_true (Decidable.not_not.1 hl)
     simp only [↓wR,RA,simprocAttr,TF,ae,hl];repeat (simp (disch:=omega) only [ah,be,bf,bd,bg];try simp only [↓wR,RA,simprocAttr,TF,ae,hl])
     exact ⟨(i,u),⟨p1,by show i≤u;omega,by show u≤m;omega,p4,fun c hcc=>by
      have hcc':L[u - a]? = some c:=hcc
      rw [hx] at hcc';cases hcc';exact hll⟩,by show u - i<j - i;omega,by (first|rfl|trivial|omega|((try (simp (disch:=omega) only [ah]));(try (simp only [FB]));first|done|rfl|omega))⟩
   ·have hij:j=i:=by omega
    subst hij
    have hmo:=Qc (lt:=(dz s.type)) (y:=y) (l:=L) (i:=j - a) (Dr (nm s.type) hLV hLR hyV (by omega) p4) (Ul (nm s.type) hLV hLR hyV p5)
    obtain ⟨L1,hL1e⟩:∃ L1,L1=L.take (j - a):=⟨_,rfl⟩
    obtain ⟨L2,hL2e⟩:∃ L2,L2=L.drop (j - a):=⟨_,rfl⟩
    have hLe:L=L1++L2:=by rw [hL1e,hL2e,List.take_append_drop]
    have hl1:L1.length=j - a:=by rw [hL1e,List.length_take];omega
    have hl2:L2.length=m - j:=by rw [hL2e,List.length_drop];omega
    rw [← hL1e,← hL2e] at hmo
    rw [hmo]
    simp only [↓wR,RA,simprocAttr,TF,ae,h]
    refine cq [0,14,17] (fun (k:Nat)=>[.sl 0 0 N 4,.sc (.int .i64 (j)),.sc (.int .i64 (k))]) (fun k=>[some (.row (cellsOf aq true ((A++L1++L2.take (k - j)++y::(L2.drop (k - j)++Z)))) 0 0 71),some (.row [.vl false 1 (s.owner.map (ak.val false)),.sc (.int .u16 s.type.toNat),.sc (.int .u16 s.cls.toNat),.sc (.int .u32 s.ff.toNat),.vl false 4 (s.data.map (aq.val false))] 0 2 33)]) (fun k=>j≤k∧k≤m) (fun k=>k) m ⟨by omega,Nat.le_refl _⟩ (by simp only [↓wR,RA,simprocAttr,TF,ae]<;>rfl) (by simp only [↓wR,RA,simprocAttr,TF,ae];rw [← hl2,List.take_length,List.drop_length,hLe];simp) ?_
    rintro k ⟨k1,k2⟩
    simp only [↓wR,RA,simprocAttr,TF,ae];repeat (simp (disch:=omega) only [ah,be,bf,bd,bg];try simp only [↓wR,RA,simprocAttr,TF,ae])
    rw [bc];refine ⟨fun hk=>?_,fun hk=>?_⟩
    ·have hkl:j<k:=by omega
     obtain ⟨x,hx⟩:∃ x,L2[k - 1 - j]? = some x:=⟨_,List.getElem?_eq_getElem (by omega)⟩
     obtain ⟨X,hX⟩:∃ X,X=A++L1++L2.take (k - 1 - j):=⟨_,rfl⟩
     obtain ⟨W,hW⟩:∃ W,W=L2.drop (k - j)++Z:=⟨_,rfl⟩
     have hkk:k - j=k - 1 - j+1:=by omega
     have hxl:X.length=k - 1:=by rw [hX,List.length_append,List.length_append,List.length_take];omega
     have hcur:A++L1++L2.take (k - j)++y::(L2.drop (k - j)++Z)=X++x::y::W:=by rw [hX,hW,hkk,iq hx];simp
     have ew:A++L1++L2.take (k - 1 - j)++y::(L2.drop (k - 1 - j)++Z)=X++y::x::W:=by rw [hX,hW,lj hx,hkk];simp
     have g1:(X++x::y::W)[k - 1]? = some x:=by rw [← hxl];exact get_at X _ x
     have hx1:(X++[x]).length=k:=by rw [List.length_append,hxl,List.length_singleton];omega
     have g2:(X++x::y::W)[k]? = some y:=by
      have:=get_at (X++[x]) W y
      rw [hx1] at this
      rw [← this];simp
     have s1:(X++x::y::W).set k x=X++x::x::W:=by
      have:=ox (X++[x]) W y x
      rw [hx1] at this
      simpa using this
     have g3:(X++x::x::W)[k - 1]? = some x:=by rw [← hxl];exact get_at X _ x
     have s2:(X++x::x::W).set (k - 1) y=X++y::x::W:=by rw [← hxl];exact ox X _ x y
     have l1:=jn 0 0 71 g1
     have l2:=jn 0 0 71 g2
     have t1:=qk x 0 71 0 g2
     have t2:=qk y 0 71 0 g3
     rw [s1] at t1
     rw [s2] at t2
     have hk1:(k:Int) - 1=((k - 1:Nat):Int):=by omega
     rw [hcur]
     simp only [↓wR,RA,simprocAttr,TF,ae,hk,hk1,↓l1,↓l2,↓t1,↓t2];repeat (simp (disch:=omega) only [ah,be,bf,bd,bg];try simp only [↓wR,RA,simprocAttr,TF,ae,hk,hk1,↓l1,↓l2,↓t1,↓t2])
     refine ⟨by kernel_rfl,.inl ?_⟩
     exact ⟨by apply hc;kernel_rfl,k - 1,⟨by omega,by omega⟩,by omega,by (first|rfl|trivial|omega|((try (simp (disch:=omega) only [ah]));(try (simp only [FB]));first|done|rfl|omega)),by rw [ew]⟩
    ·have hkj:k - j=0:=by omega
     rw [hkj]
     simp only [↓wR,RA,simprocAttr,TF,ae,hk,ft,fh,eu,List.append_nil]
     simp
  ·have hR1:R.length≠1:=by omega
   obtain ⟨mid,hmid⟩:∃ mid,mid=(a+b) / 2:=⟨_,rfl⟩
   have hhalf:=half a b (by omega)
   rw [← hmid] at hhalf
   have hmm:(mid:Int)+m=((mid+m:Nat):Int):=by omega
   obtain ⟨n,hn⟩:∃ n,n=mid+m:=⟨_,rfl⟩
   rw [← hn] at hmm
   obtain ⟨s0,hs0⟩:∃ s0,s0=if mid<m then n - b else a:=⟨_,rfl⟩
   obtain ⟨r0,hr0⟩:∃ r0,r0=if mid<m then mid else m:=⟨_,rfl⟩
   have hp1:(n:Int) - 1=((n - 1:Nat):Int):=by omega
   have hsr:a≤s0∧s0≤r0∧r0≤m∧r0≤mid∧n - b≤s0:=by subst hs0 hr0;split<;>omega
   obtain ⟨X0,hX0⟩:∃ X0,X0=A++L++R++Z:=⟨_,rfl⟩
   have hXL:∀ k c,L[k]? = some c→X0[a+k]? = some c:=fun k c hk=>by
    have hkl:=(List.getElem?_eq_some_iff.1 hk).1
    rw [hX0,List.append_assoc,List.append_assoc,List.getElem?_append_right (by omega),show a+k - A.length=k by omega,List.getElem?_append_left hkl,hk]
   have hXR:∀ k c,R[k]? = some c→X0[m+k]? = some c:=fun k c hk=>by
    have hkl:=(List.getElem?_eq_some_iff.1 hk).1
    rw [hX0,List.append_assoc (A++L),List.getElem?_append_right (by rw [List.length_append];omega),List.length_append,show m+k - (A.length+L.length)=k by omega,List.getElem?_append_left hkl,hk]
   rw [← hX0]
   have hfin:∀ st,s0≤st→st≤r0→(∀ c e,s0<st→L[st - 1 - a]? = some c→R[n - st - m]? = some e→(dz s.type) e c=false)→(∀ c e,st<r0→L[st - a]? = some c→R[n - 1 - st - m]? = some e→(dz s.type) e c=true) →
    ∃ X1 X2,(st<m→m<n - st→gp PP 110 [.sl 0 0 N 4,.sc (.int .i64 (st)),.sc (.int .i64 (m)),.sc (.int .i64 ((n - st:Nat))),(.fn (.func 70) [] [.ptr 1 0])] (bj [some (.row (cellsOf aq true ((X0))) 0 0 71),some (.row [.vl false 1 (s.owner.map (ak.val false)),.sc (.int .u16 s.type.toNat),.sc (.int .u16 s.cls.toNat),.sc (.int .u32 s.ff.toNat),.vl false 4 (s.data.map (aq.val false))] 0 2 33)]) (fun r st'=>r = .ea []∧st'=bj [some (.row (cellsOf aq true ((X1))) 0 0 71),some (.row [.vl false 1 (s.owner.map (ak.val false)),.sc (.int .u16 s.type.toNat),.sc (.int .u16 s.cls.toNat),.sc (.int .u32 s.ff.toNat),.vl false 4 (s.data.map (aq.val false))] 0 2 33)]))∧(¬ (st<m∧m<n - st)→X0=X1) ∧
     (a<st→st<mid→gp PP 104 [.sl 0 0 N 4,.sc (.int .i64 (a)),.sc (.int .i64 (st)),.sc (.int .i64 (mid)),(.fn (.func 70) [] [.ptr 1 0])] (bj [some (.row (cellsOf aq true ((X1))) 0 0 71),some (.row [.vl false 1 (s.owner.map (ak.val false)),.sc (.int .u16 s.type.toNat),.sc (.int .u16 s.cls.toNat),.sc (.int .u32 s.ff.toNat),.vl false 4 (s.data.map (aq.val false))] 0 2 33)]) (fun r st'=>r = .ea []∧st'=bj [some (.row (cellsOf aq true ((X2))) 0 0 71),some (.row [.vl false 1 (s.owner.map (ak.val false)),.sc (.int .u16 s.type.toNat),.sc (.int .u16 s.cls.toNat),.sc (.int .u32 s.ff.toNat),.vl false 4 (s.data.map (aq.val false))] 0 2 33)]))∧(¬ (a<st∧st<mid)→X1=X2) ∧
     (mid<n - st→n - st<b→gp PP 104 [.sl 0 0 N 4,.sc (.int .i64 (mid)),.sc (.int .i64 ((n - st:Nat))),.sc (.int .i64 (b)),(.fn (.func 70) [] [.ptr 1 0])] (bj [some (.row (cellsOf aq true ((X2))) 0 0 71),some (.row [.vl false 1 (s.owner.map (ak.val false)),.sc (.int .u16 s.type.toNat),.sc (.int .u16 s.cls.toNat),.sc (.int .u32 s.ff.toNat),.vl false 4 (s.data.map (aq.val false))] 0 2 33)]) (fun r st'=>r = .ea []∧st'=bj [some (.row (cellsOf aq true ((A++dp (dz s.type) L R++Z))) 0 0 71),some (.row [.vl false 1 (s.owner.map (ak.val false)),.sc (.int .u16 s.type.toNat),.sc (.int .u16 s.cls.toNat),.sc (.int .u32 s.ff.toNat),.vl false 4 (s.data.map (aq.val false))] 0 2 33)]))∧(¬ (mid<n - st∧n - st<b)→X2=A++dp (dz s.type) L R++Z):=by
    intro st q1 q2 q3 q4
    obtain ⟨L1,hL1e⟩:∃ L1,L1=L.take (st - a):=⟨_,rfl⟩
    obtain ⟨L2,hL2e⟩:∃ L2,L2=L.drop (st - a):=⟨_,rfl⟩
    obtain ⟨R1,hR1e⟩:∃ R1,R1=R.take (mid - st):=⟨_,rfl⟩
    obtain ⟨R2,hR2e⟩:∃ R2,R2=R.drop (mid - st):=⟨_,rfl⟩
    have hLe:L=L1++L2:=by rw [hL1e,hL2e,List.take_append_drop]
    have hRe:R=R1++R2:=by rw [hR1e,hR2e,List.take_append_drop]
    have n1:L1.length=st - a:=by rw [hL1e,List.length_take];omega
    have n2:L2.length=m - st:=by rw [hL2e,List.length_drop];omega
    have n3:R1.length=mid - st:=by rw [hR1e,List.length_take];omega
    have n4:R2.length=b - (n - st):=by rw [hR2e,List.length_drop];omega
    have r1:gu (dz s.type) L1:=by rw [hL1e];exact hLR.take _
    have r2:gu (dz s.type) L2:=by rw [hL2e];exact hLR.drop _
    have r3:gu (dz s.type) R1:=by rw [hR1e];exact hRR.take _
    have r4:gu (dz s.type) R2:=by rw [hR2e];exact hRR.drop _
    have v1:∀ x ∈ L1,sy s.type x:=fun x hx=>hLV x (by rw [hLe];simp [hx])
    have v2:∀ x ∈ L2,sy s.type x:=fun x hx=>hLV x (by rw [hLe];simp [hx])
    have v3:∀ x ∈ R1,sy s.type x:=fun x hx=>hRV x (by rw [hRe];simp [hx])
    have v4:∀ x ∈ R2,sy s.type x:=fun x hx=>hRV x (by rw [hRe];simp [hx])
    have f1:∀ x ∈ L1,∀ y ∈ R2,(dz s.type) y x=false:=by
     by_cases k1:a<st
     ·by_cases k2:n - st<b
      ·obtain ⟨c,hcc⟩:∃ c,L[st - 1 - a]? = some c:=⟨_,List.getElem?_eq_getElem (by omega)⟩
       obtain ⟨e,hee⟩:∃ e,R[n - st - m]? = some e:=⟨_,List.getElem?_eq_getElem (by omega)⟩
       have hlt:=q3 c e (by subst hs0;split<;>omega) hcc hee
       have t1:L1=L.take (st - 1 - a)++[c]:=by rw [hL1e,show st - a=st - 1 - a+1 by omega,iq hcc]
       have t2:R2=e::R.drop (n - st - m+1):=by rw [hR2e,show mid - st=n - st - m by omega,lj hee]
       rw [t1,t2]
       exact Ju (nm s.type) (fun z hz=>v1 z (by rw [t1];exact hz)) (fun z hz=>v4 z (by rw [t2];exact hz)) (by rw [← t1];exact r1) (by rw [← t2];exact r4) hlt
      ·have:R2=[]:=List.eq_nil_of_length_eq_zero (by omega)
       rw [this];intro x _ y hy;cases hy
     ·have:L1=[]:=List.eq_nil_of_length_eq_zero (by omega)
      rw [this];intro x hx;cases hx
    have f2:∀ x ∈ L2,∀ y ∈ R1,(dz s.type) y x=true:=by
     by_cases k1:st<m
     ·by_cases k2:st<mid
      ·obtain ⟨c,hcc⟩:∃ c,L[st - a]? = some c:=⟨_,List.getElem?_eq_getElem (by omega)⟩
       obtain ⟨e,hee⟩:∃ e,R[n - 1 - st - m]? = some e:=⟨_,List.getElem?_eq_getElem (by omega)⟩
       have hlt:=q4 c e (by subst hr0;split<;>omega) hcc hee
       have t1:L2=c::L.drop (st - a+1):=by rw [hL2e,lj hcc]
       have t2:R1=R.take (n - 1 - st - m)++[e]:=by rw [hR1e,show mid - st=n - 1 - st - m+1 by omega,iq hee]
       rw [t1,t2]
       exact G7 (nm s.type) (fun z hz=>v2 z (by rw [t1];exact hz)) (fun z hz=>v3 z (by rw [t2];exact hz)) (by rw [← t1];exact r2) (by rw [← t2];exact r3) hlt
      ·have:R1=[]:=List.eq_nil_of_length_eq_zero (by omega)
       rw [this];intro x _ y hy;cases hy
     ·have:L2=[]:=List.eq_nil_of_length_eq_zero (by omega)
      rw [this];intro x hx;cases hx
    have hmg:dp (dz s.type) L R=dp (dz s.type) L1 R1++dp (dz s.type) L2 R2:=by rw [hLe,hRe];exact nr L1 L2 R1 R2 f1 f2
    have m1:(dp (dz s.type) L1 R1).length=mid - a:=by rw [Qj];omega
    have hNa:N=A.length+L1.length+L2.length+R1.length+R2.length+Z.length:=by omega
    refine ⟨A++L1++R1++(L2++R2++Z),A++dp (dz s.type) L1 R1++(L2++R2++Z),fun k1 k2=>?_,fun k=>?_,fun k1 k2=>?_,fun k=>?_,fun k1 k2=>?_,fun k=>?_⟩
    ·have:=aa4 s N st m (n - st) (A++L1) L2 R1 (R2++Z) (by simp only [List.length_append];omega) hs (by rw [List.length_append];omega) (by omega) (by omega) (by omega) (by omega)
     rw [show A++L1++L2++R1++(R2++Z)=X0 by rw [hX0,hLe,hRe];simp,show A++L1++R1++L2++(R2++Z)=A++L1++R1++(L2++R2++Z) by simp] at this
     exact this
    ·rw [hX0,hLe,hRe]
     by_cases k1:st<m
     ·have:R1=[]:=List.eq_nil_of_length_eq_zero (by omega)
      rw [this];simp
     ·have:L2=[]:=List.eq_nil_of_length_eq_zero (by omega)
      rw [this];simp
    ·exact ih N a st mid A L1 R1 (L2++R2++Z) (by omega) (by simp only [List.length_append];omega) hs ha (by omega) (by omega) (by omega) (by omega) v1 v3 r1 r3
    ·by_cases k1:a<st
     ·have:R1=[]:=List.eq_nil_of_length_eq_zero (by omega)
      rw [this,g8];simp
     ·have:L1=[]:=List.eq_nil_of_length_eq_zero (by omega)
      rw [this,i3];simp
    ·have:=ih N mid (n - st) b (A++dp (dz s.type) L1 R1) L2 R2 Z (by omega) (by simp only [List.length_append,m1];omega) hs (by rw [List.length_append,m1];omega) (by omega) (by omega) (by omega) (by omega) v2 v4 r2 r4
     rw [hmg]
     rw [show A++dp (dz s.type) L1 R1++L2++R2++Z=A++dp (dz s.type) L1 R1++(L2++R2++Z) by simp,show A++dp (dz s.type) L1 R1++dp (dz s.type) L2 R2++Z=A++(dp (dz s.type) L1 R1++dp (dz s.type) L2 R2)++Z by simp] at this
     exact this
    ·rw [hmg]
     by_cases k1:mid<n - st
     ·have:R2=[]:=List.eq_nil_of_length_eq_zero (by omega)
      rw [this,g8];simp
     ·have:L2=[]:=List.eq_nil_of_length_eq_zero (by omega)
      rw [this,i3];simp
   simp only [↓wR,RA,simprocAttr,TF,ae,h2,hhalf,hmm];repeat (simp (disch:=omega) only [ah,be,bf,bd,bg];try simp only [↓wR,RA,simprocAttr,TF,ae,h2,hhalf,hmm])
   rw [bc];refine ⟨fun hg=>?_,fun hg=>?_⟩
   ·have e3:(n:Int) - b=((s0:Nat):Int):=by rw [hs0,if_pos (by omega)];omega
    have e4:((mid:Nat):Int)=((r0:Nat):Int):=by rw [hr0,if_pos (by omega)]
    simp only [↓wR,RA,simprocAttr,TF,ae,hg,e3,hp1];repeat (simp (disch:=omega) only [ah,be,bf,bd,bg];try simp only [↓wR,RA,simprocAttr,TF,ae,hg,e3,hp1])
    refine cq [0,1,2,3,4,18,19,20,21,22] (fun (p:Nat × Nat)=>[.sl 0 0 N 4,.sc (.int .i64 (a)),.sc (.int .i64 (m)),.sc (.int .i64 (b)),(.fn (.func 70) [] [.ptr 1 0]),.sc (.int .i64 (mid)),.sc (.int .i64 (n)),.sc (.int .i64 (p.1)),.sc (.int .i64 (p.2)),.sc (.int .i64 (((n - 1:Nat):Int)))]) (fun _=>[some (.row (cellsOf aq true ((X0))) 0 0 71),some (.row [.vl false 1 (s.owner.map (ak.val false)),.sc (.int .u16 s.type.toNat),.sc (.int .u16 s.cls.toNat),.sc (.int .u32 s.ff.toNat),.vl false 4 (s.data.map (aq.val false))] 0 2 33)]) (fun p=>s0≤p.1∧p.1≤p.2∧p.2≤r0∧(∀ c e,s0<p.1→L[p.1 - 1 - a]? = some c→R[n - p.1 - m]? = some e→(dz s.type) e c=false)∧(∀ c e,p.2<r0→L[p.2 - a]? = some c→R[n - 1 - p.2 - m]? = some e→(dz s.type) e c=true)) (fun p=>p.2 - p.1) (s0,r0) ⟨Nat.le_refl _,hsr.2.1,Nat.le_refl _,fun _ _ q=>absurd q (Nat.lt_irrefl _),fun _ _ q=>absurd q (Nat.lt_irrefl _)⟩ (by simp only [↓wR,RA,simprocAttr,TF,ae];rw [e4]) (by simp only [↓wR,RA,simprocAttr,TF,ae]<;>rfl) ?_
    rintro ⟨i,j⟩ ⟨p1,p2,p3,p4,p5⟩
    simp only [] at p1 p2 p3 p4 p5 ⊢
    simp only [↓wR,RA,simprocAttr,TF,ae]
    rw [bc];refine ⟨fun h=>?_,fun h=>?_⟩
    ·have hlt:i<j:=by omega
     obtain ⟨u,hu⟩:∃ u,u=(i+j) / 2:=⟨_,rfl⟩
     have hub:i≤u∧u<j:=by omega
     have hhalf2:=half i j (by omega)
     rw [← hu] at hhalf2
     obtain ⟨x,hx⟩:∃ x,L[u - a]? = some x:=⟨_,List.getElem?_eq_getElem (by omega)⟩
     obtain ⟨y,hy⟩:∃ y,R[n - 1 - u - m]? = some y:=⟨_,List.getElem?_eq_getElem (by omega)⟩
     have hxV:=hLV x (List.mem_of_getElem? hx)
     have hyV:=hRV y (List.mem_of_getElem? hy)
     have gx:=hXL _ _ hx
     rw [show a+(u - a)=u by omega] at gx
     have gy:=hXR _ _ hy
     rw [show m+(n - 1 - u - m)=n - 1 - u by omega] at gy
     have hpu:((n - 1:Nat):Int) - u=((n - 1 - u:Nat):Int):=by omega
     have l1:=jn 0 0 71 gx
     have l2:=jn 0 0 71 gy
     simp only [↓wR,RA,simprocAttr,TF,ae,h,hhalf2,hpu,↓l1,↓l2,kg,hxV.1,hyV.1];repeat (simp (disch:=omega) only [ah,be,bf,bd,bg];try simp only [↓wR,RA,simprocAttr,TF,ae,h,hhalf2,hpu,↓l1,↓l2,kg,hxV.1,hyV.1])
     refine ⟨by kernel_rfl,.inl ?_⟩
     rw [u6 (g:=70) (a:=[]) (b:=[.ptr 1 0])]
     rotate_left
     ·rfl
     simp only [↓wR,RA,simprocAttr,TF,ae,Fg]
     refine ⟨by apply hc;kernel_rfl,?_⟩
     rw [bc];refine ⟨fun hl=>?_,fun hl=>?_⟩
     ·have hll:(dz s.type) y x=false:=decide_eq_false hl
      simp only [↓wR,RA,simprocAttr,TF,ae,hl];repeat (simp (disch:=omega) only [ah,be,bf,bd,bg];try simp only [↓wR,RA,simprocAttr,TF,ae,hl])
      exact ⟨(u+1,j),⟨by show s0≤u+1;omega,by show u+1≤j;omega,p3,fun c e _ hcc hee=>by
       have hcc':L[u+1 - 1 - a]? = some c:=hcc
       have hee':R[n - (u+1) - m]? = some e:=hee
       rw [show u+1 - 1 - a=u - a by omega,hx] at hcc'
       rw [show n - (u+1) - m=n - 1 - u - m by omega,hy] at hee'
       cases hcc';cases hee';exact hll,p5⟩,by show j - (u+1)<j - i;omega,by (first|rfl|trivial|omega|((try (simp (disch:=omega) only [ah]));(try (simp only [FB]));first|done|rfl|omega))⟩
     ·have hll:(dz s.type) y x=true:=decide_eq_true (Decidable.not_not.1 hl)
      simp only [↓wR,RA,simprocAttr,TF,ae,hl];repeat (simp (disch:=omega) only [ah,be,bf,bd,bg];try simp only [↓wR,RA,simprocAttr,TF,ae,hl])
      exact ⟨(i,u),⟨p1,by show i≤u;omega,by show u≤r0;omega,p4,fun c e _ hcc hee=>by
       have hcc':L[u - a]? = some c:=hcc
       have hee':R[n - 1 - u - m]? = some e:=hee
       rw [hx] at hcc';rw [hy] at hee'
       cases hcc';cases hee';exact hll⟩,by show u - i<j - i;omega,by (first|rfl|trivial|omega|((try (simp (disch:=omega) only [ah]));(try (simp only [FB]));first|done|rfl|omega))⟩
    ·have hij:j=i:=by omega
     subst hij
     obtain ⟨X1,X2,c1,c2,c3,c4,c5,c6⟩:=hfin j p1 p3 p4 p5
     have hen:(n:Int) - j=((n - j:Nat):Int):=by omega
     obtain ⟨en,hen2⟩:∃ en,en=n - j:=⟨_,rfl⟩
     rw [← hen2] at c1 c2 c5 c6 hen
     obtain ⟨X3,hX3⟩:∃ X3,X3=A++dp (dz s.type) L R++Z:=⟨_,rfl⟩
     rw [← hX3] at c5 c6 ⊢
     have b1:m<en↔j<mid:=by omega
     have b2:mid<en↔j<m:=by omega
     by_cases k1:a<j<;>by_cases k2:j<m<;>by_cases k3:j<mid<;>by_cases k4:en<b<;>first
      |(exfalso;omega)
      |(
       have d1:=k1
       have d2:=k2
       have d3:=k3
       have d4:=k4
       have hwr:IntKind.i64.wrap (en:Int)=en:=ah _ (by omega) (by omega)
       have d5:decide (m<en)=decide (j<mid):=decide_eq_decide.2 b1
       have d6:decide (mid<en)=decide (j<m):=decide_eq_decide.2 b2
       (try rw [c2 (by omega)])
       simp only [↓wR,RA,simprocAttr,TF,ae,h,hen,hwr,vt,d1,d2,d3,d4,d5,d6]
       (try (refine dq (c1 (by omega) (by omega)) ?_;rintro _ _ ⟨rfl,rfl⟩;simp only [↓wR,RA,simprocAttr,TF,ae,da,h,hen,hwr,vt,d1,d2,d3,d4,d5,d6]))
       (try rw [c4 (by omega)])
       (try (refine dq (c3 (by omega) (by omega)) ?_;rintro _ _ ⟨rfl,rfl⟩;simp only [↓wR,RA,simprocAttr,TF,ae,da,h,hen,hwr,vt,d1,d2,d3,d4,d5,d6]))
       (try rw [c6 (by omega)])
       (try (refine dq (c5 (by omega) (by omega)) ?_;rintro _ _ ⟨rfl,rfl⟩;simp only [↓wR,RA,simprocAttr,TF,ae,da,h,hen,hwr,vt,d1,d2,d3,d4,d5,d6]))
       simp only [↓wR,RA,simprocAttr,TF,ae,ft,fh,eu])
   ·have e3:((a:Nat):Int)=((s0:Nat):Int):=by rw [hs0,if_neg (by omega)]
    have e4:((m:Nat):Int)=((r0:Nat):Int):=by rw [hr0,if_neg (by omega)]
    simp only [↓wR,RA,simprocAttr,TF,ae,hg,hp1];repeat (simp (disch:=omega) only [ah,be,bf,bd,bg];try simp only [↓wR,RA,simprocAttr,TF,ae,hg,hp1])
    refine cq [0,1,2,3,4,18,19,20,21,22] (fun (p:Nat × Nat)=>[.sl 0 0 N 4,.sc (.int .i64 (a)),.sc (.int .i64 (m)),.sc (.int .i64 (b)),(.fn (.func 70) [] [.ptr 1 0]),.sc (.int .i64 (mid)),.sc (.int .i64 (n)),.sc (.int .i64 (p.1)),.sc (.int .i64 (p.2)),.sc (.int .i64 (((n - 1:Nat):Int)))]) (fun _=>[some (.row (cellsOf aq true ((X0))) 0 0 71),some (.row [.vl false 1 (s.owner.map (ak.val false)),.sc (.int .u16 s.type.toNat),.sc (.int .u16 s.cls.toNat),.sc (.int .u32 s.ff.toNat),.vl false 4 (s.data.map (aq.val false))] 0 2 33)]) (fun p=>s0≤p.1∧p.1≤p.2∧p.2≤r0∧(∀ c e,s0<p.1→L[p.1 - 1 - a]? = some c→R[n - p.1 - m]? = some e→(dz s.type) e c=false)∧(∀ c e,p.2<r0→L[p.2 - a]? = some c→R[n - 1 - p.2 - m]? = some e→(dz s.type) e c=true)) (fun p=>p.2 - p.1) (s0,r0) ⟨Nat.le_refl _,hsr.2.1,Nat.le_refl _,fun _ _ q=>absurd q (Nat.lt_irrefl _),fun _ _ q=>absurd q (Nat.lt_irrefl _)⟩ (by simp only [↓wR,RA,simprocAttr,TF,ae];rw [← e3,← e4]) (by simp only [↓wR,RA,simprocAttr,TF,ae]<;>rfl) ?_
    rintro ⟨i,j⟩ ⟨p1,p2,p3,p4,p5⟩
    simp only [] at p1 p2 p3 p4 p5 ⊢
    simp only [↓wR,RA,simprocAttr,TF,ae]
    rw [bc];refine ⟨fun h=>?_,fun h=>?_⟩
    ·have hlt:i<j:=by omega
     obtain ⟨u,hu⟩:∃ u,u=(i+j) / 2:=⟨_,rfl⟩
     have hub:i≤u∧u<j:=by omega
     have hhalf2:=half i j (by omega)
     rw [← hu] at hhalf2
     obtain ⟨x,hx⟩:∃ x,L[u - a]? = some x:=⟨_,List.getElem?_eq_getElem (by omega)⟩
     obtain ⟨y,hy⟩:∃ y,R[n - 1 - u - m]? = some y:=⟨_,List.getElem?_eq_getElem (by omega)⟩
     have hxV:=hLV x (List.mem_of_getElem? hx)
     have hyV:=hRV y (List.mem_of_getElem? hy)
     have gx:=hXL _ _ hx
     rw [show a+(u - a)=u by omega] at gx
     have gy:=hXR _ _ hy
     rw [show m+(n - 1 - u - m)=n - 1 - u by omega] at gy
     have hpu:((n - 1:Nat):Int) - u=((n - 1 - u:Nat):Int):=by omega
     have l1:=jn 0 0 71 gx
     have l2:=jn 0 0 71 gy
     simp only [↓wR,RA,simprocAttr,TF,ae,h,hhalf2,hpu,↓l1,↓l2,kg,hxV.1,hyV.1];repeat (simp (disch:=omega) only [ah,be,bf,bd,bg];try simp only [↓wR,RA,simprocAttr,TF,ae,h,hhalf2,hpu,↓l1,↓l2,kg,hxV.1,hyV.1])
     refine ⟨by kernel_rfl,.inl ?_⟩
     rw [u6 (g:=70) (a:=[]) (b:=[.ptr 1 0])]
     rotate_left
     ·rfl
     simp only [↓wR,RA,simprocAttr,TF,ae,Fg]
     refine ⟨by apply hc;kernel_rfl,?_⟩
     rw [bc];refine ⟨fun hl=>?_,fun hl=>?_⟩
     ·have hll:(dz s.type) y x=false:=decide_eq_false hl
      simp only [↓wR,RA,simprocAttr,TF,ae,hl];repeat (simp (disch:=omega) only [ah,be,bf,bd,bg];try simp only [↓wR,RA,simprocAttr,TF,ae,hl])
      exact ⟨(u+1,j),⟨by show s0≤u+1;omega,by show u+1≤j;omega,p3,fun c e _ hcc hee=>by
       have hcc':L[u+1 - 1 - a]? = some c:=hcc
       have hee':R[n - (u+1) - m]? = some e:=hee
       rw [show u+1 - 1 - a=u - a by omega,hx] at hcc'
       rw [show n - (u+1) - m=n - 1 - u - m by omega,hy] at hee'
       cases hcc';cases hee';exact hll,p5⟩,by show j - (u+1)<j - i;omega,by (first|rfl|trivial|omega|((try (simp (disch:=omega) only [ah]));(try (simp only [FB]));first|done|rfl|omega))⟩
     ·have hll:(dz s.type) y x=true:=decide_eq_true (Decidable.not_not.1 hl)
      simp only [↓wR,RA,simprocAttr,TF,ae,hl];repeat (simp (disch:=omega) only [ah,be,bf,bd,bg];try simp only [↓wR,RA,simprocAttr,TF,ae,hl])
      exact ⟨(i,u),⟨p1,by show i≤u;omega,by show u≤r0;omega,p4,fun c e _ hcc hee=>by
       have hcc':L[u - a]? = some c:=hcc
       have hee':R[n - 1 - u - m]? = some e:=hee
       rw [hx] at hcc';rw [hy] at hee'
       cases hcc';cases hee';exact hll⟩,by show u - i<j - i;omega,by (first|rfl|trivial|omega|((try (simp (disch:=omega) only [ah]));(try (simp only [FB]));first|done|rfl|omega))⟩
    ·have hij:j=i:=by omega
     subst hij
     obtain ⟨X1,X2,c1,c2,c3,c4,c5,c6⟩:=hfin j p1 p3 p4 p5
     have hen:(n:Int) - j=((n - j:Nat):Int):=by omega
     obtain ⟨en,hen2⟩:∃ en,en=n - j:=⟨_,rfl⟩
     rw [← hen2] at c1 c2 c5 c6 hen
     obtain ⟨X3,hX3⟩:∃ X3,X3=A++dp (dz s.type) L R++Z:=⟨_,rfl⟩
     rw [← hX3] at c5 c6 ⊢
     have b1:m<en↔j<mid:=by omega
     have b2:mid<en↔j<m:=by omega
     by_cases k1:a<j<;>by_cases k2:j<m<;>by_cases k3:j<mid<;>by_cases k4:en<b<;>first
      |(exfalso;omega)
      |(
       have d1:=k1
       have d2:=k2
       have d3:=k3
       have d4:=k4
       have hwr:IntKind.i64.wrap (en:Int)=en:=ah _ (by omega) (by omega)
       have d5:decide (m<en)=decide (j<mid):=decide_eq_decide.2 b1
       have d6:decide (mid<en)=decide (j<m):=decide_eq_decide.2 b2
       (try rw [c2 (by omega)])
       simp only [↓wR,RA,simprocAttr,TF,ae,h,hen,hwr,vt,d1,d2,d3,d4,d5,d6]
       (try (refine dq (c1 (by omega) (by omega)) ?_;rintro _ _ ⟨rfl,rfl⟩;simp only [↓wR,RA,simprocAttr,TF,ae,da,h,hen,hwr,vt,d1,d2,d3,d4,d5,d6]))
       (try rw [c4 (by omega)])
       (try (refine dq (c3 (by omega) (by omega)) ?_;rintro _ _ ⟨rfl,rfl⟩;simp only [↓wR,RA,simprocAttr,TF,ae,da,h,hen,hwr,vt,d1,d2,d3,d4,d5,d6]))
       (try rw [c6 (by omega)])
       (try (refine dq (c5 (by omega) (by omega)) ?_;rintro _ _ ⟨rfl,rfl⟩;simp only [↓wR,RA,simprocAttr,TF,ae,da,h,hen,hwr,vt,d1,d2,d3,d4,d5,d6]))
       simp only [↓wR,RA,simprocAttr,TF,ae,ft,fh,eu])
theorem Xo (s:ba) (N:Nat) (X:List bq) (hN:N=X.length) (hs:N≤1048576) (hV:∀ x ∈ X,sy s.type x) :
 gp PP 90 [.sl 0 0 N 4,.sc (.int .i64 (N)),(.fn (.func 70) [] [.ptr 1 0])] (bj [some (.row (cellsOf aq true ((X))) 0 0 71),some (.row [.vl false 1 (s.owner.map (ak.val false)),.sc (.int .u16 s.type.toNat),.sc (.int .u16 s.cls.toNat),.sc (.int .u32 s.ff.toNat),.vl false 4 (s.data.map (aq.val false))] 0 2 33)])
  (fun r st'=>r = .ea []∧st'=bj [some (.row (cellsOf aq true ((c8 (dz s.type) X))) 0 0 71),some (.row [.vl false 1 (s.owner.map (ak.val false)),.sc (.int .u16 s.type.toNat),.sc (.int .u16 s.cls.toNat),.sc (.int .u32 s.ff.toNat),.vl false 4 (s.data.map (aq.val false))] 0 2 33)]):=by
 refine cz _ rfl ?_ (fun r st' h=>h)
 refine bn (T:=[]) (an.nil PP) mixed Tryz.func90 rfl (by kernel_rfl) (by kernel_rfl) (by kernel_rfl) (by kernel_rfl) ?_;unfold Tryz.f90
 simp only [↓wR,RA,simprocAttr,TF,ae]
 refine cq [0,1,2,6,7,8] (fun (x:List bq × List bq)=>[.sl 0 0 N 4,.sc (.int .i64 (N)),(.fn (.func 70) [] [.ptr 1 0]),.sc (.int .i64 (20)),.sc (.int .i64 (x.1.length)),.sc (.int .i64 (((x.1.length+20:Nat):Int)))]) (fun x=>[some (.row (cellsOf aq true ((x.1++x.2))) 0 0 71),some (.row [.vl false 1 (s.owner.map (ak.val false)),.sc (.int .u16 s.type.toNat),.sc (.int .u16 s.cls.toNat),.sc (.int .u32 s.ff.toNat),.vl false 4 (s.data.map (aq.val false))] 0 2 33)]) (fun x=>x.1++iw (dz s.type) 20 x.2=iw (dz s.type) 20 X∧x.1.length+x.2.length=N∧∀ y ∈ x.2,sy s.type y) (fun x=>x.2.length) ([],X) ⟨rfl,by rw [hN];simp,hV⟩ (by simp only [↓wR,RA,simprocAttr,TF,ae]<;>rfl) (by simp only [↓wR,RA,simprocAttr,TF,ae]<;>rfl) ?_
 rintro ⟨D,Y⟩ ⟨h1,h2,h3⟩
 simp only [] at h1 h2 h3 ⊢
 simp only [↓wR,RA,simprocAttr,TF,ae]
 rw [bc];refine ⟨fun h=>?_,fun h=>?_⟩
 ·have hle : 20≤Y.length:=by omega
  have hY:Y=Y.take 20++Y.drop 20:=(List.take_append_drop 20 Y).symm
  have hl1:(Y.take 20).length=20:=by rw [List.length_take];omega
  have hins:=I4 s N D.length (D.length+20) D (Y.take 20) (Y.drop 20) (by simp only [List.length_append,List.length_take,List.length_drop];omega) hs rfl (by omega) (fun x hx=>h3 x (List.mem_of_mem_take hx))
  rw [show D++Y.take 20++Y.drop 20=D++Y by rw [List.append_assoc,List.take_append_drop]] at hins
  have hb1:((D.length+20:Nat):Int)+20=((D.length+20+20:Nat):Int):=by omega
  simp only [↓wR,RA,simprocAttr,TF,ae,h];repeat (simp (disch:=omega) only [ah,be,bf,bd,bg];try simp only [↓wR,RA,simprocAttr,TF,ae,h])
  refine dq hins ?_
  rintro _ _ ⟨rfl,rfl⟩
  simp only [↓wR,RA,simprocAttr,TF,ae,da,hb1];repeat (simp (disch:=omega) only [ah,be,bf,bd,bg];try simp only [↓wR,RA,simprocAttr,TF,ae,da,hb1])
  refine ⟨(D++c8 (dz s.type) (Y.take 20),Y.drop 20),⟨?_,?_,fun y hy=>h3 y (List.mem_of_mem_drop hy)⟩,?_,?_,?_⟩
  ·rw [← h1,yd (l:=Y) (by decide) hle,List.append_assoc]
  ·simp only [List.length_append,dn,List.length_drop,hl1];omega
  ·simp only [List.length_drop];omega
  ·simp only [List.length_append,dn,hl1]<;>rfl
  ·rfl
 ·have hle:Y.length<20:=by omega
  have hins:=I4 s N D.length N D Y [] (by simp only [List.length_append,List.length_nil];omega) hs rfl (by omega) h3
  rw [List.append_nil,List.append_nil,show D++c8 (dz s.type) Y=iw (dz s.type) 20 X by rw [← h1,n7 (by omega)]] at hins
  simp only [↓wR,RA,simprocAttr,TF,ae,h];repeat (simp (disch:=omega) only [ah,be,bf,bd,bg];try simp only [↓wR,RA,simprocAttr,TF,ae,h])
  refine dq hins ?_
  rintro _ _ ⟨rfl,rfl⟩
  simp only [↓wR,RA,simprocAttr,TF,ae,da];repeat (simp (disch:=omega) only [ah,be,bf,bd,bg];try simp only [↓wR,RA,simprocAttr,TF,ae,da])
  refine cq [0,1,2,6] (fun (k:Nat)=>[.sl 0 0 N 4,.sc (.int .i64 (N)),(.fn (.func 70) [] [.ptr 1 0]),.sc (.int .i64 (k))]) (fun k=>[some (.row (cellsOf aq true ((iw (dz s.type) k X))) 0 0 71),some (.row [.vl false 1 (s.owner.map (ak.val false)),.sc (.int .u16 s.type.toNat),.sc (.int .u16 s.cls.toNat),.sc (.int .u32 s.ff.toNat),.vl false 4 (s.data.map (aq.val false))] 0 2 33)]) (fun k=>0<k∧k≤2 * N+40) (fun k=>N - k) 20 ⟨by decide,by omega⟩ (by simp only [↓wR,RA,simprocAttr,TF,ae]<;>rfl) (by simp only [↓wR,RA,simprocAttr,TF,ae]<;>rfl) ?_
  clear h1 h2 h3 h hle hins D Y
  rintro k ⟨hk0,hk1⟩
  simp only [↓wR,RA,simprocAttr,TF,ae]
  rw [bc];refine ⟨fun h=>?_,fun h=>?_⟩
  ·have e2:(2:Int) * k=((k+k:Nat):Int):=by omega
   simp only [↓wR,RA,simprocAttr,TF,ae,h,e2];repeat (simp (disch:=omega) only [ah,be,bf,bd,bg];try simp only [↓wR,RA,simprocAttr,TF,ae,h,e2])
   refine cq [0,1,2,6,7,8] (fun (x:List bq × List bq)=>[.sl 0 0 N 4,.sc (.int .i64 (N)),(.fn (.func 70) [] [.ptr 1 0]),.sc (.int .i64 (k)),.sc (.int .i64 (x.1.length)),.sc (.int .i64 (((x.1.length+(k+k):Nat):Int)))]) (fun x=>[some (.row (cellsOf aq true ((x.1++iw (dz s.type) k x.2))) 0 0 71),some (.row [.vl false 1 (s.owner.map (ak.val false)),.sc (.int .u16 s.type.toNat),.sc (.int .u16 s.cls.toNat),.sc (.int .u32 s.ff.toNat),.vl false 4 (s.data.map (aq.val false))] 0 2 33)]) (fun x=>x.1++iw (dz s.type) (k+k) x.2=iw (dz s.type) (k+k) X∧x.1.length+x.2.length=N∧∀ y ∈ x.2,sy s.type y) (fun x=>x.2.length) ([],X) ⟨rfl,by rw [hN];simp,hV⟩ (by simp only [↓wR,RA,simprocAttr,TF,ae]<;>simp) (by simp only [↓wR,RA,simprocAttr,TF,ae]<;>rfl) ?_
   rintro ⟨D,Y⟩ ⟨h1,h2,h3⟩
   simp only [] at h1 h2 h3 ⊢
   have hm1:(D.length:Int)+k=((D.length+k:Nat):Int):=by omega
   simp only [↓wR,RA,simprocAttr,TF,ae]
   rw [bc];refine ⟨fun h4=>?_,fun h4=>?_⟩
   ·have hle:k+k≤Y.length:=by omega
    have hb1:((D.length+(k+k):Nat):Int)+((k+k:Nat):Int)=((D.length+(k+k)+(k+k):Nat):Int):=by omega
    have l1:(Y.take k).length=k:=by rw [List.length_take];omega
    have l2:((Y.drop k).take k).length=k:=by rw [List.length_take,List.length_drop];omega
    have hsym:=Jk s (k+k) N D.length (D.length+k) (D.length+(k+k)) D (c8 (dz s.type) (Y.take k)) (c8 (dz s.type) ((Y.drop k).take k)) (iw (dz s.type) k (Y.drop (k+k))) (by omega) (by simp only [List.length_append,dn,l1,l2,af2 hk0 _ _ (Nat.le_refl _),List.length_drop];omega) hs rfl (by rw [dn,l1]) (by rw [dn,l2];omega) (by rw [dn,l1];exact hk0) (by rw [dn,l2];exact hk0) (fun x hx=>h3 x (List.mem_of_mem_take (jh.1 hx))) (fun x hx=>h3 x (List.mem_of_mem_drop (List.mem_of_mem_take (jh.1 hx)))) (l6 (nm s.type) _ (fun y hy=>h3 y (List.mem_of_mem_take hy))) (l6 (nm s.type) _ (fun y hy=>h3 y (List.mem_of_mem_drop (List.mem_of_mem_take hy))))
    rw [Bt (nm s.type) _ _ (fun y hy=>h3 y (List.mem_of_mem_take hy)) (fun y hy=>h3 y (List.mem_of_mem_drop (List.mem_of_mem_take hy))),acf,show D++c8 (dz s.type) (Y.take k)++c8 (dz s.type) ((Y.drop k).take k)++iw (dz s.type) k (Y.drop (k+k))=D++iw (dz s.type) k Y by rw [agb hk0 hle];simp] at hsym
    simp only [↓wR,RA,simprocAttr,TF,ae,h4,hm1];repeat (simp (disch:=omega) only [ah,be,bf,bd,bg];try simp only [↓wR,RA,simprocAttr,TF,ae,h4,hm1])
    refine dq hsym ?_
    rintro _ _ ⟨rfl,rfl⟩
    simp only [↓wR,RA,simprocAttr,TF,ae,da,e2,hb1];repeat (simp (disch:=omega) only [ah,be,bf,bd,bg];try simp only [↓wR,RA,simprocAttr,TF,ae,da,e2,hb1])
    refine ⟨(D++c8 (dz s.type) (Y.take (k+k)),Y.drop (k+k)),⟨?_,?_,fun y hy=>h3 y (List.mem_of_mem_drop hy)⟩,?_,?_,?_⟩
    ·rw [← h1,yd (l:=Y) (by omega) hle,List.append_assoc]
    ·simp only [List.length_append,dn,List.length_drop,List.length_take];omega
    ·simp only [List.length_drop];omega
    ·have:(D++c8 (dz s.type) (Y.take (k+k))).length=D.length+(k+k):=by simp only [List.length_append,dn,List.length_take];omega
     simp only [this]
    ·rfl
   ·have hle:Y.length<k+k:=by omega
    have e3:(k:Int) * 2=((k+k:Nat):Int):=by omega
    simp only [↓wR,RA,simprocAttr,TF,ae,h4,hm1];repeat (simp (disch:=omega) only [ah,be,bf,bd,bg];try simp only [↓wR,RA,simprocAttr,TF,ae,h4,hm1])
    rw [bc];refine ⟨fun h5=>?_,fun h5=>?_⟩
    ·have hlt:k<Y.length:=by omega
     have l1:(Y.take k).length=k:=by rw [List.length_take];omega
     have hsym:=Jk s (k+k) N D.length (D.length+k) N D (c8 (dz s.type) (Y.take k)) (c8 (dz s.type) (Y.drop k)) [] (by omega) (by simp only [List.length_append,dn,l1,List.length_drop,List.length_nil];omega) hs rfl (by rw [dn,l1]) (by rw [dn,List.length_drop];omega) (by rw [dn,l1];exact hk0) (by rw [dn,List.length_drop];omega) (fun x hx=>h3 x (List.mem_of_mem_take (jh.1 hx))) (fun x hx=>h3 x (List.mem_of_mem_drop (jh.1 hx))) (l6 (nm s.type) _ (fun y hy=>h3 y (List.mem_of_mem_take hy))) (l6 (nm s.type) _ (fun y hy=>h3 y (List.mem_of_mem_drop hy)))
     rw [Bt (nm s.type) _ _ (fun y hy=>h3 y (List.mem_of_mem_take hy)) (fun y hy=>h3 y (List.mem_of_mem_drop hy)),List.take_append_drop,List.append_nil,List.append_nil,show D++c8 (dz s.type) (Y.take k)++c8 (dz s.type) (Y.drop k)=D++iw (dz s.type) k Y by rw [acg hk0 hlt (by omega)];simp,show D++c8 (dz s.type) Y=iw (dz s.type) (k+k) X by rw [← h1,n7 (by omega)]] at hsym
     simp only [↓wR,RA,simprocAttr,TF,ae,h5];repeat (simp (disch:=omega) only [ah,be,bf,bd,bg];try simp only [↓wR,RA,simprocAttr,TF,ae,h5])
     refine dq hsym ?_
     rintro _ _ ⟨rfl,rfl⟩
     simp only [↓wR,RA,simprocAttr,TF,ae,da,e3];repeat (simp (disch:=omega) only [ah,be,bf,bd,bg];try simp only [↓wR,RA,simprocAttr,TF,ae,da,e3])
     exact ⟨k+k,⟨by omega,by omega⟩,by omega,by (first|rfl|trivial|omega|((try (simp (disch:=omega) only [ah]));(try (simp only [FB]));first|done|rfl|omega)),by (first|rfl|trivial|omega|((try (simp (disch:=omega) only [ah]));(try (simp only [FB]));first|done|rfl|omega))⟩
    ·have hlt:Y.length≤k:=by omega
     rw [show D++iw (dz s.type) k Y=iw (dz s.type) (k+k) X by rw [← h1,n7 hlt,n7 (by omega)]]
     simp only [↓wR,RA,simprocAttr,TF,ae,h5,e3];repeat (simp (disch:=omega) only [ah,be,bf,bd,bg];try simp only [↓wR,RA,simprocAttr,TF,ae,h5,e3])
     exact ⟨k+k,⟨by omega,by omega⟩,by omega,by (first|rfl|trivial|omega|((try (simp (disch:=omega) only [ah]));(try (simp only [FB]));first|done|rfl|omega)),by (first|rfl|trivial|omega|((try (simp (disch:=omega) only [ah]));(try (simp only [FB]));first|done|rfl|omega))⟩
  ·have hle:X.length≤k:=by omega
   rw [n7 hle]
   simp only [↓wR,RA,simprocAttr,TF,ae,h,ft,fh,eu]
theorem W0 (s:ba) (N:Nat) (X:List bq) (hN:N=X.length) (hs:N≤1048576) (hV:∀ x ∈ X,sy s.type x) :
 gp PP 69 [.sl 0 0 N 4,(.fn (.func 70) [] [.ptr 1 0])] (bj [some (.row (cellsOf aq true ((X))) 0 0 71),some (.row [.vl false 1 (s.owner.map (ak.val false)),.sc (.int .u16 s.type.toNat),.sc (.int .u16 s.cls.toNat),.sc (.int .u32 s.ff.toNat),.vl false 4 (s.data.map (aq.val false))] 0 2 33)])
  (fun r st'=>r = .ea []∧st'=bj [some (.row (cellsOf aq true ((c8 (dz s.type) X))) 0 0 71),some (.row [.vl false 1 (s.owner.map (ak.val false)),.sc (.int .u16 s.type.toNat),.sc (.int .u16 s.cls.toNat),.sc (.int .u32 s.ff.toNat),.vl false 4 (s.data.map (aq.val false))] 0 2 33)]):=by
 refine cz _ rfl ?_ (fun r st' h=>h)
 refine bn (T:=[]) (an.nil PP) mixed Tryz.func69 rfl (by kernel_rfl) (by kernel_rfl) (by kernel_rfl) (by kernel_rfl) ?_;unfold Tryz.f69
 simp only [↓wR,RA,simprocAttr,TF,ae]
 refine dq (Xo s N X hN hs hV) ?_
 rintro _ _ ⟨rfl,rfl⟩
 simp only [↓wR,RA,simprocAttr,TF,ae,da,ft,fh,eu]
theorem Ww (N:Nat) (X:List ba) (hN:N=X.length) (hs:N≤1048576) (hV:∀ x ∈ X,ct x) :
 gp PP 88 [.sl 0 0 N 5,.sc (.int .i64 (N)),(.sc (.func (.func 67) #[] #[]))] (bj [some (.row (cellsOf aj true ((X))) 0 0 33)])
  (fun r st'=>r = .ea []∧st'=bj [some (.row (cellsOf aj true ((c8 dk X))) 0 0 33)]):=by
 refine cz _ rfl ?_ (fun r st' h=>h)
 refine bn (T:=[]) (an.nil PP) mixed Tryz.func88 rfl (by kernel_rfl) (by kernel_rfl) (by kernel_rfl) (by kernel_rfl) ?_;unfold Tryz.f88
 simp only [↓wR,RA,simprocAttr,TF,ae]
 refine cq [0,1,2,6,7,8] (fun (x:List ba × List ba)=>[.sl 0 0 N 5,.sc (.int .i64 (N)),(.sc (.func (.func 67) #[] #[])),.sc (.int .i64 (20)),.sc (.int .i64 (x.1.length)),.sc (.int .i64 (((x.1.length+20:Nat):Int)))]) (fun x=>[some (.row (cellsOf aj true ((x.1++x.2))) 0 0 33)]) (fun x=>x.1++iw dk 20 x.2=iw dk 20 X∧x.1.length+x.2.length=N∧∀ y ∈ x.2,ct y) (fun x=>x.2.length) ([],X) ⟨rfl,by rw [hN];simp,hV⟩ (by simp only [↓wR,RA,simprocAttr,TF,ae]<;>rfl) (by simp only [↓wR,RA,simprocAttr,TF,ae]<;>rfl) ?_
 rintro ⟨D,Y⟩ ⟨h1,h2,h3⟩
 simp only [] at h1 h2 h3 ⊢
 simp only [↓wR,RA,simprocAttr,TF,ae]
 rw [bc];refine ⟨fun h=>?_,fun h=>?_⟩
 ·have hle : 20≤Y.length:=by omega
  have hY:Y=Y.take 20++Y.drop 20:=(List.take_append_drop 20 Y).symm
  have hl1:(Y.take 20).length=20:=by rw [List.length_take];omega
  have hins:=Jb N D.length (D.length+20) D (Y.take 20) (Y.drop 20) (by simp only [List.length_append,List.length_take,List.length_drop];omega) hs rfl (by omega) (fun x hx=>h3 x (List.mem_of_mem_take hx))
  rw [show D++Y.take 20++Y.drop 20=D++Y by rw [List.append_assoc,List.take_append_drop]] at hins
  have hb1:((D.length+20:Nat):Int)+20=((D.length+20+20:Nat):Int):=by omega
  simp only [↓wR,RA,simprocAttr,TF,ae,h];repeat (simp (disch:=omega) only [ah,be,bf,bd,bg];try simp only [↓wR,RA,simprocAttr,TF,ae,h])
  refine dq hins ?_
  rintro _ _ ⟨rfl,rfl⟩
  simp only [↓wR,RA,simprocAttr,TF,ae,da,hb1];repeat (simp (disch:=omega) only [ah,be,bf,bd,bg];try simp only [↓wR,RA,simprocAttr,TF,ae,da,hb1])
  refine ⟨(D++c8 dk (Y.take 20),Y.drop 20),⟨?_,?_,fun y hy=>h3 y (List.mem_of_mem_drop hy)⟩,?_,?_,?_⟩
  ·rw [← h1,yd (l:=Y) (by decide) hle,List.append_assoc]
  ·simp only [List.length_append,dn,List.length_drop,hl1];omega
  ·simp only [List.length_drop];omega
  ·simp only [List.length_append,dn,hl1]<;>rfl
  ·rfl
 ·have hle:Y.length<20:=by omega
  have hins:=Jb N D.length N D Y [] (by simp only [List.length_append,List.length_nil];omega) hs rfl (by omega) h3
  rw [List.append_nil,List.append_nil,show D++c8 dk Y=iw dk 20 X by rw [← h1,n7 (by omega)]] at hins
  simp only [↓wR,RA,simprocAttr,TF,ae,h];repeat (simp (disch:=omega) only [ah,be,bf,bd,bg];try simp only [↓wR,RA,simprocAttr,TF,ae,h])
  refine dq hins ?_
  rintro _ _ ⟨rfl,rfl⟩
  simp only [↓wR,RA,simprocAttr,TF,ae,da];repeat (simp (disch:=omega) only [ah,be,bf,bd,bg];try simp only [↓wR,RA,simprocAttr,TF,ae,da])
  refine cq [0,1,2,6] (fun (k:Nat)=>[.sl 0 0 N 5,.sc (.int .i64 (N)),(.sc (.func (.func 67) #[] #[])),.sc (.int .i64 (k))]) (fun k=>[some (.row (cellsOf aj true ((iw dk k X))) 0 0 33)]) (fun k=>0<k∧k≤2 * N+40) (fun k=>N - k) 20 ⟨by decide,by omega⟩ (by simp only [↓wR,RA,simprocAttr,TF,ae]<;>rfl) (by simp only [↓wR,RA,simprocAttr,TF,ae]<;>rfl) ?_
  clear h1 h2 h3 h hle hins D Y
  rintro k ⟨hk0,hk1⟩
  simp only [↓wR,RA,simprocAttr,TF,ae]
  rw [bc];refine ⟨fun h=>?_,fun h=>?_⟩
  ·have e2:(2:Int) * k=((k+k:Nat):Int):=by omega
   simp only [↓wR,RA,simprocAttr,TF,ae,h,e2];repeat (simp (disch:=omega) only [ah,be,bf,bd,bg];try simp only [↓wR,RA,simprocAttr,TF,ae,h,e2])
   refine cq [0,1,2,6,7,8] (fun (x:List ba × List ba)=>[.sl 0 0 N 5,.sc (.int .i64 (N)),(.sc (.func (.func 67) #[] #[])),.sc (.int .i64 (k)),.sc (.int .i64 (x.1.length)),.sc (.int .i64 (((x.1.length+(k+k):Nat):Int)))]) (fun x=>[some (.row (cellsOf aj true ((x.1++iw dk k x.2))) 0 0 33)]) (fun x=>x.1++iw dk (k+k) x.2=iw dk (k+k) X∧x.1.length+x.2.length=N∧∀ y ∈ x.2,ct y) (fun x=>x.2.length) ([],X) ⟨rfl,by rw [hN];simp,hV⟩ (by simp only [↓wR,RA,simprocAttr,TF,ae]<;>simp) (by simp only [↓wR,RA,simprocAttr,TF,ae]<;>rfl) ?_
   rintro ⟨D,Y⟩ ⟨h1,h2,h3⟩
   simp only [] at h1 h2 h3 ⊢
   have hm1:(D.length:Int)+k=((D.length+k:Nat):Int):=by omega
   simp only [↓wR,RA,simprocAttr,TF,ae]
   rw [bc];refine ⟨fun h4=>?_,fun h4=>?_⟩
   ·have hle:k+k≤Y.length:=by omega
    have hb1:((D.length+(k+k):Nat):Int)+((k+k:Nat):Int)=((D.length+(k+k)+(k+k):Nat):Int):=by omega
    have l1:(Y.take k).length=k:=by rw [List.length_take];omega
    have l2:((Y.drop k).take k).length=k:=by rw [List.length_take,List.length_drop];omega
    have hsym:=If (k+k) N D.length (D.length+k) (D.length+(k+k)) D (c8 dk (Y.take k)) (c8 dk ((Y.drop k).take k)) (iw dk k (Y.drop (k+k))) (by omega) (by simp only [List.length_append,dn,l1,l2,af2 hk0 _ _ (Nat.le_refl _),List.length_drop];omega) hs rfl (by rw [dn,l1]) (by rw [dn,l2];omega) (by rw [dn,l1];exact hk0) (by rw [dn,l2];exact hk0) (fun x hx=>h3 x (List.mem_of_mem_take (jh.1 hx))) (fun x hx=>h3 x (List.mem_of_mem_drop (List.mem_of_mem_take (jh.1 hx)))) (l6 nl _ (fun y hy=>h3 y (List.mem_of_mem_take hy))) (l6 nl _ (fun y hy=>h3 y (List.mem_of_mem_drop (List.mem_of_mem_take hy))))
    rw [Bt nl _ _ (fun y hy=>h3 y (List.mem_of_mem_take hy)) (fun y hy=>h3 y (List.mem_of_mem_drop (List.mem_of_mem_take hy))),acf,show D++c8 dk (Y.take k)++c8 dk ((Y.drop k).take k)++iw dk k (Y.drop (k+k))=D++iw dk k Y by rw [agb hk0 hle];simp] at hsym
    simp only [↓wR,RA,simprocAttr,TF,ae,h4,hm1];repeat (simp (disch:=omega) only [ah,be,bf,bd,bg];try simp only [↓wR,RA,simprocAttr,TF,ae,h4,hm1])
    refine dq hsym ?_
    rintro _ _ ⟨rfl,rfl⟩
    simp only [↓wR,RA,simprocAttr,TF,ae,da,e2,hb1];repeat (simp (disch:=omega) only [ah,be,bf,bd,bg];try simp only [↓wR,RA,simprocAttr,TF,ae,da,e2,hb1])
    refine ⟨(D++c8 dk (Y.take (k+k)),Y.drop (k+k)),⟨?_,?_,fun y hy=>h3 y (List.mem_of_mem_drop hy)⟩,?_,?_,?_⟩
    ·rw [← h1,yd (l:=Y) (by omega) hle,List.append_assoc]
    ·simp only [List.length_append,dn,List.length_drop,List.length_take];omega
    ·simp only [List.length_drop];omega
    ·have:(D++c8 dk (Y.take (k+k))).length=D.length+(k+k):=by simp only [List.length_append,dn,List.length_take];omega
     simp only [this]
    ·rfl
   ·have hle:Y.length<k+k:=by omega
    have e3:(k:Int) * 2=((k+k:Nat):Int):=by omega
    simp only [↓wR,RA,simprocAttr,TF,ae,h4,hm1];repeat (simp (disch:=omega) only [ah,be,bf,bd,bg];try simp only [↓wR,RA,simprocAttr,TF,ae,h4,hm1])
    rw [bc];refine ⟨fun h5=>?_,fun h5=>?_⟩
    ·have hlt:k<Y.length:=by omega
     have l1:(Y.take k).length=k:=by rw [List.length_take];omega
     have hsym:=If (k+k) N D.length (D.length+k) N D (c8 dk (Y.take k)) (c8 dk (Y.drop k)) [] (by omega) (by simp only [List.length_append,dn,l1,List.length_drop,List.length_nil];omega) hs rfl (by rw [dn,l1]) (by rw [dn,List.length_drop];omega) (by rw [dn,l1];exact hk0) (by rw [dn,List.length_drop];omega) (fun x hx=>h3 x (List.mem_of_mem_take (jh.1 hx))) (fun x hx=>h3 x (List.mem_of_mem_drop (jh.1 hx))) (l6 nl _ (fun y hy=>h3 y (List.mem_of_mem_take hy))) (l6 nl _ (fun y hy=>h3 y (List.mem_of_mem_drop hy)))
     rw [Bt nl _ _ (fun y hy=>h3 y (List.mem_of_mem_take hy)) (fun y hy=>h3 y (List.mem_of_mem_drop hy)),List.take_append_drop,List.append_nil,List.append_nil,show D++c8 dk (Y.take k)++c8 dk (Y.drop k)=D++iw dk k Y by rw [acg hk0 hlt (by omega)];simp,show D++c8 dk Y=iw dk (k+k) X by rw [← h1,n7 (by omega)]] at hsym
     simp only [↓wR,RA,simprocAttr,TF,ae,h5];repeat (simp (disch:=omega) only [ah,be,bf,bd,bg];try simp only [↓wR,RA,simprocAttr,TF,ae,h5])
     refine dq hsym ?_
     rintro _ _ ⟨rfl,rfl⟩
     simp only [↓wR,RA,simprocAttr,TF,ae,da,e3];repeat (simp (disch:=omega) only [ah,be,bf,bd,bg];try simp only [↓wR,RA,simprocAttr,TF,ae,da,e3])
     exact ⟨k+k,⟨by omega,by omega⟩,by omega,by (first|rfl|trivial|omega|((try (simp (disch:=omega) only [ah]));(try (simp only [FB]));first|done|rfl|omega)),by (first|rfl|trivial|omega|((try (simp (disch:=omega) only [ah]));(try (simp only [FB]));first|done|rfl|omega))⟩
    ·have hlt:Y.length≤k:=by omega
     rw [show D++iw dk k Y=iw dk (k+k) X by rw [← h1,n7 hlt,n7 (by omega)]]
     simp only [↓wR,RA,simprocAttr,TF,ae,h5,e3];repeat (simp (disch:=omega) only [ah,be,bf,bd,bg];try simp only [↓wR,RA,simprocAttr,TF,ae,h5,e3])
     exact ⟨k+k,⟨by omega,by omega⟩,by omega,by (first|rfl|trivial|omega|((try (simp (disch:=omega) only [ah]));(try (simp only [FB]));first|done|rfl|omega)),by (first|rfl|trivial|omega|((try (simp (disch:=omega) only [ah]));(try (simp only [FB]));first|done|rfl|omega))⟩
  ·have hle:X.length≤k:=by omega
   rw [n7 hle]
   simp only [↓wR,RA,simprocAttr,TF,ae,h,ft,fh,eu]
theorem Xb (N:Nat) (X:List ba) (hN:N=X.length) (hs:N≤1048576) (hV:∀ x ∈ X,ct x) :
 gp PP 66 [.sl 0 0 N 5,(.sc (.func (.func 67) #[] #[]))] (bj [some (.row (cellsOf aj true ((X))) 0 0 33)])
  (fun r st'=>r = .ea []∧st'=bj [some (.row (cellsOf aj true ((c8 dk X))) 0 0 33)]):=by
 refine cz _ rfl ?_ (fun r st' h=>h)
 refine bn (T:=[]) (an.nil PP) mixed Tryz.func66 rfl (by kernel_rfl) (by kernel_rfl) (by kernel_rfl) (by kernel_rfl) ?_;unfold Tryz.f66
 simp only [↓wR,RA,simprocAttr,TF,ae]
 refine dq (Ww N X hN hs hV) ?_
 rintro _ _ ⟨rfl,rfl⟩
 simp only [↓wR,RA,simprocAttr,TF,ae,da,ft,fh,eu]
theorem ajv (l:List ba) (hl:Bf l) (hl2:l.length≤1048576):wl PP [afk] 0 (Tryz.f45.body.getD .skip) (dv PP Tryz.f45.results.toList (fun r st=>(r1 (cj aj)).get true st.h r=some (c8 dk l))) (b9 0 [(cj aj).val false l]) (bj []):=by
 have hlen:=hl.1
 unfold Tryz.f45
 simp only [↓wR,RA,simprocAttr,TF,ae]
 refine kf [6,7,8,3] (fun (x:List ba)=>[.vl false 5 (l.map (aj.val false)),.sc (.int .i64 (l.length)),.sc (.int .i64 (x.length)),.sl 0 0 x.length 5]) (fun x=>[some (.row (cellsOf aj true ((x))) 0 0 33)]) (fun x=>x.length≤l.length∧x++l.drop x.length=l) (fun x=>l.length - x.length) [] ⟨Nat.zero_le _,rfl⟩ (by simp only [↓wR,RA,simprocAttr,TF,ae];(refine sd.lax [] (by first|exact Nat.le_of_ble_eq_true rfl|(simp [b8];omega)) ?_ ?_<;>repeat' first|exact i5.nil|exact dg.nil|exact jd.same _|exact jd.nil _ _ _|exact jd.vv _ _|exact dg.refl _ _|apply i5.cons|apply dg.ghost|apply dg.same|apply dg.row)) ?_
 rintro x ⟨hi,hx⟩
 simp only [↓wR,RA,simprocAttr,TF,ae]
 rw [bc];refine ⟨fun h=>?_,fun h=>?_⟩
 ·obtain ⟨c,hc,hd1,hlt⟩:=ek (decide_eq_true h)
  rw [hd1] at hx
  have hcs:=hl.2 c (List.mem_of_getElem? hc)
  have hlim:(x.length * 5+5) * 64≤140737488355328:=by omega
  simp only [↓wR,RA,simprocAttr,TF,ae,h,hc,u0,hcs,hlim];repeat (simp (disch:=omega) only [ah,be,bf,bd,bg];try simp only [↓wR,RA,simprocAttr,TF,ae,h,hc,u0,hcs,hlim])
  refine ⟨x++[c],⟨by simp;omega,by simpa using hx⟩,by simp;omega,by (first|rfl|trivial|omega|((try (simp (disch:=omega) only [ah]));(try (simp only [FB]));first|done|rfl|omega)),?_⟩
  rw [kr]
 ·rw [ig (decide_eq_false h),List.append_nil] at hx
  subst hx
  simp only [↓wR,RA,simprocAttr,TF,ae,h]
  refine dq (Xb x.length x rfl hl2 hl.2) ?_
  rintro _ _ ⟨rfl,rfl⟩
  simp only [↓wR,RA,simprocAttr,TF,ae,da]
  exact rp aj true _ true (c8 dk x) 0 0 _ x.length (by rw [dn]) rfl
noncomputable def Fh (x:List ba × Unit):Option AV:=if Bf x.1∧x.1.length≤1048576 then some ((r1 (cj aj)).E true (c8 dk x.1)) else none
set_option maxRecDepth 2000000 in
theorem ac4 (x:List ba × Unit) (r:AV) (h:Fh x=some r):br PP 45 ((aC (cj aj) a0).E x) r:=by
 by_cases hc:Bf x.1∧x.1.length≤1048576
 case neg=>simp only [Fh,if_neg hc] at h;cases h
 simp only [Fh,if_pos hc] at h
 cases h
 exact bb (an.cons (ar J1) (an.nil PP)) Tryz.func45 (by kernel_rfl) (by kernel_rfl) (by kernel_rfl) (Nat.le_of_ble_eq_true (by kernel_rfl)) (r1 (cj aj)) true (c8 dk x.1) (ajv x.1 hc.1 hc.2)
noncomputable abbrev arn:Nat × Bool × (List AV→M AV):=(45,true,dh (aC (cj aj) a0) Fh)
end Go.Proofs.YtldcaajoheeipaaGreat
end
namespace Go.Vm
noncomputable section
def sg (D:List Nat) (nx i:Nat):Nat:=match D[i]? with|some o=>o|none=>nx+(i - D.length)
def Iq (D:List Nat) (nx n0 i:Nat):Option Nat:=bif Nat.blt i n0 then some (sg D nx i) else none
def A3 (D:List Nat) (nx n0:Nat) (h0:Tr az):List Nat→Tr az→Tr az
 | [],h=>h
 |i::r,h=>A3 D nx n0 h0 r (Tr.set depth h (sg D nx i) ((h0.get i).bind (az.cx (Iq D nx n0))))
def tf (D:List Nat) (st st0:St):St:={ h:=A3 D st.nx st0.nx st0.h (dm 0 st0.nx) st.h,nx:=st.nx+(st0.nx - D.length),rl:=[],wl:=[] }
theorem xw {D:List Nat} {nx i o:Nat} (h:D[i]? = some o):sg D nx i=o:=by unfold sg;rw [h]
theorem A1 {D:List Nat} {nx i:Nat} (h:D.length≤i):sg D nx i=nx+(i - D.length):=by unfold sg;rw [List.getElem?_eq_none h]
theorem aq4 {D:List Nat} {nx:Nat} (hD:D.Nodup) (hlt:∀ o ∈ D,o<nx) {i j:Nat} (h:sg D nx i=sg D nx j):i=j:=by
 rcases Nat.lt_or_ge i D.length with hi|hi<;>rcases Nat.lt_or_ge j D.length with hj|hj
 ·rw [xw (List.getElem?_eq_getElem hi),xw (List.getElem?_eq_getElem hj)] at h
  exact (List.getElem_inj hD).1 h
 ·rw [xw (List.getElem?_eq_getElem hi),A1 hj] at h
  have:=hlt _ (List.getElem_mem hi);omega
 ·rw [A1 hi,xw (List.getElem?_eq_getElem hj)] at h
  have:=hlt _ (List.getElem_mem hj);omega
 ·rw [A1 hi,A1 hj] at h;omega
theorem arh {D:List Nat} {nx n0 i:Nat} (hlt:∀ o ∈ D,o<nx) (hi:i<n0):sg D nx i≤nx+n0:=by
 rcases Nat.lt_or_ge i D.length with h|h
 ·rw [xw (List.getElem?_eq_getElem h)];have:=hlt _ (List.getElem_mem h);omega
 ·rw [A1 h];omega
theorem Hg {D:List Nat} {nx n0:Nat} {h0:Tr az} {o:Nat}:∀ (l:List Nat) (h:Tr az),(∀ i ∈ l,sg D nx i≤b8)→(∀ i ∈ l,sg D nx i≠o)→(A3 D nx n0 h0 l h).get o=h.get o
 | [],h,_,_=>rfl
 |i::r,h,hl,ho=>by
  rw [A3,Hg r _ (fun j hj=>hl j (by simp [hj])) (fun j hj=>ho j (by simp [hj])),eg _ _ _ _ (hl i (by simp)),if_neg (fun e=>ho i (by simp) e.symm)]
theorem We {D:List Nat} {nx n0:Nat} {h0:Tr az} (hinj:∀ i j,sg D nx i=sg D nx j→i=j) {i:Nat}:∀ (l:List Nat) (h:Tr az),(∀ j ∈ l,sg D nx j≤b8)→i ∈ l→(A3 D nx n0 h0 l h).get (sg D nx i)=(h0.get i).bind (az.cx (Iq D nx n0))
 | [],_,_,hi=>by cases hi
 |j::r,h,hl,hi=>by
  rw [A3]
  by_cases hr:i ∈ r
  ·exact We hinj r _ (fun k hk=>hl k (by simp [hk])) hr
  ·have hij:i=j:=by rcases List.mem_cons.1 hi with e|e;exact e;exact (hr e).elim
   subst hij
   rw [Hg r _ (fun k hk=>hl k (by simp [hk])) (fun k hk e=>hr (hinj k i e ▸ hk)),eg _ _ _ _ (hl i (by simp)),if_pos rfl]
theorem anp {n i:Nat} (h:i<n):i ∈ dm 0 n:=(ib n 0 i).2 ⟨Nat.zero_le _,by omega⟩
theorem Pn {n i:Nat} (h:i ∈ dm 0 n):i<n:=by have:=((ib n 0 i).1 h).2;omega
theorem Y4:∀ (l:List Nat) (o i:Nat),idx l o i=none→o ∉ l
 | [],o,i,_=>by simp
 |a::l,o,i,h=>by
  rw [Gi] at h
  split at h
  ·cases h
  ·rename_i ne
   have:=Y4 l o (i+1) h
   simp only [List.mem_cons,not_or]
   exact ⟨fun e=>ne e.symm,this⟩
theorem Yl {D:List Nat} {g g0':Gh} {st st0':St} {h0:Tr az} {w w':World} {r:AV} {v:Value} (hD:D.Nodup) (hlt:∀ o ∈ D,o<st.nx) (hp:∀ o ∈ D,(st.h.get o).isSome=true)
 (hok:Ok g st.h w) (hfr:∀ o,st.nx≤o→g.inj o=none) (hk:D.length≤st0'.nx) (hb:st.nx+st0'.nx≤b8)
 (s0:Step (g.cx D) h0 w D.length st0'.nx g0' st0'.h w') (ok0:Ok g0' st0'.h w') (hr:Rel g0' w' r v) :
 ∃ g',st.nx≤(tf D st st0').nx∧Step g st.h w st.nx (tf D st st0').nx g' (tf D st st0').h w'∧Ok g' (tf D st st0').h w'∧Rel g' w' (r.cx (Iq D st.nx st0'.nx)) v:=by
 obtain ⟨n0,hn0⟩:∃ n0,n0=st0'.nx:=⟨_,rfl⟩
 have hinj:=fun i j=>aq4 (nx:=st.nx) hD hlt (i:=i) (j:=j)
 have hule:∀ i ∈ dm 0 st0'.nx,sg D st.nx i≤b8:=fun i hi=>Nat.le_trans (arh hlt (Pn hi)) hb
 have hin:∀ i,i<st0'.nx→(tf D st st0').h.get (sg D st.nx i)=(st0'.h.get i).bind (az.cx (Iq D st.nx st0'.nx)):=fun i hi=>We hinj _ _ hule (anp hi)
 have hout:∀ o,(∀ i,i<st0'.nx→sg D st.nx i≠o)→(tf D st st0').h.get o=st.h.get o:=fun o ho=>Hg _ _ hule (fun i hi=>ho i (Pn hi))
 have hren:∀ i,(g.cx D).inj i=(D[i]?).bind g.inj:=fun _=>rfl
 have hold:∀ i b base,(g.cx D).inj i=some (b,base)→∃ o ∈ D,g.inj o=some (b,base)∧(st.h.get o).isSome=true:=fun i b base hi=>by
  rw [hren] at hi
  cases hd:D[i]? with
  |none=>rw [hd] at hi;cases hi
  |some o=>rw [hd] at hi;exact ⟨o,List.mem_of_getElem? hd,hi,hp o (List.mem_of_getElem? hd)⟩
 have hno:∀ i,st0'.nx≤i→g0'.inj i=none:=fun i hi=>s0.fresh i (by rw [hren,List.getElem?_eq_none (by omega)];rfl) (by omega)
 let g':Gh:={ b0:=g.b0,inj:=fun o=>if o<st.nx then g.inj o else g0'.inj (D.length+(o - st.nx)),K:=g0'.K }
 have gl:∀ o,o<st.nx→g'.inj o=g.inj o:=fun o ho=>if_pos ho
 have gg:∀ o,st.nx≤o→g'.inj o=g0'.inj (D.length+(o - st.nx)):=fun o ho=>if_neg (by omega)
 have F1:∀ i,g'.inj (sg D st.nx i)=g0'.inj i:=fun i=>by
  rcases Nat.lt_or_ge i D.length with hi|hi
  ·have hd:=List.getElem?_eq_getElem hi
   rw [xw hd,gl _ (hlt _ (List.getElem_mem hi))]
   have h1:(g.cx D).inj i=g.inj D[i]:=by rw [hren,hd];rfl
   cases hg:g.inj D[i] with
   |some p=>exact (s0.ext.inj i p (h1.trans hg)).symm
   |none=>exact (s0.fresh i (h1.trans hg) (by omega)).symm
  ·rw [A1 hi,gg _ (by omega)]
   congr 1;omega
 let N:List Nat:=(List.range (st.nx+st0'.nx)).map fun o=>if o<st.nx then (idx D o 0).getD st0'.nx else D.length+(o - st.nx)
 have hNg:∀ p,p<st.nx+st0'.nx→N[p]? = some (if p<st.nx then (idx D p 0).getD st0'.nx else D.length+(p - st.nx)):=fun p hp=>by
  simp only [N,List.getElem?_map,List.getElem?_range hp,Option.map_some]
 have hidx:∀ i o,D[i]? = some o→idx D o 0=some i:=fun i o hi=>by
  cases hx:idx D o 0 with
  |some p=>
   have h1:=Fa D o p hx
   obtain ⟨hi',ei⟩:=List.getElem?_eq_some_iff.1 hi
   obtain ⟨hp',ep⟩:=List.getElem?_eq_some_iff.1 h1
   rw [(List.getElem_inj hD).1 (ei.trans ep.symm)]
  |none=>exact absurd (List.mem_of_getElem? hi) (Y4 D o 0 hx)
 have hτ:∀ o p,Iq D st.nx st0'.nx o=some p→N[p]? = some o:=fun i p h=>by
  unfold Iq at h
  cases hlt2:Nat.blt i st0'.nx with
  |false=>rw [hlt2] at h;cases h
  |true=>
   rw [hlt2] at h
   cases h
   have hi:i<st0'.nx:=Nat.le_of_ble_eq_true hlt2
   rcases Nat.lt_or_ge i D.length with hi2|hi2
   ·have hd:=List.getElem?_eq_getElem hi2
    rw [xw hd,hNg _ (by have:=hlt _ (List.getElem_mem hi2);omega),if_pos (hlt _ (List.getElem_mem hi2)),hidx i _ hd];rfl
   ·rw [A1 hi2,hNg _ (by omega),if_neg (by omega)]
    congr 1;omega
 have hext:Ext (g0'.cx N) w' g' w':=by
  refine ⟨s0.ext.b0.symm,fun p q hq=>?_,fun _ _ h=>h,fun _ _ _=>rfl,fun b cs e fr h=>⟨cs,fr,h,rfl⟩,fun b l h=>⟨l,h⟩⟩
  have hq':(N[p]?).bind g0'.inj=some q:=hq
  rcases Nat.lt_or_ge p (st.nx+st0'.nx) with hpl|hpl
  ·rw [hNg p hpl,Option.bind_some] at hq'
   by_cases hpn:p<st.nx
   ·rw [if_pos hpn] at hq'
    cases hx:idx D p 0 with
    |none=>rw [hx,Option.getD_none,hno _ (Nat.le_refl _)] at hq';cases hq'
    |some i=>
     rw [hx,Option.getD_some] at hq'
     rw [← xw (nx:=st.nx) (Fa D p i hx),F1];exact hq'
   ·rw [if_neg hpn] at hq'
    rw [gg p (by omega)];exact hq'
  ·have:N[p]? = none:=List.getElem?_eq_none (by simp only [N,List.length_map,List.length_range];exact hpl)
   rw [this] at hq';cases hq'
 have himg:∀ o,(∃ i,i<st0'.nx∧sg D st.nx i=o)∨(∀ i,i<st0'.nx→sg D st.nx i≠o):=fun o=>by
  by_cases h:∃ i,i<st0'.nx∧sg D st.nx i=o
  ·exact .inl h
  ·exact .inr fun i hi e=>h ⟨i,hi,e⟩
 have cg:∀ i x,i<st0'.nx→(tf D st st0').h.get (sg D st.nx i)=some x→∃ y,st0'.h.get i=some y∧y.cx (Iq D st.nx st0'.nx)=some x:=fun i x hi hx=>by
  rw [hin i hi] at hx
  cases hy:st0'.h.get i with
  |none=>rw [hy] at hx;cases hx
  |some y=>rw [hy] at hx;exact ⟨y,rfl,hx⟩
 have hfar:∀ o b base,(∀ i,i<st0'.nx→sg D st.nx i≠o)→g'.inj o=some (b,base)→o<st.nx∧o ∉ D∧g.inj o=some (b,base):=fun o b base ho hi=>by
  rcases Nat.lt_or_ge o st.nx with h1|h1
  ·refine ⟨h1,fun hd=>?_,by rw [← gl o h1];exact hi⟩
   obtain ⟨i,hil,e⟩:=List.getElem_of_mem hd
   exact ho i (by omega) (by rw [xw (List.getElem?_eq_getElem hil)];exact e)
  ·rw [gg o h1] at hi
   rcases Nat.lt_or_ge (D.length+(o - st.nx)) st0'.nx with h2|h2
   ·exact (ho _ h2 (by rw [A1 (by omega)];omega)).elim
   ·rw [hno _ h2] at hi;cases hi
 have hsame:∀ o x b base,o ∉ D→st.h.get o=some x→g.inj o=some (b,base)→b<w.heap.size→w'.heap[b]? = w.heap[b]? ∧ (∀ i base',g0'.inj i=some (b,base')→(st0'.h.get i).isSome=true→False)∧(∀ j,g0'.K b j→g.K b j):=fun o x b base ho hx hi hbs=>by
  have hnot:∀ i base',(g.cx D).inj i≠some (b,base'):=fun i base' e=>by
   obtain ⟨o2,hd,hi2,hs2⟩:=hold i b base' e
   obtain ⟨x2,hx2⟩:=Option.isSome_iff_exists.1 hs2
   exact hok.sep o o2 x x2 b base base' (fun e=>ho (e ▸ hd)) hx hx2 hi hi2
  refine ⟨s0.frame b hbs fun i base' _=>hnot i base',fun i base' e hs=>?_,fun j hj=>?_⟩
  ·rcases s0.own i b base' hs e with h1|⟨o',base2,_,h2⟩
   ·omega
   ·exact hnot o' base2 h2
  ·rcases s0.oh b j hj with h1|h1|⟨o',base2,_,h2⟩
   ·exact h1
   ·omega
   ·exact (hnot o' base2 h2).elim
 have hblk:∀ o x b base,st.h.get o=some x→g.inj o=some (b,base)→l7 g w b base x:=fun o x b base hx hi=>by
  rcases hok.mh o x hx with ⟨h1,_⟩|⟨b',base',h1,_,h2⟩
  ·rw [h1] at hi;cases hi
  ·rw [h1] at hi;cases hi;exact h2
 have hsz:∀ b base x,l7 g w b base x→b<w.heap.size:=fun b base x hx=>by
  have hs:∃ q,w.heap[b]? = some q:=by
   cases x with
   |row cells k st et=>obtain ⟨cs,fr,h1,_⟩:=hx;exact ⟨_,h1⟩
   |map es=>obtain ⟨_,ms,clock,h1,_⟩:=hx;exact ⟨_,h1⟩
   |loop slots nt params assign body state pending=>obtain ⟨_,l,h1,_⟩:=hx;exact ⟨_,h1⟩
  obtain ⟨q,hq⟩:=hs
  exact (Array.getElem?_eq_some_iff.1 hq).1
 have hE:Ext g w g' w':=by
  refine ⟨rfl,fun o p hp=>?_,fun b j h=>s0.ext.K b j h,fun b j h=>s0.ext.cell b j h,s0.ext.iw,s0.ext.lp⟩
  rcases Nat.lt_or_ge o st.nx with h1|h1
  ·rw [gl o h1];exact hp
  ·rw [hfr o h1] at hp;cases hp
 refine ⟨g',Nat.le_add_right _ _,⟨hE,s0.size,s0.os,s0.tape,s0.output,fun b hbs hn=>?_,fun o ho hr2=>?_,fun o b base ho hi=>?_,fun b j hK=>?_⟩,⟨?_,fun o x hx=>?_,fun o o' x x' b base base' hne hx hx' hi hi'=>?_,ok0.K⟩,(hr.cx hτ).ext hext⟩
 ·refine s0.frame b hbs fun i base _ e=>?_
  obtain ⟨o,_,h1,h2⟩:=hold i b base e
  exact hn o base h2 h1
 ·rcases Nat.lt_or_ge o st.nx with h1|h1
  ·rw [gl o h1];exact ho
  ·rw [gg o h1]
   exact hno _ (by simp only [tf] at hr2;omega)
 ·rcases himg o with ⟨i,hi0,rfl⟩|ho2
  ·obtain ⟨x,hx⟩:=Option.isSome_iff_exists.1 ho
   obtain ⟨y,hy,_⟩:=cg i x hi0 hx
   rw [F1] at hi
   rcases s0.own i b base (by rw [hy];rfl) hi with h1|⟨o',base',_,h2⟩
   ·exact .inl h1
   ·obtain ⟨o2,_,h3,h4⟩:=hold o' b base' h2
    exact .inr ⟨o2,base',h4,h3⟩
  ·obtain ⟨_,_,h3⟩:=hfar o b base ho2 hi
   rw [hout o ho2] at ho
   exact .inr ⟨o,base,ho,h3⟩
 ·rcases s0.oh b j hK with h1|h1|⟨o',base',_,h2⟩
  ·exact .inl h1
  ·exact .inr (.inl h1)
  ·obtain ⟨o2,_,h3,h4⟩:=hold o' b base' h2
   exact .inr (.inr ⟨o2,base',h4,h3⟩)
 ·exact Nat.le_trans hok.size s0.size
 ·rcases himg o with ⟨i,hi0,rfl⟩|ho2
  ·obtain ⟨y,hy,hyx⟩:=cg i x hi0 hx
   refine (ok0.mh i y hy).imp (fun q=>⟨by rw [F1];exact q.1,by obtain ⟨s1,e1,rfl⟩:=q.2;simp only [az.cx,AV.cx.go,Option.some.injEq] at hyx;exact ⟨s1,e1,hyx.symm⟩⟩) ?_
   rintro ⟨b,base,q1,q2,q3⟩
   refine ⟨b,base,by rw [F1];exact q1,by show g.b0≤b;have:=s0.ext.b0;have e:g0'.b0=g.b0:=this;omega,(q3.cx hτ hyx).ext hext rfl (fun j hj=>hj)⟩
  ·rw [hout o ho2] at hx
   cases hg:g'.inj o with
   |none=>
    refine .inl ⟨rfl,?_⟩
    rcases Nat.lt_or_ge o st.nx with h1|h1
    ·rw [gl o h1] at hg
     rcases hok.mh o x hx with ⟨_,h2⟩|⟨b,base,h2,_⟩
     ·exact h2
     ·rw [hg] at h2;cases h2
    ·rcases hok.mh o x hx with ⟨_,h2⟩|⟨b,base,h2,_⟩
     ·exact h2
     ·rw [hfr o h1] at h2;cases h2
   |some p=>
    obtain ⟨b,base⟩:=p
    obtain ⟨h1,h2,h3⟩:=hfar o b base ho2 hg
    have hor:=hblk o x b base hx h3
    obtain ⟨e1,_,e3⟩:=hsame o x b base h2 hx h3 (hsz b base x hor)
    refine .inr ⟨b,base,rfl,?_,hor.ext hE e1 e3⟩
    rcases hok.mh o x hx with ⟨h4,_⟩|⟨b',base',h4,h5,_⟩
    ·rw [h4] at h3;cases h3
    ·rw [h4] at h3;cases h3;exact h5
 ·rcases himg o with ⟨i,hi0,rfl⟩|ho2<;>rcases himg o' with ⟨i',hi0',rfl⟩|ho2'
  ·obtain ⟨y,hy,_⟩:=cg i x hi0 hx
   obtain ⟨y',hy',_⟩:=cg i' x' hi0' hx'
   rw [F1] at hi hi'
   exact ok0.sep i i' y y' b base base' (fun e=>hne (by rw [e])) hy hy' hi hi'
  ·obtain ⟨y,hy,_⟩:=cg i x hi0 hx
   obtain ⟨h1,h2,h3⟩:=hfar o' b base' ho2' hi'
   rw [hout o' ho2'] at hx'
   rw [F1] at hi
   exact (hsame o' x' b base' h2 hx' h3 (hsz b base' x' (hblk o' x' b base' hx' h3))).2.1 i base hi (by rw [hy];rfl)
  ·obtain ⟨y,hy,_⟩:=cg i' x' hi0' hx'
   obtain ⟨h1,h2,h3⟩:=hfar o b base ho2 hi
   rw [hout o ho2] at hx
   rw [F1] at hi'
   exact (hsame o x b base h2 hx h3 (hsz b base x (hblk o x b base hx h3))).2.1 i' base' hi' (by rw [hy];rfl)
  ·obtain ⟨h1,h2,h3⟩:=hfar o b base ho2 hi
   obtain ⟨h1',h2',h3'⟩:=hfar o' b base' ho2' hi'
   rw [hout o ho2] at hx
   rw [hout o' ho2'] at hx'
   exact hok.sep o o' x x' b base base' hne hx hx' h3 h3'
theorem Ys {P:Program} {f:Nat} {args:List AV} {st:St} {R:AV→St→Prop} (D:List Nat) (hD:D.Nodup) (hlt:∀ o ∈ D,o<st.nx) (hp:∀ o ∈ D,(st.h.get o).isSome=true) (hl:D.length≤b8)
 (h:gp P f (AV.cx.go (fun o=>idx D o 0) args) (bj (jj st.h (fun o=>idx D o 0) D)) (fun r st'=>(D.length≤st'.nx∧st.nx+st'.nx≤b8)∧R (r.cx (Iq D st.nx st'.nx)) (tf D st st'))):gp P f args st R:=by
 intro g w vs hok hfr hrel
 have hτ:∀ o p,(fun o=>idx D o 0) o=some p→D[p]? = some o:=fun o p h=>Fa _ o p h
 have hnx:(bj (jj st.h (fun o=>idx D o 0) D)).nx=D.length:=by simp only [bj,i4]
 have hinj:∀ i o,D[i]? = some o→(g.cx D).inj i=g.inj o:=fun i o h=>by simp [Gh.cx,h]
 have cg:∀ i x,(bj (jj st.h (fun o=>idx D o 0) D)).h.get i=some x→∃ o y,D[i]? = some o∧st.h.get o=some y∧y.cx (fun o=>idx D o 0)=some x:=by
  intro i x hx
  simp only [bj] at hx
  rw [uv _ _ _ (by rw [i4];omega),if_pos (Nat.zero_le _),Nat.sub_zero,vn] at hx
  cases hi:D[i]? with
  |none=>rw [hi] at hx;cases hx
  |some o=>
   rw [hi] at hx
   simp only [Option.map_some,Option.join_some] at hx
   cases hy:st.h.get o with
   |none=>rw [hy] at hx;cases hx
   |some y=>rw [hy] at hx;exact ⟨o,y,rfl,hy,hx⟩
 have hok0:Ok (g.cx D) (bj (jj st.h (fun o=>idx D o 0) D)).h w:=by
  refine ⟨hok.size,fun i x hx=>?_,fun i j x y b base base' hij hx hy hb hb'=>?_,hok.K⟩
  ·obtain ⟨o,y,h1,h2,h3⟩:=cg i x hx
   refine (hok.mh o y h2).imp (fun q=>⟨by rw [hinj i o h1];exact q.1,by obtain ⟨s0,e0,rfl⟩:=q.2;simp only [az.cx,AV.cx.go,Option.some.injEq] at h3;exact ⟨s0,e0,h3.symm⟩⟩) ?_
   rintro ⟨b,base,q1,q2,q3⟩
   exact ⟨b,base,by rw [hinj i o h1];exact q1,q2,q3.cx hτ h3⟩
  ·obtain ⟨o,y1,h1,h2,_⟩:=cg i x hx
   obtain ⟨o',y2,h1',h2',_⟩:=cg j y hy
   rw [hinj i o h1] at hb
   rw [hinj j o' h1'] at hb'
   have hne:o≠o':=by
    intro e
    subst e
    obtain ⟨hi,ei⟩:=List.getElem?_eq_some_iff.1 h1
    obtain ⟨hj,ej⟩:=List.getElem?_eq_some_iff.1 h1'
    exact hij ((List.getElem_inj hD).1 (ei.trans ej.symm))
   exact hok.sep o o' _ _ b base base' hne h2 h2' hb hb'
 have hfr0:∀ o,(bj (jj st.h (fun o=>idx D o 0) D)).nx≤o→(g.cx D).inj o=none:=fun o ho=>by
  rw [hnx] at ho;simp [Gh.cx,List.getElem?_eq_none ho]
 have hrel0:bm (g.cx D) w (AV.cx.go (fun o=>idx D o 0) args) vs:=by
  rw [kn]
  refine ⟨by rw [List.length_map];exact hrel.1,fun i a v ha hv=>?_⟩
  rw [List.getElem?_map] at ha
  cases hx:args[i]? with
  |none=>rw [hx] at ha;cases ha
  |some a0=>rw [hx] at ha;cases ha;exact (hrel.2 i a0 v hx hv).cx hτ
 rcases h (g.cx D) w vs hok0 hfr0 hrel0 with ⟨v,w',g',r,st',q1,q2,q3,q4,q5,q6⟩|⟨q1,q2⟩
 ·rw [hnx] at q4
  obtain ⟨g'',p1,p2,p3,p4⟩:=Yl hD hlt hp hok hfr q2.1.1 q2.1.2 q4 q5 q6
  exact .inl ⟨v,w',g'',_,_,q1,q2.2,p1,p2,p3,p4⟩
 ·refine .inr ⟨q1,q2.mono ?_⟩
  rintro e w' ⟨v,g',r,st',rfl,q2,q3,q4,q5,q6⟩
  rw [hnx] at q4
  obtain ⟨g'',p1,p2,p3,p4⟩:=Yl hD hlt hp hok hfr q2.1.1 q2.1.2 q4 q5 q6
  exact ⟨v,g'',_,_,rfl,q2.2,p1,p2,p3,p4⟩
theorem Sg {P:Program} {f:Nat} {args:List AV} {st:St} {R:AV→St→Prop} (D:List Nat) {args0:List AV} {objs0:List (Option az)} {r0:AV} {objs1:List (Option az)}
 (hc:gp P f args0 (bj objs0) (fun r st'=>r=r0∧st'=bj objs1)) (hD:D.Nodup)
 (hlt:(D.all fun o=>Nat.blt o st.nx)=true) (hp:(D.all fun o=>(st.h.get o).isSome)=true) (hl:D.length≤b8)
 (ha:AV.cx.go (fun o=>idx D o 0) args=args0) (hs:jj st.h (fun o=>idx D o 0) D=objs0) (hb:D.length≤objs1.length∧st.nx+objs1.length≤b8)
 (h:R (r0.cx (Iq D st.nx objs1.length)) (tf D st (bj objs1))):gp P f args st R:=by
 refine Ys D hD (fun o ho=>Nat.le_of_ble_eq_true (List.all_eq_true.1 hlt o ho)) (fun o ho=>List.all_eq_true.1 hp o ho) hl ?_
 rw [ha,hs]
 intro g w vs hok hfr hrel
 rcases hc g w vs hok hfr hrel with ⟨v,w',g',r,st',q1,⟨rfl,rfl⟩,q3⟩|⟨q1,q2⟩
 ·exact .inl ⟨v,w',g',_,_,q1,⟨hb,h⟩,q3⟩
 ·refine .inr ⟨q1,q2.mono ?_⟩
  rintro e w' ⟨v,g',r,st',e1,⟨rfl,rfl⟩,q3⟩
  exact ⟨v,g',_,_,e1,⟨hb,h⟩,q3⟩
end
end Go.Vm
section
namespace Go.Proofs.YtldcaajoheeipaaGreat
open Go.Vm
set_option maxRecDepth 2000000
theorem aag (s:ba) (hs:ct s):gp PP 28 [aj.val false s] (bj [])
 (fun r st'=>r = .agg [.vl true 1 (s.owner.map (ak.val false)),.sc (.int .u16 s.type.toNat),.sc (.int .u16 s.cls.toNat),.sc (.int .u32 s.ff.toNat),.sl 0 0 s.data.length 4]∧st'=bj [some (.row (cellsOf aq true ((s.data))) 0 0 71)]):=by
 have ho:=hs.owner
 have hd:=hs.data
 have hn:=hd.len
 refine cz _ rfl ?_ (fun r st' h=>h)
 simp only [ij]
 refine bn (T:=[zn,Yd]) (an.cons (ar qh) (an.cons (ar Ho) (an.nil PP))) mixed Tryz.func28 rfl (by kernel_rfl) (by kernel_rfl) (by kernel_rfl) (by kernel_rfl) ?_;unfold Tryz.f28
 simp only [↓wR,RA,simprocAttr,TF,ae,pn,ho]
 refine kf [2,13,14,15,3] (fun (x:List bq)=>[.ptr 0 0,.vl false 4 (s.data.map (aq.val false)),.sc (.int .i64 (s.data.length)),.sc (.int .i64 (x.length)),.ptr 1 0]) (fun x=>[some (.row [.sc (.slice none 0 0),.sc (.int .u16 0),.sc (.int .u16 0),.sc (.int .u32 0),.sc (.slice none 0 0)] 0 2 33),some (.row [aw.val true s.owner,.sc (.int .u16 s.type.toNat),.sc (.int .u16 s.cls.toNat),.sc (.int .u32 s.ff.toNat),.sl 2 0 x.length 4] 0 2 33),some (.row (cellsOf aq true ((x))) 0 0 71)]) (fun x=>x.length≤s.data.length∧x++s.data.drop x.length=s.data) (fun x=>s.data.length - x.length) [] ⟨Nat.zero_le _,rfl⟩ (by simp only [↓wR,RA,simprocAttr,TF,ae];(refine sd.lax [] (by first|exact Nat.le_of_ble_eq_true rfl|(simp [b8];omega)) ?_ ?_<;>repeat' first|exact i5.nil|exact dg.nil|exact jd.same _|exact jd.nil _ _ _|exact jd.vv _ _|exact dg.refl _ _|apply i5.cons|apply dg.ghost|apply dg.same|apply dg.row)) ?_
 rintro x ⟨hi,hx⟩
 simp only [↓wR,RA,simprocAttr,TF,ae]
 rw [bc];refine ⟨fun h=>?_,fun h=>?_⟩
 ·obtain ⟨c,hc,hd1,hlt⟩:=ek (decide_eq_true h)
  rw [hd1] at hx
  have hcs:=hd.mem c (List.mem_of_getElem? hc)
  simp only [↓wR,RA,simprocAttr,TF,ae,h,hc]
  refine ⟨by kernel_rfl,.inl ?_⟩
  have hlim:(x.length * 4+4) * 96≤140737488355328:=by omega
  simp only [↓wR,RA,simprocAttr,TF,ae,xl,hcs,hlim]
  refine ⟨by kernel_rfl,x++[c],⟨by simp;omega,by simpa using hx⟩,by simp;omega,by (first|rfl|trivial|omega|((try (simp (disch:=omega) only [ah]));(try (simp only [FB]));first|done|rfl|omega)),?_⟩
  rw [H4,List.length_append];rfl
 ·rw [ig (decide_eq_false h)] at hx
  rw [List.append_nil] at hx
  subst hx
  simp only [↓wR,RA,simprocAttr,TF,ae,h,ft,fh,eu,dy]
noncomputable def cy (s:ba):ba:=if s.data.all (fun d=>decide (ef s.type d=0))=true then Mr s.owner s.type s.cls s.ff (c8 (dz s.type) s.data) else s
theorem aod (s:ba) (hs:ct s) (hl:s.data.length≤1048576):wl PP [Dw] 0 (Tryz.f46.body.getD .skip) (dv PP Tryz.f46.results.toList (fun r st=>(r1 aj).get true st.h r=some (cy s))) (b9 0 [aj.val false s]) (bj []):=by
 have ho:=hs.owner
 have hd:=hs.data
 have hn:=hd.len
 unfold Tryz.f46
 simp only [ij]
 simp only [↓wR,RA,simprocAttr,TF,ae]
 refine Sg [] (aag s hs) (by decide) (by simp only [↓wR,RA,simprocAttr,TF,ae]) (by simp only [↓wR,RA,simprocAttr,TF,ae]) (Nat.le_of_ble_eq_true rfl) (by simp only [↓wR,RA,simprocAttr,TF,ae,ij]) (by simp only [↓wR,RA,simprocAttr,TF,ae]) ⟨Nat.le_of_ble_eq_true rfl,Nat.le_of_ble_eq_true rfl⟩ ?_
 simp only [↓wR,RA,simprocAttr,TF,ae,da,tf,A3,sg,Iq]
 refine cq [1,2,3,9,10,11] (fun (i:Nat)=>[.ptr 0 0,.ptr 1 0,.ptr 2 0,.vl false 4 (s.data.map (aq.val false)),.sc (.int .i64 (s.data.length)),.sc (.int .i64 (i))]) (fun _=>[some (.row [.vl false 1 (s.owner.map (ak.val false)),.sc (.int .u16 s.type.toNat),.sc (.int .u16 s.cls.toNat),.sc (.int .u32 s.ff.toNat),.vl false 4 (s.data.map (aq.val false))] 0 2 33),some (.row [.sc (.slice none 0 0),.sc (.int .u16 0),.sc (.int .u16 0),.sc (.int .u32 0),.sc (.slice none 0 0)] 0 2 33),some (.row [aw.val true s.owner,.sc (.int .u16 s.type.toNat),.sc (.int .u16 s.cls.toNat),.sc (.int .u32 s.ff.toNat),.sl 3 0 s.data.length 4] 0 2 33),some (.row (cellsOf aq true ((s.data))) 0 0 71)]) (fun i=>i≤s.data.length∧s.data.all (fun d=>decide (ef s.type d=0))=(s.data.drop i).all (fun d=>decide (ef s.type d=0))) (fun i=>s.data.length - i) 0 ⟨Nat.zero_le _,rfl⟩ (by simp only [↓wR,RA,simprocAttr,TF,ae]<;>rfl) (by simp only [↓wR,RA,simprocAttr,TF,ae]<;>rfl) ?_
 rintro i ⟨hi,hx⟩
 simp only [↓wR,RA,simprocAttr,TF,ae]
 rw [bc];refine ⟨fun h=>?_,fun h=>?_⟩
 ·obtain ⟨c,hc,hd1,hlt⟩:=ek (decide_eq_true h)
  rw [hd1,List.all_cons] at hx
  have hcs:=hd.mem c (List.mem_of_getElem? hc)
  simp only [↓wR,RA,simprocAttr,TF,ae,h,hc,pa,hcs]
  rw [dr];refine ⟨fun ⟨h2,e2⟩=>?_,fun ⟨h2,e2⟩=>?_⟩
  ·have hv:cy s=s:=by unfold cy;rw [hx,decide_eq_false e2];rfl
   simp only [↓wR,RA,simprocAttr,TF,ae,h2]
   rw [hv]
  ·have e3:ef s.type c=0:=by omega
   rw [decide_eq_true e3,Bool.true_and] at hx
   simp only [↓wR,RA,simprocAttr,TF,ae,h2];repeat (simp (disch:=omega) only [ah,be,bf,bd,bg];try simp only [↓wR,RA,simprocAttr,TF,ae,h2])
   exact ⟨i+1,⟨hlt,hx⟩,by omega,by (first|rfl|trivial|omega|((try (simp (disch:=omega) only [ah]));(try (simp only [FB]));first|done|rfl|omega))⟩
 ·rw [ig (decide_eq_false h),List.all_nil] at hx
  have hv:cy s=Mr s.owner s.type s.cls s.ff (c8 (dz s.type) s.data):=by unfold cy;rw [if_pos hx]
  have hg:∀ d ∈ s.data,sy s.type d:=fun d hdm=>⟨hd.mem d hdm,of_decide_eq_true (List.all_eq_true.1 hx d hdm)⟩
  simp only [↓wR,RA,simprocAttr,TF,ae,h]
  refine Sg [3,0] (W0 s s.data.length s.data rfl hl hg) (by decide) (by simp only [↓wR,RA,simprocAttr,TF,ae]) (by simp only [↓wR,RA,simprocAttr,TF,ae]) (Nat.le_of_ble_eq_true rfl) (by simp only [↓wR,RA,simprocAttr,TF,ae]) (by simp only [↓wR,RA,simprocAttr,TF,ae]) ⟨Nat.le_of_ble_eq_true rfl,Nat.le_of_ble_eq_true rfl⟩ ?_
  simp only [↓wR,RA,simprocAttr,TF,ae,da,tf,A3,sg,Iq]
  rw [hv,rp aq true _ true (c8 (dz s.type) s.data) 0 0 _ s.data.length (by rw [dn]) rfl]
noncomputable def zo (x:ba × Unit):Option AV:=if ct x.1∧x.1.data.length≤1048576 then some ((r1 aj).E true (cy x.1)) else none
set_option maxRecDepth 2000000 in
theorem abf (x:ba × Unit) (r:AV) (h:zo x=some r):br PP 46 ((aC aj a0).E x) r:=by
 by_cases hc:ct x.1∧x.1.data.length≤1048576
 case neg=>simp only [zo,if_neg hc] at h;cases h
 simp only [zo,if_pos hc] at h
 cases h
 exact bb (an.cons (ar vc) (an.nil PP)) Tryz.func46 (by kernel_rfl) (by kernel_rfl) (by kernel_rfl) (Nat.le_of_ble_eq_true (by kernel_rfl)) (r1 aj) true (cy x.1) (aod x.1 hc.1 hc.2)
noncomputable abbrev ap1:Nat × Bool × (List AV→M AV):=(46,true,dh (aC aj a0) zo)
theorem U8 (l:Name):AV.fresh.go (l.map (ak.val false))=true:=x7 (fun c hc=>by obtain ⟨x,_,rfl⟩:=List.mem_map.1 hc;exact Im ak x)
theorem Pr (l:List ba):AV.fresh.go (l.map (aj.val true))=true:=x7 (fun c hc=>by obtain ⟨x,_,rfl⟩:=List.mem_map.1 hc;exact Im aj x)
theorem Oo {α:Type} {μ : α→Nat} {l r:List α} (h:l.Perm r):gz μ l=gz μ r:=by
 induction h with
 |nil=>rfl
 |cons a _ ih=>simp only [gz,List.foldr_cons] at ih ⊢;rw [ih]
 |swap a b l=>simp only [gz,List.foldr_cons];omega
 |trans _ _ i j=>exact i.trans j
theorem aew {α:Type} {μ : α→Nat} {f : α → α} (h:∀ x,μ (f x) = μ x) (l:List α):gz μ (l.map f)=gz μ l:=by
 induction l with
 |nil=>rfl
 |cons a l ih=>simp only [gz,List.map_cons,List.foldr_cons] at ih ⊢;rw [ih,h]
theorem Ve (s:ba):j7 (cy s)=j7 s:=by
 unfold cy
 split
 ·unfold j7
  show _=_
  have:=Oo (μ:=A7) (Bq (lt:=dz s.type) s.data)
  simp only [alr,ano] at *
  first|omega|rw [this]
 ·rfl
noncomputable def yj (l:List ba):List ba:=(c8 dk l).map cy
theorem apv (l:List ba):gz j7 (yj l)=gz j7 l:=by
 unfold yj
 rw [aew Ve,Oo (Bq l)]
noncomputable def uf (n:Name) (l:List ba):ca × Int:=if ji (vr n (yj l))=0 then (vr n (yj l),0) else (vr [] [],ji (vr n (yj l)))
theorem aqp (n:Name) (l:List ba) (hw:b7 n+gz j7 l≤16777216) (hl:l.length≤1048576) (hd:∀ s ∈ l,s.data.length≤1048576):wl PP [zn,arn,ap1,I9] 0 (Tryz.f29.body.getD .skip) (dv PP Tryz.f29.results.toList (fun r st=>(r2 c7 (bk .i64)).get true st.h r=some (uf n l))) (b9 0 [aw.val false n,(cj aj).val false l]) (bj []):=by
 have hq:∀ a b c d,dj a b c=d→dj a b c=d:=fun _ _ _ _ h=>h
 have hn:cp n:=by unfold cp;omega
 have hsl:wa l:=by unfold wa;omega
 have hm:Bf l:=⟨Nat.le_trans hl (by decide),hsl.mem⟩
 obtain ⟨L,hL⟩:∃ L,L=c8 dk l:=⟨_,rfl⟩
 have hLl:L.length=l.length:=by rw [hL,dn]
 have hLm:∀ s ∈ L,ct s∧s.data.length≤1048576:=fun s h=>by rw [hL,jh] at h;exact ⟨hsl.mem s h,hd s h⟩
 have hz:db (vr n (L.map cy)):=by
  have:=apv l
  unfold yj at this
  rw [← hL] at this
  show b7 n+gz j7 (L.map cy)≤16777216
  omega
 have hmv:uf n l=if ji (vr n (L.map cy))=0 then (vr n (L.map cy),0) else (vr [] [],ji (vr n (L.map cy))):=by unfold uf yj;rw [← hL]
 rw [hmv]
 unfold Tryz.f29
 simp only [dy]
 simp only [↓wR,RA,simprocAttr,TF,ae,pn,hn,Fh,hm,hl,← hL]
 refine kf [4,14,15,16,6] (fun (i:Nat)=>[.ptr 0 0,.vl true 5 (L.map (aj.val true)),.sc (.int .i64 (L.length)),.sc (.int .i64 (i)),.ptr 1 0]) (fun i=>[some (.row [.sc (.slice none 0 0),.sc (.slice none 0 0)] 0 2 26),some (.row [aw.val true n,.sl 2 0 i 5] 0 2 26),some (.row (cellsOf aj true (((L.take i).map cy))) 0 0 33)]) (fun i=>i≤L.length) (fun i=>L.length - i) 0 (Nat.zero_le _) (by simp only [↓wR,RA,simprocAttr,TF,ae];(refine sd.lax [] (by first|exact Nat.le_of_ble_eq_true rfl|(simp [b8];omega)) ?_ ?_<;>repeat' first|exact i5.nil|exact dg.nil|exact jd.same _|exact jd.nil _ _ _|exact jd.vv _ _|exact dg.refl _ _|apply i5.cons|apply dg.ghost|apply dg.same|apply dg.row)) ?_
 intro i hi
 simp only [↓wR,RA,simprocAttr,TF,ae]
 rw [bc];refine ⟨fun h=>?_,fun h=>?_⟩
 ·obtain ⟨c,hc,hd1,hlt⟩:=ek (decide_eq_true h)
  obtain ⟨c1,c2⟩:=hLm c (List.mem_of_getElem? hc)
  have hlen:((L.take i).map cy).length=i:=by rw [List.length_map,List.length_take];omega
  have hlim:(i * 5+5) * 64≤140737488355328:=by omega
  have hnx:(L.take (i+1)).map cy=(L.take i).map cy++[cy c]:=by rw [iq hc,List.map_append];rfl
  simp only [↓wR,RA,simprocAttr,TF,ae,h,hc]
  refine ⟨by kernel_rfl,.inl ?_⟩
  simp only [↓wR,RA,simprocAttr,TF,ae,zo,c1,c2,hlen,hlim];repeat (simp (disch:=omega) only [ah,be,bf,bd,bg];try simp only [↓wR,RA,simprocAttr,TF,ae,zo,c1,c2,hlen,hlim])
  refine ⟨by apply hq;kernel_rfl,i+1,hlt,by omega,by (first|rfl|trivial|omega|((try (simp (disch:=omega) only [ah]));(try (simp only [FB]));first|done|rfl|omega)),?_⟩
  rw [hnx,kr]
 ·have hin:i=L.length:=by omega
  subst hin
  rw [List.take_length]
  simp only [↓wR,RA,simprocAttr,TF,ae,h,xj,hz]
  rw [dr];refine ⟨fun ⟨h2,e2⟩=>?_,fun ⟨h2,e2⟩=>?_⟩
  ·rw [if_neg e2]
   simp only [↓wR,RA,simprocAttr,TF,ae,h2]
   try rfl
  ·rw [if_pos (by omega)]
   simp only [↓wR,RA,simprocAttr,TF,ae,h2]
   try rfl
noncomputable def Fl (x:Name × List ba × Unit):Option AV:=if b7 x.1+gz j7 x.2.1≤16777216∧x.2.1.length≤1048576∧∀ s ∈ x.2.1,s.data.length≤1048576 then some ((r2 c7 (bk .i64)).E true (uf x.1 x.2.1)) else none
set_option maxRecDepth 2000000 in
theorem O7 (x:Name × List ba × Unit) (r:AV) (h:Fl x=some r):br PP 29 ((aC aw (aC (cj aj) a0)).E x) r:=by
 by_cases hc:b7 x.1+gz j7 x.2.1≤16777216∧x.2.1.length≤1048576∧∀ s ∈ x.2.1,s.data.length≤1048576
 case neg=>simp only [Fl,if_neg hc] at h;cases h
 simp only [Fl,if_pos hc] at h
 cases h
 exact bb (an.cons (ar qh) (an.cons (ar ac4) (an.cons (ar abf) (an.cons (ar Ae) (an.nil PP))))) Tryz.func29 (by kernel_rfl) (by kernel_rfl) (by kernel_rfl) (Nat.le_of_ble_eq_true (by kernel_rfl)) (r2 c7 (bk .i64)) true (uf x.1 x.2.1) (aqp x.1 x.2.1 hc.1 hc.2.1 hc.2.2)
noncomputable abbrev apo:Nat × Bool × (List AV→M AV):=(29,true,dh (aC aw (aC (cj aj) a0)) Fl)
noncomputable def lr (n:Name) (t c:Int) (s:ba):Bool:=!(decide ((s.type.toNat:Int)=t) && (decide ((s.cls.toNat:Int)=c) && fu s.owner n))
noncomputable def Lm (z:ca) (s:ba):ca × Int:=if ji z=0 then uf z.origin (z.ai.filter (lr s.owner s.type.toNat s.cls.toNat)++[s]) else (vr [] [],ji z)
theorem Sr {l:List ba} {p:ba→Bool} {i:Nat} {c:ba} (h:l[i]? = some c):(l.take (i+1)).filter p=if p c=true then (l.take i).filter p++[c] else (l.take i).filter p:=by
 rw [iq h,List.filter_append]
 cases hp:p c<;>simp [hp]
theorem L5 {α:Type} (μ : α→Nat) (p : α→Bool) (l:List α):gz μ (l.filter p)≤gz μ l:=by
 induction l with
 |nil=>simp
 |cons a l ih=>
  rw [List.filter_cons]
  split<;>simp only [gz,List.foldr_cons] at * <;> omega
theorem an7 {α:Type} (μ : α→Nat) (l r:List α):gz μ (l++r)=gz μ l+gz μ r:=by
 induction l with
 |nil=>simp [gz]
 |cons a l ih=>simp only [gz,List.cons_append,List.foldr_cons] at *;omega
theorem aqk (z:ca) (s:ba) (hw:xo z+j7 s<16777216) (hl:z.ai.length<1048576) (hd:(∀ x ∈ z.ai,x.data.length≤1048576)∧s.data.length≤1048576):wl PP [eb,I9,apo] 0 (Tryz.f8.body.getD .skip) (dv PP Tryz.f8.results.toList (fun r st=>(r2 c7 (bk .i64)).get true st.h r=some (Lm z s))) (b9 0 [c7.val false z,aj.val false s]) (bj []):=by
 have hq:∀ a b c d,dj a b c=d→dj a b c=d:=fun _ _ _ _ h=>h
 have hz:db z:=by unfold db;omega
 have hs:ct s:=by unfold ct;omega
 obtain ⟨p,hp⟩:∃ p,p=lr s.owner s.type.toNat s.cls.toNat:=⟨_,rfl⟩
 unfold Tryz.f8
 simp only [kq,ij]
 unfold Lm
 rw [← hp]
 simp only [↓wR,RA,simprocAttr,TF,ae,xj,hz]
 rw [dr];refine ⟨fun ⟨h2,e2⟩=>?_,fun ⟨h2,e2⟩=>?_⟩
 ·rw [if_neg e2]
  simp only [↓wR,RA,simprocAttr,TF,ae,h2]
  try rfl
 rw [if_pos (by omega)]
 simp only [↓wR,RA,simprocAttr,TF,ae,h2]
 refine kf [2,3,4,17,18,19,7] (fun (i:Nat)=>[.ptr 0 0,.ptr 1 0,.ptr 2 0,.vl false 5 (z.ai.map (aj.val false)),.sc (.int .i64 (z.ai.length)),.sc (.int .i64 (i)),.sl 3 0 ((z.ai.take i).filter p).length 5]) (fun i=>[some (.row [.vl false 1 (z.origin.map (ak.val false)),.vl false 5 (z.ai.map (aj.val false))] 0 2 26),some (.row [.vl false 1 (s.owner.map (ak.val false)),.sc (.int .u16 s.type.toNat),.sc (.int .u16 s.cls.toNat),.sc (.int .u32 s.ff.toNat),.vl false 4 (s.data.map (aq.val false))] 0 2 33),some (.row [.sc (.slice none 0 0),.sc (.slice none 0 0)] 0 2 26),some (.row (cellsOf aj false (((z.ai.take i).filter p))) 0 0 33)]) (fun i=>i≤z.ai.length) (fun i=>z.ai.length - i) 0 (Nat.zero_le _) (by simp only [↓wR,RA,simprocAttr,TF,ae];(refine sd.lax [] (by first|exact Nat.le_of_ble_eq_true rfl|(simp [b8];omega)) ?_ ?_<;>repeat' first|exact i5.nil|exact dg.nil|exact jd.same _|exact jd.nil _ _ _|exact jd.vv _ _|exact dg.refl _ _|apply i5.cons|apply dg.ghost|apply dg.same|apply dg.row)) ?_
 intro i hi
 simp only [↓wR,RA,simprocAttr,TF,ae]
 rw [bc];refine ⟨fun h=>?_,fun h=>?_⟩
 ·obtain ⟨c,hc,hd1,hlt⟩:=ek (decide_eq_true h)
  have hcs:=hz.set c (List.mem_of_getElem? hc)
  have hfl:=List.length_filter_le p (z.ai.take i)
  rw [List.length_take] at hfl
  have hnx:=Sr (p:=p) hc
  have hlim:(((z.ai.take i).filter p).length * 5+5) * 64≤140737488355328:=by omega
  have no:p c=false→∃ y,y≤z.ai.length∧z.ai.length - y<z.ai.length - i∧((z.ai.take y).filter p)=(z.ai.take i).filter p∧y=i+1:=fun q=>⟨i+1,hlt,by omega,by rw [hnx,if_neg (by rw [q];decide)],rfl⟩
  have done1:p c=true→(z.ai.take (i+1)).filter p=(z.ai.take i).filter p++[c]:=fun q=>by rw [hnx,if_pos q]
  have done0:p c=false→(z.ai.take (i+1)).filter p=(z.ai.take i).filter p:=fun q=>by rw [hnx,if_neg (by rw [q];decide)]
  by_cases e1:(c.type.toNat:Int)=s.type.toNat
  ·have b1:((c.type.toNat:Int) != s.type.toNat)=false:=by simp [e1]
   by_cases e3:(c.cls.toNat:Int)=s.cls.toNat
   ·have b2:((c.cls.toNat:Int) != s.cls.toNat)=false:=by simp [e3]
    cases e4:fu c.owner s.owner with
    |true=>
     have pc:p c=false:=by rw [hp];unfold lr;rw [decide_eq_true e1,decide_eq_true e3,e4];rfl
     simp only [↓wR,RA,simprocAttr,TF,ae,h,hc,b1,b2,gq,hcs.owner,hs.owner,e4];repeat (simp (disch:=omega) only [ah,be,bf,bd,bg];try simp only [↓wR,RA,simprocAttr,TF,ae,h,hc,b1,b2,gq,hcs.owner,hs.owner,e4])
     exact ⟨i+1,hlt,by rw [done0 pc];exact ⟨by omega,by (first|rfl|trivial|omega|((try (simp (disch:=omega) only [ah]));(try (simp only [FB]));first|done|rfl|omega))⟩⟩
    |false=>
     have pc:p c=true:=by rw [hp];unfold lr;rw [decide_eq_true e1,decide_eq_true e3,e4];rfl
     simp only [↓wR,RA,simprocAttr,TF,ae,h,hc,b1,b2,gq,hcs.owner,hs.owner,e4,hlim];repeat (simp (disch:=omega) only [ah,be,bf,bd,bg];try simp only [↓wR,RA,simprocAttr,TF,ae,h,hc,b1,b2,gq,hcs.owner,hs.owner,e4,hlim])
     exact ⟨i+1,hlt,by omega,by rw [done1 pc,List.length_append];(first|rfl|trivial|omega|((try (simp (disch:=omega) only [ah]));(try (simp only [FB]));first|done|rfl|omega)),by rw [done1 pc,kr]⟩
   ·have b2:((c.cls.toNat:Int) != s.cls.toNat)=true:=by simp [e3]
    have pc:p c=true:=by rw [hp];unfold lr;rw [decide_eq_true e1,decide_eq_false e3];rfl
    simp only [↓wR,RA,simprocAttr,TF,ae,h,hc,b1,b2,hlim];repeat (simp (disch:=omega) only [ah,be,bf,bd,bg];try simp only [↓wR,RA,simprocAttr,TF,ae,h,hc,b1,b2,hlim])
    exact ⟨i+1,hlt,by omega,by rw [done1 pc,List.length_append];(first|rfl|trivial|omega|((try (simp (disch:=omega) only [ah]));(try (simp only [FB]));first|done|rfl|omega)),by rw [done1 pc,kr]⟩
  ·have b1:((c.type.toNat:Int) != s.type.toNat)=true:=by simp [e1]
   have pc:p c=true:=by rw [hp];unfold lr;rw [decide_eq_false e1];rfl
   simp only [↓wR,RA,simprocAttr,TF,ae,h,hc,b1,hlim];repeat (simp (disch:=omega) only [ah,be,bf,bd,bg];try simp only [↓wR,RA,simprocAttr,TF,ae,h,hc,b1,hlim])
   exact ⟨i+1,hlt,by omega,by rw [done1 pc,List.length_append];(first|rfl|trivial|omega|((try (simp (disch:=omega) only [ah]));(try (simp only [FB]));first|done|rfl|omega)),by rw [done1 pc,kr]⟩
 ·have hin:i=z.ai.length:=by omega
  subst hin
  rw [List.take_length]
  have hfl:=List.length_filter_le p z.ai
  have hlim:((z.ai.filter p).length * 5+5) * 56≤140737488355328:=by omega
  have hmw:b7 z.origin+gz j7 (z.ai.filter p++[s])≤16777216:=by
   have h1:=L5 j7 p z.ai
   have h2:=an7 j7 (z.ai.filter p) [s]
   have h3:gz j7 [s]=j7 s+1:=by simp [gz]
   unfold xo at hw
   omega
  have hml:(z.ai.filter p++[s]).length≤1048576:=by rw [List.length_append,List.length_singleton];omega
  have hmd:∀ x ∈ z.ai.filter p++[s],x.data.length≤1048576:=fun x hx=>by
   rcases List.mem_append.1 hx with q|q
   ·exact hd.1 x (List.mem_filter.1 q).1
   ·simp at q;subst q;exact hd.2
  have hdec:∀ h k st et,mn aj false h 0 ((z.ai.filter p).length+1) (.row (cellsOf aj false (z.ai.filter p)++[.vl false 1 (s.owner.map (ak.val false)),.sc (.int .u16 s.type.toNat),.sc (.int .u16 s.cls.toNat),.sc (.int .u32 s.ff.toNat),.vl false 4 (s.data.map (aq.val false))]) k st et)=some (z.ai.filter p++[s]):=fun h k st et=>by
   rw [← kr]
   exact rp aj false h false (z.ai.filter p++[s]) k st et _ (by rw [List.length_append];rfl) rfl
  simp only [↓wR,RA,simprocAttr,TF,ae,h,hlim]
  refine ⟨by kernel_rfl,.inl ?_⟩
  have hml2:(z.ai.filter p).length≤1048575:=by omega
  simp only [↓wR,RA,simprocAttr,TF,ae,Fl,hdec,hmw,hml,hml2,eq_true hmd,U8,Pr]
  apply hq;kernel_rfl
noncomputable def I2 (x:ca × ba × Unit):Option AV:=if xo x.1+j7 x.2.1<16777216∧x.1.ai.length<1048576∧(∀ s ∈ x.1.ai,s.data.length≤1048576)∧x.2.1.data.length≤1048576 then some ((r2 c7 (bk .i64)).E true (Lm x.1 x.2.1)) else none
set_option maxRecDepth 2000000 in
theorem aim (x:ca × ba × Unit) (r:AV) (h:I2 x=some r):br PP 8 ((aC c7 (aC aj a0)).E x) r:=by
 by_cases hc:xo x.1+j7 x.2.1<16777216∧x.1.ai.length<1048576∧(∀ s ∈ x.1.ai,s.data.length≤1048576)∧x.2.1.data.length≤1048576
 case neg=>simp only [I2,if_neg hc] at h;cases h
 simp only [I2,if_pos hc] at h
 cases h
 exact bb (an.cons (ar my) (an.cons (ar Ae) (an.cons (ar O7) (an.nil PP)))) Tryz.func8 (by kernel_rfl) (by kernel_rfl) (by kernel_rfl) (Nat.le_of_ble_eq_true (by kernel_rfl)) (r2 c7 (bk .i64)) true (Lm x.1 x.2.1) (aqk x.1 x.2.1 hc.1 hc.2.1 hc.2.2)
noncomputable abbrev apb:Nat × Bool × (List AV→M AV):=(8,true,dh (aC c7 (aC aj a0)) I2)
noncomputable def z4 (z:ca) (n:Name) (t:UInt16):ca × Int:=
 if ji z=0 then (if (z.ai.filter (lr n t.toNat 1)).length=z.ai.length then (vr [] [],9) else uf z.origin (z.ai.filter (lr n t.toNat 1))) else (vr [] [],ji z)
theorem ag5 (z:ca) (n:Name) (t:UInt16) (hz:db z) (hn:cp n) (hl:z.ai.length<1048576) (hd:∀ x ∈ z.ai,x.data.length≤1048576):wl PP [eb,I9,apo] 0 (Tryz.f9.body.getD .skip) (dv PP Tryz.f9.results.toList (fun r st=>(r2 c7 (bk .i64)).get true st.h r=some (z4 z n t))) (b9 0 [c7.val false z,aw.val false n,cw.val false t]) (bj []):=by
 have hq:∀ a b c d,dj a b c=d→dj a b c=d:=fun _ _ _ _ h=>h
 obtain ⟨p,hp⟩:∃ p,p=lr n t.toNat 1:=⟨_,rfl⟩
 unfold Tryz.f9
 simp only [kq,dy]
 unfold z4
 rw [← hp]
 simp only [↓wR,RA,simprocAttr,TF,ae,xj,hz]
 rw [dr];refine ⟨fun ⟨h2,e2⟩=>?_,fun ⟨h2,e2⟩=>?_⟩
 ·rw [if_neg e2]
  simp only [↓wR,RA,simprocAttr,TF,ae,h2]
  try rfl
 rw [if_pos (by omega)]
 simp only [↓wR,RA,simprocAttr,TF,ae,h2]
 refine kf [1,2,3,6,19,20,21,9] (fun (i:Nat)=>[.vl false 1 (n.map (ak.val false)),.sc (.int .u16 t.toNat),.ptr 0 0,.ptr 1 0,.vl false 5 (z.ai.map (aj.val false)),.sc (.int .i64 (z.ai.length)),.sc (.int .i64 (i)),.sl 2 0 ((z.ai.take i).filter p).length 5]) (fun i=>[some (.row [.vl false 1 (z.origin.map (ak.val false)),.vl false 5 (z.ai.map (aj.val false))] 0 2 26),some (.row [.sc (.slice none 0 0),.sc (.slice none 0 0)] 0 2 26),some (.row (cellsOf aj false (((z.ai.take i).filter p))) 0 0 33)]) (fun i=>i≤z.ai.length) (fun i=>z.ai.length - i) 0 (Nat.zero_le _) (by simp only [↓wR,RA,simprocAttr,TF,ae];(refine sd.lax [] (by first|exact Nat.le_of_ble_eq_true rfl|(simp [b8];omega)) ?_ ?_<;>repeat' first|exact i5.nil|exact dg.nil|exact jd.same _|exact jd.nil _ _ _|exact jd.vv _ _|exact dg.refl _ _|apply i5.cons|apply dg.ghost|apply dg.same|apply dg.row)) ?_
 intro i hi
 simp only [↓wR,RA,simprocAttr,TF,ae]
 rw [bc];refine ⟨fun h=>?_,fun h=>?_⟩
 ·obtain ⟨c,hc,hd1,hlt⟩:=ek (decide_eq_true h)
  have hcs:=hz.set c (List.mem_of_getElem? hc)
  have hfl:=List.length_filter_le p (z.ai.take i)
  rw [List.length_take] at hfl
  have hnx:=Sr (p:=p) hc
  have hlim:(((z.ai.take i).filter p).length * 5+5) * 64≤140737488355328:=by omega
  have done1:p c=true→(z.ai.take (i+1)).filter p=(z.ai.take i).filter p++[c]:=fun q=>by rw [hnx,if_pos q]
  have done0:p c=false→(z.ai.take (i+1)).filter p=(z.ai.take i).filter p:=fun q=>by rw [hnx,if_neg (by rw [q];decide)]
  by_cases e1:(c.type.toNat:Int)=t.toNat
  ·have b1:((c.type.toNat:Int) != t.toNat)=false:=by simp [e1]
   by_cases e3:(c.cls.toNat:Int)=1
   ·have b2:((c.cls.toNat:Int) != 1)=false:=by simp [e3]
    cases e4:fu c.owner n with
    |true=>
     have pc:p c=false:=by rw [hp];unfold lr;rw [decide_eq_true e1,decide_eq_true e3,e4];rfl
     simp only [↓wR,RA,simprocAttr,TF,ae,h,hc,b1,b2,gq,hcs.owner,hn,e4];repeat (simp (disch:=omega) only [ah,be,bf,bd,bg];try simp only [↓wR,RA,simprocAttr,TF,ae,h,hc,b1,b2,gq,hcs.owner,hn,e4])
     exact ⟨i+1,hlt,by rw [done0 pc];exact ⟨by omega,by (first|rfl|trivial|omega|((try (simp (disch:=omega) only [ah]));(try (simp only [FB]));first|done|rfl|omega))⟩⟩
    |false=>
     have pc:p c=true:=by rw [hp];unfold lr;rw [decide_eq_true e1,decide_eq_true e3,e4];rfl
     simp only [↓wR,RA,simprocAttr,TF,ae,h,hc,b1,b2,gq,hcs.owner,hn,e4,hlim];repeat (simp (disch:=omega) only [ah,be,bf,bd,bg];try simp only [↓wR,RA,simprocAttr,TF,ae,h,hc,b1,b2,gq,hcs.owner,hn,e4,hlim])
     exact ⟨i+1,hlt,by omega,by rw [done1 pc,List.length_append];(first|rfl|trivial|omega|((try (simp (disch:=omega) only [ah]));(try (simp only [FB]));first|done|rfl|omega)),by rw [done1 pc,kr]⟩
   ·have b2:((c.cls.toNat:Int) != 1)=true:=by simp [e3]
    have pc:p c=true:=by rw [hp];unfold lr;rw [decide_eq_true e1,decide_eq_false e3];rfl
    simp only [↓wR,RA,simprocAttr,TF,ae,h,hc,b1,b2,hlim];repeat (simp (disch:=omega) only [ah,be,bf,bd,bg];try simp only [↓wR,RA,simprocAttr,TF,ae,h,hc,b1,b2,hlim])
    exact ⟨i+1,hlt,by omega,by rw [done1 pc,List.length_append];(first|rfl|trivial|omega|((try (simp (disch:=omega) only [ah]));(try (simp only [FB]));first|done|rfl|omega)),by rw [done1 pc,kr]⟩
  ·have b1:((c.type.toNat:Int) != t.toNat)=true:=by simp [e1]
   have pc:p c=true:=by rw [hp];unfold lr;rw [decide_eq_false e1];rfl
   simp only [↓wR,RA,simprocAttr,TF,ae,h,hc,b1,hlim];repeat (simp (disch:=omega) only [ah,be,bf,bd,bg];try simp only [↓wR,RA,simprocAttr,TF,ae,h,hc,b1,hlim])
   exact ⟨i+1,hlt,by omega,by rw [done1 pc,List.length_append];(first|rfl|trivial|omega|((try (simp (disch:=omega) only [ah]));(try (simp only [FB]));first|done|rfl|omega)),by rw [done1 pc,kr]⟩
 ·have hin:i=z.ai.length:=by omega
  subst hin
  rw [List.take_length]
  have hfl:=List.length_filter_le p z.ai
  have hmw:b7 z.origin+gz j7 (z.ai.filter p)≤16777216:=by
   have h1:=L5 j7 p z.ai
   unfold db xo at hz
   omega
  have hml:(z.ai.filter p).length≤1048576:=by omega
  have hmd:∀ x ∈ z.ai.filter p,x.data.length≤1048576:=fun x hx=>hd x (List.mem_filter.1 hx).1
  have hdec:∀ h k st et,mn aj false h 0 (z.ai.filter p).length (.row (cellsOf aj false (z.ai.filter p)) k st et)=some (z.ai.filter p):=fun h k st et=>rp aj false h false (z.ai.filter p) k st et _ rfl rfl
  simp only [↓wR,RA,simprocAttr,TF,ae,h]
  rw [di];refine ⟨fun ⟨h3,e3⟩=>?_,fun ⟨h3,e3⟩=>?_⟩
  ·rw [if_pos (by omega)]
   simp only [↓wR,RA,simprocAttr,TF,ae,h3]
   try rfl
  ·rw [if_neg (by omega)]
   simp only [↓wR,RA,simprocAttr,TF,ae,h3,Fl,hdec,hmw,hml,eq_true hmd,U8,Pr]
noncomputable def xg (x:ca × Name × UInt16 × Unit):Option AV:=if db x.1∧cp x.2.1∧x.1.ai.length<1048576∧∀ s ∈ x.1.ai,s.data.length≤1048576 then some ((r2 c7 (bk .i64)).E true (z4 x.1 x.2.1 x.2.2.1)) else none
set_option maxRecDepth 2000000 in
theorem Xn (x:ca × Name × UInt16 × Unit) (r:AV) (h:xg x=some r):br PP 9 ((aC c7 (aC aw (aC cw a0))).E x) r:=by
 by_cases hc:db x.1∧cp x.2.1∧x.1.ai.length<1048576∧∀ s ∈ x.1.ai,s.data.length≤1048576
 case neg=>simp only [xg,if_neg hc] at h;cases h
 simp only [xg,if_pos hc] at h
 cases h
 exact bb (an.cons (ar my) (an.cons (ar Ae) (an.cons (ar O7) (an.nil PP)))) Tryz.func9 (by kernel_rfl) (by kernel_rfl) (by kernel_rfl) (Nat.le_of_ble_eq_true (by kernel_rfl)) (r2 c7 (bk .i64)) true (z4 x.1 x.2.1 x.2.2.1) (ag5 x.1 x.2.1 x.2.2.1 hc.1 hc.2.1 hc.2.2.1 hc.2.2.2)
noncomputable abbrev acj:Nat × Bool × (List AV→M AV):=(9,true,dh (aC c7 (aC aw (aC cw a0))) xg)
noncomputable abbrev af5:Nat × Bool × (List AV→M AV):=(4,true,dh a0 (fun _=>some (.sc (.bool true))))
def as7 (t:UInt16) (l:List ba):aiz:=
 if (t.toNat:Int)=255∧0<l.length then Y6 0 l []
 else match l.find? (fun s=>decide ((s.type.toNat:Int)=t.toNat)) with
  |some x=>Y6 0 [x] []
  |none=>match l.find? (fun s=>decide ((s.type.toNat:Int)=5) && decide ((t.toNat:Int)≠255)) with
   |some x=>Y6 1 [x] (((x.data[0]?).bind fun d=>d.names[0]?).getD [])
   |none=>Y6 2 [] []
noncomputable def atm (z:ca) (n:Name) (t:UInt16) (s:Xs):aiz:=
 if s.kind=4 then Y6 4 [(ao6 z.ai s.node 2).getD as0] []
 else if s.kind=0 then Y6 3 [] []
 else if s.kind=2 then Y6 2 [] []
 else as7 t (if s.kind=3 then (Rz z s.node).map (aul n) else Rz z s.node)
def auk (a b:UInt32):UInt32:=if (a.toNat:Int)≤b.toNat then a else b
def ae6 (z:ca):ba:=
 let s:=(ao6 z.ai z.origin 6).getD as0
 Mr s.owner s.type s.cls (auk s.ff (((s.data[0]?).bind fun d=>d.nums[4]?).getD 0)) s.data
theorem aog {s:ba} (h:m9 s=true):(s.cls.toNat:Int)=1∧(s.type.toNat:Int)≠255:=by
 unfold m9 at h
 split at h
 ·cases h
 split at h
 ·cases h
 split at h
 ·cases h
 ·rename_i q _ _;exact ⟨by omega,by simpa using h⟩
def as4 (n:Name) (s:ba):Bool:=(decide ((s.type.toNat:Int)=1) || decide ((s.type.toNat:Int)=28)) && fu s.owner n
def apk (z:ca):List Name→List Name→List ba
 |_,[]=>[]
 |pre,n::r=>(if pre.any (fun m=>fu m n)=true then [] else z.ai.filter (as4 n))++apk z (pre++[n]) r
def atb (z:ca) (l:List Name):List ba:=apk z [] l
def ap2 (l:List Name):Prop:=gz b7 l≤16777216
instance (l:List Name):Decidable (ap2 l):=inferInstanceAs (Decidable (_≤_))
def as6 (s:ba):Bool:=decide ((s.type.toNat:Int)=2) || (decide ((s.type.toNat:Int)=15) || decide ((s.type.toNat:Int)=33))
def alz (l:List bq):List Name:=l.flatMap fun d=>d.names
def aoc (s:ba):List Name:=if as6 s=true then alz s.data else []
def aq5 (l:List ba):List Name:=l.flatMap aoc
def atj (ans:List ba) (s:ba):Bool:=ans.any fun x=>decide ((x.type.toNat:Int)=s.type.toNat) && fu x.owner s.owner
def aph (z:ca) (ans l:List ba):List ba:=(atb z (aq5 l)).filter fun s=>!atj ans s
def aud (l:List Name) (n:Name):Bool:=l.any fun m=>fu m n
noncomputable def aj0 (z:ca) (t:UInt16):Nat→Name→List Name→List ba→Kv
 |0,_,_,ans=>Uz 0 true ans [] []
 |k+1,n,seen,ans=>
  let x:=atm z n t (ahu z n).1
  if x.turn=0 then Uz 0 true (ans++x.ai) [] (aph z (ans++x.ai) x.ai)
  else if x.turn=3 then Uz 3 true ans [ae6 z] []
  else if x.turn=2 then Uz 0 true ans [ae6 z] []
  else if x.turn=4 then Uz 0 (decide (0<ans.length)) ans x.ai (aph z ans x.ai)
  else if ir x.to z.origin=false then Uz 0 true (ans++x.ai) [] []
  else if aud (seen++[n]) x.to=true then Uz 0 true (ans++x.ai) [] []
  else aj0 z t k x.to (seen++[n]) (ans++x.ai)
noncomputable def ofV (z:ca) (n:Name) (t:UInt16):Kv × Int:=
 if (al5 z n t).2≠0 then (Uz 0 false [] [] [],(al5 z n t).2) else (aj0 z t 16 n [] [],0)
def wtW (w:ab9):Nat:=gz xo w.aiu+(gz (fun h:apj=>h.aiu.length) w.ats+w.hints.length)
def ar7 (w:ab9):Prop:=wtW w≤5242880
instance (w:ab9):Decidable (ar7 w):=inferInstanceAs (Decidable (_≤_))
noncomputable def nb {α:Type} (a b : α):Bool:=@decide (a=b) (Classical.propDecidable _)
theorem Z8 {α:Type} (a : α):nb a a=true:=by unfold nb;exact @decide_eq_true _ (Classical.propDecidable _) rfl
theorem mf {α:Type} {a b : α} (h:a≠b):nb a b=false:=by unfold nb;exact @decide_eq_false _ (Classical.propDecidable _) h
theorem Ap {α:Type} {a b : α} (h:a=b):nb a b=true:=by rw [h];exact Z8 b
theorem Ba {α:Type} {a b : α} (h:nb a b=true):a=b:=by unfold nb at h;exact @of_decide_eq_true _ (Classical.propDecidable _) h
theorem xi {α:Type} {a b : α} (h:nb a b=false):a≠b:=fun q=>by rw [q,Z8] at h;cases h
theorem yu {α:Type} {l m:List α} {i:Nat} {c d : α} (h:l.take i=m.take i) (hc:l[i]? = some c) (hd:m[i]? = some d) (e:c=d):l.take (i+1)=m.take (i+1):=by
 obtain ⟨h1,rfl⟩:=List.getElem?_eq_some_iff.1 hc
 obtain ⟨h2,rfl⟩:=List.getElem?_eq_some_iff.1 hd
 rw [List.take_succ_eq_append_getElem h1,List.take_succ_eq_append_getElem h2,h,e]
theorem Aj {α:Type} {l m:List α} {i:Nat} (h:l.take i=m.take i) (hi:¬ i<l.length) (hl:l.length=m.length):l=m:=by
 rwa [List.take_of_length_le (by omega),List.take_of_length_le (by omega)] at h
theorem v8 {α:Type} {l m:List α} {i:Nat} {c d : α} (hc:l[i]? = some c) (hd:m[i]? = some d) (e:c≠d):l≠m:=fun q=>by rw [q,hd] at hc;cases hc;exact e rfl
theorem Au {α:Type} {l m:List α} (h:(l.length:Int)≠m.length):l≠m:=fun q=>h (by rw [q])
theorem A0 {α:Type} {l m:List α} {i:Nat} (hl:l.length=m.length) (hi:i<l.length):∃ d,m[i]? = some d:=⟨m[i],List.getElem?_eq_getElem (by omega)⟩
theorem Za (a b:Name) (ha:a.length≤16777216):wl PP [] 0 (Tryz.f47.body.getD .skip) (dv PP Tryz.f47.results.toList (fun r st=>(r1 bo).get true st.h r=some (nb a b))) (b9 0 [aw.val false a,aw.val false b]) (bj []):=by
 have hq:∀ a b c d,dj a b c=d→dj a b c=d:=fun _ _ _ _ h=>h
 unfold Tryz.f47
 simp only [dy]
 simp only [↓wR,RA,simprocAttr,TF,ae]
 rw [dr];refine ⟨fun ⟨h,e⟩=>?_,fun ⟨h,e⟩=>?_⟩
 ·simp only [↓wR,RA,simprocAttr,TF,ae,h,mf (Au e)]
 have hl:a.length=b.length:=by omega
 simp only [↓wR,RA,simprocAttr,TF,ae,h]
 refine cq [0,1,5] (fun (i:Nat)=>[.vl false 1 (a.map (ak.val false)),.vl false 1 (b.map (ak.val false)),.sc (.int .i64 (i))]) (fun _=>[]) (fun i=>i≤a.length∧a.take i=b.take i) (fun i=>a.length - i) 0 ⟨Nat.zero_le _,rfl⟩ (by simp only [↓wR,RA,simprocAttr,TF,ae]<;>rfl) (by simp only [↓wR,RA,simprocAttr,TF,ae]<;>rfl) ?_
 rintro i ⟨hi,hx⟩
 simp only [↓wR,RA,simprocAttr,TF,ae]
 rw [bc];refine ⟨fun h2=>?_,fun h2=>?_⟩
 ·obtain ⟨c,hc,hd1,hlt⟩:=ek (decide_eq_true h2)
  obtain ⟨d,hd⟩:=A0 hl hlt
  simp only [↓wR,RA,simprocAttr,TF,ae,h2]
  refine ⟨by kernel_rfl,.inl ?_⟩
  simp only [↓wR,RA,simprocAttr,TF,ae,hc,hd]
  refine ⟨by apply hq;kernel_rfl,?_⟩
  by_cases e2:c=d
  ·simp only [↓wR,RA,simprocAttr,TF,ae,decide_eq_true e2];repeat (simp (disch:=omega) only [ah,be,bf,bd,bg];try simp only [↓wR,RA,simprocAttr,TF,ae,decide_eq_true e2])
   exact ⟨i+1,⟨hlt,yu hx hc hd e2⟩,by omega,by (first|rfl|trivial|omega|((try (simp (disch:=omega) only [ah]));(try (simp only [FB]));first|done|rfl|omega))⟩
  ·simp only [↓wR,RA,simprocAttr,TF,ae,decide_eq_false e2,mf (v8 hc hd e2)]
 ·simp only [↓wR,RA,simprocAttr,TF,ae,h2,Ap (Aj hx (by omega) hl)]
noncomputable def u9 (x:Name × Name × Unit):Option AV:=if x.1.length≤16777216 then some ((r1 bo).E true (nb x.1 x.2.1)) else none
set_option maxRecDepth 2000000 in
theorem Fb (x:Name × Name × Unit) (r:AV) (h:u9 x=some r):br PP 47 ((aC aw (aC aw a0)).E x) r:=by
 by_cases hc:x.1.length≤16777216
 case neg=>simp only [u9,if_neg hc] at h;cases h
 simp only [u9,if_pos hc] at h
 cases h
 exact bb (an.nil PP) Tryz.func47 (by kernel_rfl) (by kernel_rfl) (by kernel_rfl) (Nat.le_of_ble_eq_true (by kernel_rfl)) (r1 bo) true (nb x.1 x.2.1) (Za x.1 x.2.1 hc)
noncomputable abbrev Vt:Nat × Bool × (List AV→M AV):=(47,true,dh (aC aw (aC aw a0)) u9)
theorem ad0 (a b:Name) (ha:a.length≤16777216):wl PP [Vt] 0 (Tryz.f30.body.getD .skip) (dv PP Tryz.f30.results.toList (fun r st=>(r1 bo).get true st.h r=some (nb a b))) (b9 0 [aw.val false a,aw.val false b]) (bj []):=by
 unfold Tryz.f30
 simp only [dy]
 simp only [↓wR,RA,simprocAttr,TF,ae,u9,ha]
noncomputable def ss (x:Name × Name × Unit):Option AV:=if x.1.length≤16777216 then some ((r1 bo).E true (nb x.1 x.2.1)) else none
set_option maxRecDepth 2000000 in
theorem y9 (x:Name × Name × Unit) (r:AV) (h:ss x=some r):br PP 30 ((aC aw (aC aw a0)).E x) r:=by
 by_cases hc:x.1.length≤16777216
 case neg=>simp only [ss,if_neg hc] at h;cases h
 simp only [ss,if_pos hc] at h
 cases h
 exact bb (an.cons (ar Fb) (an.nil PP)) Tryz.func30 (by kernel_rfl) (by kernel_rfl) (by kernel_rfl) (Nat.le_of_ble_eq_true (by kernel_rfl)) (r1 bo) true (nb x.1 x.2.1) (ad0 x.1 x.2.1 hc)
noncomputable abbrev I6:Nat × Bool × (List AV→M AV):=(30,true,dh (aC aw (aC aw a0)) ss)
theorem aci (a b:List UInt8):wl PP [] 0 (Tryz.f91.body.getD .skip) (dv PP Tryz.f91.results.toList (fun r st=>(r1 bo).get true st.h r=some (nb a b))) (b9 0 [(cj bu).val false a,(cj bu).val false b]) (bj []):=by
 unfold Tryz.f91
 simp only [pz]
 simp only [↓wR,RA,simprocAttr,TF,ae]
 congr 1
 by_cases e:a=b
 ·rw [Ap e,e];exact decide_eq_true rfl
 ·rw [mf e];exact decide_eq_false fun q=>e (by injection q with q;simpa using q)
noncomputable def Ev (x:List UInt8 × List UInt8 × Unit):Option AV:=some ((r1 bo).E true (nb x.1 x.2.1))
set_option maxRecDepth 2000000 in
theorem Pq (x:List UInt8 × List UInt8 × Unit) (r:AV) (h:Ev x=some r):br PP 91 ((aC (cj bu) (aC (cj bu) a0)).E x) r:=by
 cases h
 exact bb (an.nil PP) Tryz.func91 (by kernel_rfl) (by kernel_rfl) (by kernel_rfl) (Nat.le_of_ble_eq_true (by kernel_rfl)) (r1 bo) true (nb x.1 x.2.1) (aci x.1 x.2.1)
noncomputable abbrev ai0:Nat × Bool × (List AV→M AV):=(91,true,dh (aC (cj bu) (aC (cj bu) a0)) Ev)
theorem Cd {a b:bq} (h:¬ (a.names=b.names∧a.nums=b.nums∧a.texts=b.texts∧a.raw=b.raw)):a≠b:=fun q=>h (by rw [q];exact ⟨rfl,rfl,rfl,rfl⟩)
theorem aq0 {a b:bq} (h1:a.names=b.names) (h2:a.nums=b.nums) (h3:a.texts=b.texts) (h4:a.raw=b.raw):a=b:=by
 cases a;cases b;simp_all
set_option maxHeartbeats 4000000 in
theorem Yi (a b:bq) (ha:de a):wl PP [Vt,I6,ai0] 0 (Tryz.f71.body.getD .skip) (dv PP Tryz.f71.results.toList (fun r st=>(r1 bo).get true st.h r=some (nb a b))) (b9 0 [aq.val false a,aq.val false b]) (bj []):=by
 have hls:=ha.lens
 have hq:∀ a b c d,dj a b c=d→dj a b c=d:=fun _ _ _ _ h=>h
 unfold Tryz.f71
 simp only [ky]
 simp only [↓wR,RA,simprocAttr,TF,ae]
 rw [dr];refine ⟨fun ⟨h1,e1⟩=>?_,fun ⟨h1,e1⟩=>?_⟩
 ·simp only [↓wR,RA,simprocAttr,TF,ae,h1,mf (Cd fun q=>Au e1 q.1)]
 simp only [↓wR,RA,simprocAttr,TF,ae,h1]
 rw [dr];refine ⟨fun ⟨h2,e2⟩=>?_,fun ⟨h2,e2⟩=>?_⟩
 ·simp only [↓wR,RA,simprocAttr,TF,ae,h2,mf (Cd fun q=>Au e2 q.2.1)]
 simp only [↓wR,RA,simprocAttr,TF,ae,h2,u9,hls.2.2.1]
 cases h3:nb a.texts b.texts with
 |false=>simp only [↓wR,RA,simprocAttr,TF,ae,mf (Cd fun q=>xi h3 q.2.2.1)]
 |true=>
 simp only [↓wR,RA,simprocAttr,TF,ae,Ev]
 cases h4:nb a.raw b.raw with
 |false=>simp only [↓wR,RA,simprocAttr,TF,ae,mf (Cd fun q=>xi h4 q.2.2.2)]
 |true=>
 have hl1:a.names.length=b.names.length:=by omega
 have hl2:a.nums.length=b.nums.length:=by omega
 simp only [↓wR,RA,simprocAttr,TF,ae]
 refine cq [2,3,5] (fun (i:Nat)=>[.ptr 0 0,.ptr 1 0,.sc (.int .i64 (i))]) (fun _=>[some (.row [.vl false 1 (a.names.map (aw.val false)),.vl false 1 (a.nums.map (c0.val false)),.vl false 1 (a.texts.map (ak.val false)),.vl false 1 (a.raw.map (bu.val false))] 0 2 71),some (.row [.vl false 1 (b.names.map (aw.val false)),.vl false 1 (b.nums.map (c0.val false)),.vl false 1 (b.texts.map (ak.val false)),.vl false 1 (b.raw.map (bu.val false))] 0 2 71)]) (fun i=>i≤a.names.length∧a.names.take i=b.names.take i) (fun i=>a.names.length - i) 0 ⟨Nat.zero_le _,rfl⟩ (by simp only [↓wR,RA,simprocAttr,TF,ae]<;>rfl) (by simp only [↓wR,RA,simprocAttr,TF,ae]<;>rfl) ?_
 rintro i ⟨hi,hx⟩
 simp only [↓wR,RA,simprocAttr,TF,ae]
 rw [bc];refine ⟨fun h5=>?_,fun h5=>?_⟩
 ·obtain ⟨c,hc,hd1,hlt⟩:=ek (decide_eq_true h5)
  obtain ⟨d,hd⟩:=A0 hl1 hlt
  have hcl:c.length≤16777216:=by have:=(ha.name c (List.mem_of_getElem? hc));have:=(nq c 0).2;unfold cp at *;omega
  simp only [↓wR,RA,simprocAttr,TF,ae,h5]
  refine ⟨by kernel_rfl,.inl ?_⟩
  simp only [↓wR,RA,simprocAttr,TF,ae,hc,hd,ss,hcl]
  refine ⟨by apply hq;kernel_rfl,?_⟩
  cases e6:nb c d with
  |true=>
   simp only [↓wR,RA,simprocAttr,TF,ae];repeat (simp (disch:=omega) only [ah,be,bf,bd,bg];try simp only [↓wR,RA,simprocAttr,TF,ae])
   exact ⟨i+1,⟨hlt,yu hx hc hd (Ba e6)⟩,by omega,by (first|rfl|trivial|omega|((try (simp (disch:=omega) only [ah]));(try (simp only [FB]));first|done|rfl|omega))⟩
  |false=>simp only [↓wR,RA,simprocAttr,TF,ae,mf (Cd fun q=>v8 hc hd (xi e6) q.1)]
 have hnm:=Aj hx (by omega) hl1
 simp only [↓wR,RA,simprocAttr,TF,ae,h5]
 refine cq [2,3,6] (fun (i:Nat)=>[.ptr 0 0,.ptr 1 0,.sc (.int .i64 (i))]) (fun _=>[some (.row [.vl false 1 (a.names.map (aw.val false)),.vl false 1 (a.nums.map (c0.val false)),.vl false 1 (a.texts.map (ak.val false)),.vl false 1 (a.raw.map (bu.val false))] 0 2 71),some (.row [.vl false 1 (b.names.map (aw.val false)),.vl false 1 (b.nums.map (c0.val false)),.vl false 1 (b.texts.map (ak.val false)),.vl false 1 (b.raw.map (bu.val false))] 0 2 71)]) (fun i=>i≤a.nums.length∧a.nums.take i=b.nums.take i) (fun i=>a.nums.length - i) 0 ⟨Nat.zero_le _,rfl⟩ (by simp only [↓wR,RA,simprocAttr,TF,ae]<;>rfl) (by simp only [↓wR,RA,simprocAttr,TF,ae]<;>rfl) ?_
 clear hi hx h5
 rintro i ⟨hi,hx⟩
 simp only [↓wR,RA,simprocAttr,TF,ae]
 rw [bc];refine ⟨fun h5=>?_,fun h5=>?_⟩
 ·obtain ⟨c,hc,hd1,hlt⟩:=ek (decide_eq_true h5)
  obtain ⟨d,hd⟩:=A0 hl2 hlt
  simp only [↓wR,RA,simprocAttr,TF,ae,h5]
  refine ⟨by kernel_rfl,.inl ?_⟩
  simp only [↓wR,RA,simprocAttr,TF,ae,hc,hd]
  refine ⟨by apply hq;kernel_rfl,?_⟩
  rw [dr];refine ⟨fun ⟨h6,e6⟩=>?_,fun ⟨h6,e6⟩=>?_⟩
  ·simp only [↓wR,RA,simprocAttr,TF,ae,h6,mf (Cd fun q=>v8 hc hd (fun q=>e6 (by rw [q])) q.2.1)]
  ·simp only [↓wR,RA,simprocAttr,TF,ae,h6];repeat (simp (disch:=omega) only [ah,be,bf,bd,bg];try simp only [↓wR,RA,simprocAttr,TF,ae,h6])
   exact ⟨i+1,⟨hlt,yu hx hc hd (UInt32.toNat_inj.1 (by omega))⟩,by omega,by (first|rfl|trivial|omega|((try (simp (disch:=omega) only [ah]));(try (simp only [FB]));first|done|rfl|omega))⟩
 ·simp only [↓wR,RA,simprocAttr,TF,ae,h5,Ap (aq0 hnm (Aj hx (by omega) hl2) (Ba h3) (Ba h4))]
noncomputable def yi (x:bq × bq × Unit):Option AV:=if de x.1 then some ((r1 bo).E true (nb x.1 x.2.1)) else none
set_option maxRecDepth 2000000 in
theorem T3 (x:bq × bq × Unit) (r:AV) (h:yi x=some r):br PP 71 ((aC aq (aC aq a0)).E x) r:=by
 by_cases hc:de x.1
 case neg=>simp only [yi,if_neg hc] at h;cases h
 simp only [yi,if_pos hc] at h
 cases h
 exact bb (an.cons (ar Fb) (an.cons (ar y9) (an.cons (ar Pq) (an.nil PP)))) Tryz.func71 (by kernel_rfl) (by kernel_rfl) (by kernel_rfl) (Nat.le_of_ble_eq_true (by kernel_rfl)) (r1 bo) true (nb x.1 x.2.1) (Yi x.1 x.2.1 hc)
noncomputable abbrev akq:Nat × Bool × (List AV→M AV):=(71,true,dh (aC aq (aC aq a0)) yi)
theorem E7 {a b:ba} (h:¬ (a.owner=b.owner∧a.type=b.type∧a.cls=b.cls∧a.ff=b.ff∧a.data=b.data)):a≠b:=fun q=>h (by rw [q];exact ⟨rfl,rfl,rfl,rfl,rfl⟩)
theorem asy {a b:ba} (h1:a.owner=b.owner) (h2:a.type=b.type) (h3:a.cls=b.cls) (h4:a.ff=b.ff) (h5:a.data=b.data):a=b:=by
 cases a;cases b;simp_all
set_option maxHeartbeats 4000000 in
theorem adi (a b:ba) (ha:ct a):wl PP [I6,akq] 0 (Tryz.f48.body.getD .skip) (dv PP Tryz.f48.results.toList (fun r st=>(r1 bo).get true st.h r=some (nb a b))) (b9 0 [aj.val false a,aj.val false b]) (bj []):=by
 have hol:a.owner.length≤16777216:=by have:=ha.owner;have:=(nq a.owner 0).2;unfold cp at *;omega
 have hdl:=ha.data.len
 have hq:∀ a b c d,dj a b c=d→dj a b c=d:=fun _ _ _ _ h=>h
 unfold Tryz.f48
 simp only [ij]
 simp only [↓wR,RA,simprocAttr,TF,ae,ss,hol]
 cases h1:nb a.owner b.owner with
 |false=>simp only [↓wR,RA,simprocAttr,TF,ae,mf (E7 fun q=>xi h1 q.1)]
 |true=>
 simp only [↓wR,RA,simprocAttr,TF,ae]
 rw [dr];refine ⟨fun ⟨h2,e2⟩=>?_,fun ⟨h2,e2⟩=>?_⟩
 ·simp only [↓wR,RA,simprocAttr,TF,ae,h2,mf (E7 fun q=>e2 (by rw [q.2.1]))]
 simp only [↓wR,RA,simprocAttr,TF,ae,h2]
 rw [dr];refine ⟨fun ⟨h3,e3⟩=>?_,fun ⟨h3,e3⟩=>?_⟩
 ·simp only [↓wR,RA,simprocAttr,TF,ae,h3,mf (E7 fun q=>e3 (by rw [q.2.2.1]))]
 simp only [↓wR,RA,simprocAttr,TF,ae,h3]
 rw [dr];refine ⟨fun ⟨h4,e4⟩=>?_,fun ⟨h4,e4⟩=>?_⟩
 ·simp only [↓wR,RA,simprocAttr,TF,ae,h4,mf (E7 fun q=>e4 (by rw [q.2.2.2.1]))]
 simp only [↓wR,RA,simprocAttr,TF,ae,h4]
 rw [dr];refine ⟨fun ⟨h5,e5⟩=>?_,fun ⟨h5,e5⟩=>?_⟩
 ·simp only [↓wR,RA,simprocAttr,TF,ae,h5,mf (E7 fun q=>Au e5 q.2.2.2.2)]
 have hl1:a.data.length=b.data.length:=by omega
 simp only [↓wR,RA,simprocAttr,TF,ae,h5]
 refine cq [2,3,5] (fun (i:Nat)=>[.ptr 0 0,.ptr 1 0,.sc (.int .i64 (i))]) (fun _=>[some (.row [.vl false 1 (a.owner.map (ak.val false)),.sc (.int .u16 a.type.toNat),.sc (.int .u16 a.cls.toNat),.sc (.int .u32 a.ff.toNat),.vl false 4 (a.data.map (aq.val false))] 0 2 33),some (.row [.vl false 1 (b.owner.map (ak.val false)),.sc (.int .u16 b.type.toNat),.sc (.int .u16 b.cls.toNat),.sc (.int .u32 b.ff.toNat),.vl false 4 (b.data.map (aq.val false))] 0 2 33)]) (fun i=>i≤a.data.length∧a.data.take i=b.data.take i) (fun i=>a.data.length - i) 0 ⟨Nat.zero_le _,rfl⟩ (by simp only [↓wR,RA,simprocAttr,TF,ae]<;>rfl) (by simp only [↓wR,RA,simprocAttr,TF,ae]<;>rfl) ?_
 rintro i ⟨hi,hx⟩
 simp only [↓wR,RA,simprocAttr,TF,ae]
 rw [bc];refine ⟨fun h6=>?_,fun h6=>?_⟩
 ·obtain ⟨c,hc,hd1,hlt⟩:=ek (decide_eq_true h6)
  obtain ⟨d,hd⟩:=A0 hl1 hlt
  have hcs:=ha.data.mem c (List.mem_of_getElem? hc)
  simp only [↓wR,RA,simprocAttr,TF,ae,h6]
  refine ⟨by kernel_rfl,.inl ?_⟩
  simp only [↓wR,RA,simprocAttr,TF,ae,hc,hd,yi,hcs]
  refine ⟨by apply hq;kernel_rfl,?_⟩
  cases e7:nb c d with
  |true=>
   simp only [↓wR,RA,simprocAttr,TF,ae];repeat (simp (disch:=omega) only [ah,be,bf,bd,bg];try simp only [↓wR,RA,simprocAttr,TF,ae])
   exact ⟨i+1,⟨hlt,yu hx hc hd (Ba e7)⟩,by omega,by (first|rfl|trivial|omega|((try (simp (disch:=omega) only [ah]));(try (simp only [FB]));first|done|rfl|omega))⟩
  |false=>simp only [↓wR,RA,simprocAttr,TF,ae,mf (E7 fun q=>v8 hc hd (xi e7) q.2.2.2.2)]
 ·simp only [↓wR,RA,simprocAttr,TF,ae,h6,Ap (asy (Ba h1) (UInt16.toNat_inj.1 (by omega)) (UInt16.toNat_inj.1 (by omega)) (UInt32.toNat_inj.1 (by omega)) (Aj hx (by omega) hl1))]
noncomputable def Ax (x:ba × ba × Unit):Option AV:=if ct x.1 then some ((r1 bo).E true (nb x.1 x.2.1)) else none
set_option maxRecDepth 2000000 in
theorem Xp (x:ba × ba × Unit) (r:AV) (h:Ax x=some r):br PP 48 ((aC aj (aC aj a0)).E x) r:=by
 by_cases hc:ct x.1
 case neg=>simp only [Ax,if_neg hc] at h;cases h
 simp only [Ax,if_pos hc] at h
 cases h
 exact bb (an.cons (ar y9) (an.cons (ar T3) (an.nil PP))) Tryz.func48 (by kernel_rfl) (by kernel_rfl) (by kernel_rfl) (Nat.le_of_ble_eq_true (by kernel_rfl)) (r1 bo) true (nb x.1 x.2.1) (adi x.1 x.2.1 hc)
noncomputable abbrev anb:Nat × Bool × (List AV→M AV):=(48,true,dh (aC aj (aC aj a0)) Ax)
theorem Zb (a b:List ba) (ha:Bf a):wl PP [anb] 0 (Tryz.f31.body.getD .skip) (dv PP Tryz.f31.results.toList (fun r st=>(r1 bo).get true st.h r=some (nb a b))) (b9 0 [(cj aj).val false a,(cj aj).val false b]) (bj []):=by
 have hal:=ha.1
 have hq:∀ a b c d,dj a b c=d→dj a b c=d:=fun _ _ _ _ h=>h
 unfold Tryz.f31
 simp only [pz]
 simp only [↓wR,RA,simprocAttr,TF,ae]
 rw [dr];refine ⟨fun ⟨h,e⟩=>?_,fun ⟨h,e⟩=>?_⟩
 ·simp only [↓wR,RA,simprocAttr,TF,ae,h,mf (Au e)]
 have hl:a.length=b.length:=by omega
 simp only [↓wR,RA,simprocAttr,TF,ae,h]
 refine cq [0,1,5] (fun (i:Nat)=>[.vl false 5 (a.map (aj.val false)),.vl false 5 (b.map (aj.val false)),.sc (.int .i64 (i))]) (fun _=>[]) (fun i=>i≤a.length∧a.take i=b.take i) (fun i=>a.length - i) 0 ⟨Nat.zero_le _,rfl⟩ (by simp only [↓wR,RA,simprocAttr,TF,ae]<;>rfl) (by simp only [↓wR,RA,simprocAttr,TF,ae]<;>rfl) ?_
 rintro i ⟨hi,hx⟩
 simp only [↓wR,RA,simprocAttr,TF,ae]
 rw [bc];refine ⟨fun h2=>?_,fun h2=>?_⟩
 ·obtain ⟨c,hc,hd1,hlt⟩:=ek (decide_eq_true h2)
  obtain ⟨d,hd⟩:=A0 hl hlt
  have hcs:=ha.2 c (List.mem_of_getElem? hc)
  simp only [↓wR,RA,simprocAttr,TF,ae,h2]
  refine ⟨by kernel_rfl,.inl ?_⟩
  simp only [↓wR,RA,simprocAttr,TF,ae,hc,hd,Ax,hcs]
  refine ⟨by apply hq;kernel_rfl,?_⟩
  cases e7:nb c d with
  |true=>
   simp only [↓wR,RA,simprocAttr,TF,ae];repeat (simp (disch:=omega) only [ah,be,bf,bd,bg];try simp only [↓wR,RA,simprocAttr,TF,ae])
   exact ⟨i+1,⟨hlt,yu hx hc hd (Ba e7)⟩,by omega,by (first|rfl|trivial|omega|((try (simp (disch:=omega) only [ah]));(try (simp only [FB]));first|done|rfl|omega))⟩
  |false=>simp only [↓wR,RA,simprocAttr,TF,ae,mf (v8 hc hd (xi e7))]
 ·simp only [↓wR,RA,simprocAttr,TF,ae,h2,Ap (Aj hx (by omega) hl)]
noncomputable def yf (x:List ba × List ba × Unit):Option AV:=if Bf x.1 then some ((r1 bo).E true (nb x.1 x.2.1)) else none
set_option maxRecDepth 2000000 in
theorem T5 (x:List ba × List ba × Unit) (r:AV) (h:yf x=some r):br PP 31 ((aC (cj aj) (aC (cj aj) a0)).E x) r:=by
 by_cases hc:Bf x.1
 case neg=>simp only [yf,if_neg hc] at h;cases h
 simp only [yf,if_pos hc] at h
 cases h
 exact bb (an.cons (ar Xp) (an.nil PP)) Tryz.func31 (by kernel_rfl) (by kernel_rfl) (by kernel_rfl) (Nat.le_of_ble_eq_true (by kernel_rfl)) (r1 bo) true (nb x.1 x.2.1) (Zb x.1 x.2.1 hc)
noncomputable abbrev aj3:Nat × Bool × (List AV→M AV):=(31,true,dh (aC (cj aj) (aC (cj aj) a0)) yf)
def aui (r:Kv):Prop:=Bf r.answer∧(Bf r.authority∧Bf r.Gd)
instance (r:Kv):Decidable (aui r):=inferInstanceAs (Decidable (_∧_))
theorem amt {n:Name} (h:cp n):n.length≤16777216:=by have:=(nq n 0).2;unfold cp at h;omega
theorem ae2 {a b:ca} (h:¬ (a.origin=b.origin∧a.ai=b.ai)):a≠b:=fun q=>h (by rw [q];exact ⟨rfl,rfl⟩)
theorem ara {a b:ca} (h1:a.origin=b.origin) (h2:a.ai=b.ai):a=b:=by
 cases a;cases b;simp_all
theorem Ym (a b:ca) (ha:db a):wl PP [I6,aj3] 0 (Tryz.f10.body.getD .skip) (dv PP Tryz.f10.results.toList (fun r st=>(r1 bo).get true st.h r=some (nb a b))) (b9 0 [c7.val false a,c7.val false b]) (bj []):=by
 have h1:=amt ha.origin
 unfold Tryz.f10
 simp only [kq]
 simp only [↓wR,RA,simprocAttr,TF,ae,ss,h1]
 cases h3:nb a.origin b.origin with
 |false=>simp only [↓wR,RA,simprocAttr,TF,ae,mf (ae2 fun q=>xi h3 q.1)]
 |true=>
 simp only [↓wR,RA,simprocAttr,TF,ae,yf,ha.mid]
 cases h4:nb a.ai b.ai with
 |false=>simp only [↓wR,RA,simprocAttr,TF,ae,mf (ae2 fun q=>xi h4 q.2)]
 |true=>simp only [↓wR,RA,simprocAttr,TF,ae,Ap (ara (Ba h3) (Ba h4))]
noncomputable def vh (x:ca × ca × Unit):Option AV:=if db x.1 then some ((r1 bo).E true (nb x.1 x.2.1)) else none
set_option maxRecDepth 2000000 in
theorem Uc (x:ca × ca × Unit) (r:AV) (h:vh x=some r):br PP 10 ((aC c7 (aC c7 a0)).E x) r:=by
 by_cases hc:db x.1
 case neg=>simp only [vh,if_neg hc] at h;cases h
 simp only [vh,if_pos hc] at h
 cases h
 exact bb (an.cons (ar y9) (an.cons (ar T5) (an.nil PP))) Tryz.func10 (by kernel_rfl) (by kernel_rfl) (by kernel_rfl) (Nat.le_of_ble_eq_true (by kernel_rfl)) (r1 bo) true (nb x.1 x.2.1) (Ym x.1 x.2.1 hc)
noncomputable abbrev Wa:Nat × Bool × (List AV→M AV):=(10,true,dh (aC c7 (aC c7 a0)) vh)
theorem P8 {t:UInt16}:∀ {l:List bq},(∀ d ∈ l,sy t d)→rh t l=true→gu (dz t) l
 | [],_,_=>List.Pairwise.nil
 | [a],_,_=>List.pairwise_singleton _ _
 |a::b::r,hg,h=>by
  rw [rh] at h
  split at h
  ·cases h
  rename_i h0
  have ih:=P8 (t:=t) (l:=b::r) (fun d hd=>hg d (List.mem_cons_of_mem _ hd)) h
  have ga:=hg a List.mem_cons_self
  have gb:=hg b (List.mem_cons_of_mem _ List.mem_cons_self)
  have hba:dz t b a=false:=(nm t).S3 a b ga gb (decide_eq_true (by omega))
  refine List.pairwise_cons.2 ⟨fun y hy=>?_,ih⟩
  rcases List.mem_cons.1 hy with rfl|hy'
  ·exact hba
  ·exact (nm t).trans a b y ga gb (hg y (List.mem_cons_of_mem _ hy)) hba ((List.pairwise_cons.1 ih).1 y hy')
theorem ab3 {z:ca} (hz:db z) (h:ji z=0) {x:ba} (hx:x ∈ z.ai):cy x=x:=by
 have hg:=Xq h
 have he:=ahf (ajt h x hx)
 have hd:=(hz.set x hx).data
 obtain ⟨k,hk⟩:=List.getElem?_of_mem hx
 have hr:=hg.apn k x hk
 unfold js at hr
 rw [Bool.and_eq_true] at hr
 have hR:=P8 (t:=x.type) (fun d hdm=>⟨hd.mem d hdm,he d hdm⟩) hr.2
 unfold cy
 split
 ·rw [T8 hR]
  cases x;rfl
 ·rfl
theorem map_id' {l:List ba} {f:ba→ba} (h:∀ x ∈ l,f x=x):l.map f=l:=by
 induction l with
 |nil=>rfl
 |cons a l ih=>rw [List.map_cons,h a List.mem_cons_self,ih fun x hx=>h x (List.mem_cons_of_mem _ hx)]
theorem Su {z:ca} (h:ji z=0):gu dk z.ai:=by
 refine (ad5 (Xq h)).imp fun {a b} q=>?_
 refine Ts.S3 a b trivial trivial (decide_eq_true ?_)
 rw [Mc] at q
 rw [aie]
 rcases q with q|⟨q,q'⟩
 ·exact .inl q
 ·exact .inr ⟨q,.inl q'⟩
theorem ap3 {z:ca} (hz:db z) (h:ji z=0):yj z.ai=z.ai:=by
 unfold yj
 rw [T8 (Su h)]
 exact map_id' fun x hx=>ab3 hz h hx
theorem Q8 {α:Type} {lt : α → α→Bool} {p : α→Bool} {x : α} (hx:p x=false):∀ l:List α,(g5 lt x l).filter p=l.filter p
 | []=>by simp [g5,hx]
 |y::l=>by
  rw [g5]
  cases lt x y with
  |true=>rw [cond_true,List.filter_cons,if_neg (by rw [hx];decide)]
  |false=>rw [cond_false,List.filter_cons,List.filter_cons,Q8 hx l]
theorem N0 {p:ba→Bool} (hp:∀ x,p (cy x)=p x) (l:List ba):(l.map cy).filter p=(l.filter p).map cy:=by
 induction l with
 |nil=>rfl
 |cons a l ih=>
  rw [List.map_cons,List.filter_cons,List.filter_cons,hp,ih]
  split<;>rfl
theorem filter_all {p:ba→Bool} {l:List ba} (h:∀ x ∈ l,p x=true):l.filter p=l:=List.filter_eq_self.2 h
theorem Q0 (x:ba):(cy x).owner=x.owner∧(cy x).type=x.type∧(cy x).cls=x.cls:=by
 unfold cy
 split<;>exact ⟨rfl,rfl,rfl⟩
theorem ac7 (n:Name) (t c:Int) (x:ba):lr n t c (cy x)=lr n t c x:=by
 obtain ⟨h1,h2,h3⟩:=Q0 x
 unfold lr
 rw [h1,h2,h3]
theorem arx {a b:UInt16} (h:(a.toNat:Int)=b.toNat):a=b:=UInt16.toNat_inj.1 (by omega)
theorem leads {z:ca} {s:ba} (hz:db z) (h:ji z=0) (hn:∀ x ∈ z.ai,fu x.owner s.owner=true→x.type≠s.type) :
 Lm z s=uf z.origin (z.ai++[s])∧(∀ m,uf z.origin (z.ai++[s])=(m,0)→m.origin=z.origin∧m.ai.length=z.ai.length+1∧xo m=xo z+j7 s+1∧(∀ x ∈ m.ai,x.data.length≤20∨x.data.length=s.data.length∨∃ y ∈ z.ai,y.data.length=x.data.length)∧z4 m s.owner s.type=(z,0)):=by
 have hkeep:∀ c:Int,z.ai.filter (lr s.owner s.type.toNat c)=z.ai:=fun c=>filter_all fun x hx=>by
  unfold lr
  cases hs:fu x.owner s.owner with
  |false=>rw [Bool.and_false,Bool.and_false];rfl
  |true=>
   have:=hn x hx hs
   rw [decide_eq_false (fun q=>this (arx q))];rfl
 refine ⟨by unfold Lm;rw [if_pos h,hkeep],fun m hm=>?_⟩
 have hM:yj (z.ai++[s])=(g5 dk s z.ai).map cy:=by
  unfold yj
  rw [qo,T8 (Su h)]
 unfold uf at hm
 rw [hM] at hm
 split at hm
 case isFalse q=>exact absurd (congrArg Prod.snd hm) q
 rename_i he
 obtain rfl:m=vr z.origin ((g5 dk s z.ai).map cy):=(congrArg Prod.fst hm).symm
 have hwt:xo (vr z.origin ((g5 dk s z.ai).map cy))=xo z+j7 s+1:=by
  show b7 z.origin+gz j7 ((g5 dk s z.ai).map cy)=_
  have h1:=aew Ve (g5 dk s z.ai)
  have h2:=Oo (μ:=j7) (I0 (lt:=dk) (x:=s) (l:=z.ai))
  have h3:gz j7 (s::z.ai)=gz j7 z.ai+j7 s+1:=by simp only [gz,List.foldr_cons];omega
  unfold xo
  omega
 have hcls:(s.cls.toNat:Int)=1:=by
  have hmem:cy s ∈ (g5 dk s z.ai).map cy:=List.mem_map.2 ⟨s,Gm.2 (.inl rfl),rfl⟩
  have:=(aog ((Xq he).cls (cy s) hmem)).1
  rw [(Q0 s).2.2] at this
  exact this
 refine ⟨rfl,by show ((g5 dk s z.ai).map cy).length=_;rw [List.length_map,Ob],hwt,fun x hx=>?_,?_⟩
 ·have hx':x ∈ (g5 dk s z.ai).map cy:=hx
  obtain ⟨y,hy,rfl⟩:=List.mem_map.1 hx'
  have hlen:(cy y).data.length=y.data.length:=by
   unfold cy
   split
   ·show (c8 _ _).length=_;rw [dn]
   ·rfl
  rcases Gm.1 hy with rfl|hy
  ·exact .inr (.inl hlen)
  ·exact .inr (.inr ⟨y,hy,hlen.symm⟩)
 ·have hf:((g5 dk s z.ai).map cy).filter (lr s.owner s.type.toNat 1)=z.ai:=by
   rw [N0 (ac7 _ _ _),Q8 (by
    unfold lr
    rw [decide_eq_true rfl,decide_eq_true hcls,show fu s.owner s.owner=true from mw.2 rfl];rfl),hkeep]
   exact map_id' fun x hx=>ab3 hz h hx
  unfold z4
  rw [if_pos he]
  show (if (((g5 dk s z.ai).map cy).filter _).length=((g5 dk s z.ai).map cy).length then _ else uf z.origin (((g5 dk s z.ai).map cy).filter _))=_
  rw [hf,if_neg (by rw [List.length_map,Ob];omega)]
  unfold uf
  rw [ap3 hz h]
  have hzz:vr z.origin z.ai=z:=by cases z;rfl
  rw [hzz,if_pos h]
set_option maxHeartbeats 4000000 in
theorem aol (z:ca) (s:ba) (hw:xo z+j7 s<16777216):wl PP [af5,ary,I9,zAt,apb,acj,Wa] 0 (Tryz.f3.body.getD .skip) (dv PP Tryz.f3.results.toList (fun r st=>(r1 bo).get true st.h r=some true)) (b9 0 [c7.val false z,aj.val false s]) (bj []):=by
 have hz:db z:=by unfold db;omega
 have hs:ct s:=by unfold ct;omega
 have hl:=hz.len
 have hdl:=hs.data.len
 unfold Tryz.f3
 simp only [kq,ij]
 simp only [↓wR,RA,simprocAttr,TF,ae,Qy,hz]
 rw [dc];refine ⟨fun h1=>?_,fun h1=>?_⟩
 ·have h1':Jf z=false:=by simpa only [Bool.not_eq_true'] using h1
  simp only [↓wR,RA,simprocAttr,TF,ae,h1,h1']
 have h1':Jf z=true:=by simpa only [Bool.not_eq_false'] using h1
 simp only [↓wR,RA,simprocAttr,TF,ae,h1,h1']
 rw [bc];refine ⟨fun h2=>?_,fun h2=>?_⟩
 ·simp only [↓wR,RA,simprocAttr,TF,ae,h2]
 have hsl:s.data.length≤20:=by omega
 have hfl:z.ai.length≤40∧∀ x ∈ z.ai,x.data.length≤20:=by
  unfold Jf Tj at h1'
  rw [Bool.and_eq_true,List.all_eq_true] at h1'
  exact ⟨by have:=of_decide_eq_true h1'.2;omega,fun x hx=>by have:=h1'.1 x hx;simp at this;omega⟩
 simp only [↓wR,RA,simprocAttr,TF,ae,h2,xj,hz]
 rw [dc];refine ⟨fun h3=>?_,fun h3=>?_⟩
 ·simp only [↓wR,RA,simprocAttr,TF,ae,h3]
 have hze:ji z=0:=by simpa using h3
 obtain ⟨A,hA⟩:∃ A,A=Rz z s.owner:=⟨_,rfl⟩
 have hAl:A.length≤z.ai.length:=by rw [hA];exact List.length_filter_le _ _
 simp only [↓wR,RA,simprocAttr,TF,ae,h3,Yj,hz,hs.owner,← hA]
 refine cq [2,3,5,6,7] (fun (i:Nat)=>[.ptr 0 0,.ptr 1 0,.sc (.bool true),.vl true 5 (A.map (aj.val true)),.sc (.int .i64 (i))]) (fun _=>[some (.row [.vl false 1 (z.origin.map (ak.val false)),.vl false 5 (z.ai.map (aj.val false))] 0 2 26),some (.row [.vl false 1 (s.owner.map (ak.val false)),.sc (.int .u16 s.type.toNat),.sc (.int .u16 s.cls.toNat),.sc (.int .u32 s.ff.toNat),.vl false 4 (s.data.map (aq.val false))] 0 2 33)]) (fun i=>i≤A.length∧∀ x ∈ A.take i,x.type≠s.type) (fun i=>A.length - i) 0 ⟨Nat.zero_le _,fun x hx=>by simp at hx⟩ (by simp only [↓wR,RA,simprocAttr,TF,ae]<;>rfl) (by simp only [↓wR,RA,simprocAttr,TF,ae]<;>rfl) ?_
 rintro i ⟨hi,hx⟩
 simp only [↓wR,RA,simprocAttr,TF,ae]
 rw [bc];refine ⟨fun h=>?_,fun h=>?_⟩
 ·obtain ⟨c,hc,hd1,hlt⟩:=ek (decide_eq_true h)
  simp only [↓wR,RA,simprocAttr,TF,ae,h,hc];repeat (simp (disch:=omega) only [ah,be,bf,bd,bg];try simp only [↓wR,RA,simprocAttr,TF,ae,h,hc])
  refine ⟨by kernel_rfl,.inl ?_⟩
  refine ⟨by kernel_rfl,?_⟩
  rw [di];refine ⟨fun ⟨h4,e4⟩=>?_,fun ⟨h4,e4⟩=>?_⟩
  ·simp only [↓wR,RA,simprocAttr,TF,ae,h4]
  ·simp only [↓wR,RA,simprocAttr,TF,ae,h4];repeat (simp (disch:=omega) only [ah,be,bf,bd,bg];try simp only [↓wR,RA,simprocAttr,TF,ae,h4])
   refine ⟨i+1,⟨hlt,fun x hxm=>?_⟩,by omega,by (first|rfl|trivial|omega|((try (simp (disch:=omega) only [ah]));(try (simp only [FB]));first|done|rfl|omega))⟩
   rw [iq hc,List.mem_append,List.mem_singleton] at hxm
   rcases hxm with q|rfl
   ·exact hx x q
   ·exact fun q=>e4 (by rw [q])
 ·have hin:A.take i=A:=List.take_of_length_le (by omega)
  rw [hin,hA] at hx
  have hno:∀ x ∈ z.ai,fu x.owner s.owner=true→x.type≠s.type:=fun x hxz hsn=>hx x (List.mem_filter.2 ⟨hxz,hsn⟩)
  obtain ⟨hW,hmm⟩:=leads hz hze hno
  have c1:z.ai.length<1048576:=by omega
  have c2:∀ x ∈ z.ai,x.data.length≤1048576:=fun x q=>by have:=hfl.2 x q;omega
  have c3:s.data.length≤1048576:=by omega
  rcases hm:uf z.origin (z.ai++[s]) with ⟨m,e⟩
  rw [hm] at hW
  simp only [↓wR,RA,simprocAttr,TF,ae,h,I2,hw,c1,eq_true c2,c3,hW]
  rw [dr];refine ⟨fun ⟨h5,e5⟩=>?_,fun ⟨h5,e5⟩=>?_⟩
  ·have hm0:m=vr [] []:=by
    unfold uf at hm
    split at hm
    ·exact absurd (congrArg Prod.snd hm).symm e5
    ·exact (congrArg Prod.fst hm).symm
   simp only [↓wR,RA,simprocAttr,TF,ae,h5,hm0]
  ·have e6:e=0:=by omega
   subst e6
   obtain ⟨m1,m2,m3,m4,m5⟩:=hmm m hm
   have hzm:db m:=by unfold db;omega
   have c4:m.ai.length<1048576:=by omega
   have c5:∀ x ∈ m.ai,x.data.length≤1048576:=fun x q=>by
    rcases m4 x q with r|r|⟨y,hy,r⟩
    ·omega
    ·omega
    ·have:=hfl.2 y hy;omega
   have hb6:((m.ai.length:Int) == (z.ai.length:Int)+1)=true:=by simp only [beq_iff_eq];omega
   have hzz:vr z.origin z.ai=z:=by cases z;rfl
   simp only [↓wR,RA,simprocAttr,TF,ae,h5,xg,hzm,hs.owner,c4,eq_true c5,m5,hb6,vh,hz,hzz,Ap];repeat (simp (disch:=omega) only [ah,be,bf,bd,bg];try simp only [↓wR,RA,simprocAttr,TF,ae,h5,xg,hzm,hs.owner,c4,eq_true c5,m5,hb6,vh,hz,hzz,Ap])
end Go.Proofs.YtldcaajoheeipaaGreat
end
section
namespace Go.Proofs.YtldcaajoheeipaaGreat
open Go.Vm
set_option maxRecDepth 2000000
noncomputable section
def muP {α β:Type} (μ : α→Nat) (ν : β→Nat) (p : α × β):Nat:=μ p.1 + ν p.2
def Ay {α:Type} (μ : α→Nat) (l:List α):Nat:=r9 μ l+1
def Qe {α:Type} (_ : α):Nat:=1
def muI {α β:Type} (f : β → α) (μ : α→Nat) (y : β):Nat:=μ (f y)+1
def T2 (P:Program) (t:TypeId):List Field:=match P.underlying t with|some (.struct fs)=>fs.toList|_=>[]
def arp (l:List Field):Nat:=match l with|f::_=>f.offset | []=>0
def tyH (l:List Field):TypeId:=match l with|f::_=>f.type | []=>0
def aov (l:List Field):Bool:=match l with|_::_=>true | []=>false
def auf (l:List Field):Bool:=match l with | [_]=>true|_=>false
theorem N4 {P:Program} {l:List Field} {off:Nat} {t:TypeId} {α:Type} {C:cr α} {μ : α→Nat} (hl:auf l=true) (ho:arp l=off) (ht:tyH l=t) (hs:P.cellsOf t=C.sz) (h:Rd P t C μ):Ur P l off C μ:=by
 match l,hl with
 | [f],_=>subst ht;exact fun {H}=>aqo ho hs h
theorem sb {P:Program} {l:List Field} {off:Nat} {t:TypeId} {α β:Type} {A:cr α} {B:cr β} {μ : α→Nat} {ν : β→Nat} (hl:aov l=true) (ho:arp l=off) (ht:tyH l=t) (hs:P.cellsOf t=A.sz) (h:Rd P t A μ) (hr:Ur P l.tail (off+A.sz) B ν):Ur P l off (oe A B) (muP μ ν):=by
 match l,hl with
 |f::fs,_=>subst ht;exact fun {H}=>am1 ho hs h hr
theorem Gq {P:Program} {t:TypeId} {α β:Type} {C:cr α} {μ : α→Nat} {f : β → α} {i : α → β} {h1:∀ y,i (f y)=y} {h2:∀ x,f (i x)=x} (ht:aov (T2 P t)=true) (hc:P.cellsOf t=C.sz) (h:Ur P (T2 P t) 0 C μ):Rd P t (Dj C f i h1 h2) (muI f μ):=by
 unfold T2 at ht h
 cases hu:P.underlying t with
 |none=>rw [hu] at ht;cases ht
 |some d=>
  rw [hu] at ht h
  cases d with
  |struct fs=>exact fun {H}=>asq (amk hu hc h)
  |_=>cases ht
theorem wv {P:Program} {t e:TypeId} {α:Type} {C:cr α} {μ : α→Nat} (ht:P.underlying t=some (.slice e)) (hsz:P.cellsOf e=C.sz) (hpos : 0<C.sz) (he:Rd P e C μ):Rd P t (cj C) (Ay μ):=aqn ht hsz hpos he
def Ln (s:ByteArray):Nat:=s.size+1
theorem rdS:Rd PP 9 ak Ln:=asr (by kernel_rfl)
def qq:Name→Nat:=Ay Ln
theorem Zf:Rd PP 23 aw qq:=wv (e:=9) (by kernel_rfl) (by kernel_rfl) (by decide) rdS
theorem ap0:Rd PP 22 aw qq:=wv (e:=9) (by kernel_rfl) (by kernel_rfl) (by decide) rdS
theorem aqc:Rd PP 67 (cj aw) (Ay qq):=wv (e:=23) (by kernel_rfl) (by kernel_rfl) (by decide) Zf
theorem arw:Rd PP 68 (cj c0) (Ay Qe):=wv (e:=30) (by kernel_rfl) (by kernel_rfl) (by decide) (alh (by kernel_rfl))
theorem ato:Rd PP 69 (cj bu) (Ay Qe):=wv (e:=5) (by kernel_rfl) (by kernel_rfl) (by decide) (as5 (by kernel_rfl))
def Fw (d:bq):Nat:=Ay qq d.names+(Ay Qe d.nums+(qq d.texts+Ay Qe d.raw))+1
theorem asv:Rd PP 71 aq Fw:=
 Gq (by kernel_rfl) (by kernel_rfl) (sb (by kernel_rfl) (by kernel_rfl) (by kernel_rfl) (by kernel_rfl) aqc (sb (by kernel_rfl) (by kernel_rfl) (by kernel_rfl) (by kernel_rfl) arw (sb (by kernel_rfl) (by kernel_rfl) (by kernel_rfl) (by kernel_rfl) ap0 (N4 (by kernel_rfl) (by kernel_rfl) (by kernel_rfl) (by kernel_rfl) ato))))
theorem ap4:Rd PP 31 (cj aq) (Ay Fw):=wv (e:=71) (by kernel_rfl) (by kernel_rfl) (by decide) asv
theorem ar3:Rd PP 28 cw Qe:=amb (by kernel_rfl)
theorem aql:Rd PP 29 cw Qe:=amb (by kernel_rfl)
theorem ate:Rd PP 30 c0 Qe:=alh (by kernel_rfl)
def He (s:ba):Nat:=qq s.owner+(1+(1+(1+Ay Fw s.data)))+1
theorem apq:Rd PP 33 aj He:=
 Gq (by kernel_rfl) (by kernel_rfl) (sb (by kernel_rfl) (by kernel_rfl) (by kernel_rfl) (by kernel_rfl) Zf (sb (by kernel_rfl) (by kernel_rfl) (by kernel_rfl) (by kernel_rfl) ar3 (sb (by kernel_rfl) (by kernel_rfl) (by kernel_rfl) (by kernel_rfl) aql (sb (by kernel_rfl) (by kernel_rfl) (by kernel_rfl) (by kernel_rfl) ate (N4 (by kernel_rfl) (by kernel_rfl) (by kernel_rfl) (by kernel_rfl) ap4)))))
theorem as1:Rd PP 24 (cj aj) (Ay He):=wv (e:=33) (by kernel_rfl) (by kernel_rfl) (by decide) apq
def Rb (z:ca):Nat:=qq z.origin+Ay He z.ai+1
theorem asf:Rd PP 26 c7 Rb:=
 Gq (by kernel_rfl) (by kernel_rfl) (sb (by kernel_rfl) (by kernel_rfl) (by kernel_rfl) (by kernel_rfl) Zf (N4 (by kernel_rfl) (by kernel_rfl) (by kernel_rfl) (by kernel_rfl) as1))
theorem Tb (n:Name):b7 n=qq n:=by
 suffices h:∀ (n:Name) (k:Nat),n.foldl (fun k s=>k+(s.size+1)) k=k+r9 Ln n by
  have:=h n 1;simp only [b7,qq,Ay];omega
 intro n
 induction n with
 |nil=>intro k;rfl
 |cons a n ih=>intro k;rw [List.foldl_cons,ih];simp only [r9,Ln];omega
theorem Lg {α:Type} {f μ : α→Nat} {c:Nat} {l:List α} (h:∀ x,f x+1≤c * μ x):gz f l≤c * r9 μ l:=by
 induction l with
 |nil=>simp [gz,r9]
 |cons a l ih=>
  have:=h a
  simp only [gz,List.foldr_cons,r9,Nat.mul_add] at ih ⊢
  omega
theorem af1 {α:Type} (l:List α):r9 Qe l=l.length:=by
 induction l with
 |nil=>rfl
 |cons a l ih=>simp only [r9,ih,Qe,List.length_cons];omega
theorem aq7 (d:bq):A7 d+1≤3 * Fw d:=by
 have h1:=Lg (f:=b7) (μ:=qq) (c:=2) (l:=d.names) (fun n=>by rw [Tb];simp only [qq,Ay];omega)
 have h2:=Lg (f:=ByteArray.size) (μ:=Ln) (c:=1) (l:=d.texts) (fun n=>by unfold Ln;omega)
 have h3:=af1 d.nums
 have h4:=af1 d.raw
 simp only [A7,Fw,qq,Ay] at *
 omega
theorem alb (s:ba):j7 s+1≤4 * He s:=by
 have h1:=Lg (f:=A7) (μ:=Fw) (c:=3) (l:=s.data) aq7
 have h2:=Tb s.owner
 simp only [j7,He,qq,Ay] at *
 omega
theorem apy (z:ca):xo z≤4 * Rb z:=by
 have h1:=Lg (f:=j7) (μ:=He) (c:=4) (l:=z.ai) alb
 have h2:=Tb z.origin
 simp only [xo,Rb,qq,Ay] at *
 omega
end
end Go.Proofs.YtldcaajoheeipaaGreat
end
