/- Proved: where the arguments are together of bulk at most 1048576, the law SetTurned returns true (sets hang on no order of records), and what it was given reads afterwards as it did before. No other conditions. -/
import Derived.WalkKit
import Derived.CallsIn
import Derived.RangeFuncIn
import Derived.RangeFuncLeaves
import Derived.Orders
import Derived.OrdersIn
import Derived.Scope
import Derived.RangeFuncOwn
import Derived.Stop.SameAnswer
import Derived.Laws.Externs
import Derived.Lib.Bytealg
import Derived.ProofKit
import Derived.OpenShut
import Derived.ReadAgain
import Derived.Deep.Slices
import Derived.ChangeSame
import Derived.Test.YtifjogffkafalaaProg
import Derived.KernelRfl
import Derived.Test.YtifjogffkafalaaRows
import Derived.Maps.RangeRun
import Derived.JoinedCond
import Derived.Test.YtifjogffkafalaaV4
set_option linter.unusedSimpArgs false
set_option linter.unusedVariables false
section
namespace Go.Proofs.Ytifjogffkafalaa
open Go.Vm
set_option maxRecDepth 2000000
theorem A1 (N a b n:Nat) (A P M Q Z:List ba) (hN:N=(A++P++M++Q++Z).length) (hs:N≤1048576) (ha:a=A.length) (hp:n=P.length) (hq:n=Q.length) (hb:b=a+n+M.length) :
 g9 PP 81 [.sl 0 0 N 5,.sc (.int .i64 (a)),.sc (.int .i64 (b)),.sc (.int .i64 (n)),(.sc (.func (.func 23) #[] #[]))] (az [some (.row (cellsOf bb true ((A++P++M++Q++Z))) 0 0 48)])
  (fun r st'=>r = .gu []∧st'=az [some (.row (cellsOf bb true ((A++Q++M++P++Z))) 0 0 48)]):=by
 have hc:∀ a b c d,de a b c=d→de a b c=d:=fun _ _ _ _ h=>h
 have hlen:N=A.length+P.length+M.length+Q.length+Z.length:=by rw [hN];simp;omega
 refine ke _ rfl ?_ (fun r st' h=>h)
 refine dp (T:=[]) (aq.nil PP) mixed Try.func81 rfl (by kernel_rfl) (by kernel_rfl) (by kernel_rfl) (by kernel_rfl) ?_;unfold Try.f81
 simp only [↓wR,RA,simprocAttr,TF,ag]
 refine ff [0,1,2,3,10] (fun (i:Nat)=>[.sl 0 0 N 5,.sc (.int .i64 (a)),.sc (.int .i64 (b)),.sc (.int .i64 (n)),.sc (.int .i64 (i))]) (fun i=>[some (.row (cellsOf bb true ((A++Q.take i++P.drop i++M++P.take i++Q.drop i++Z))) 0 0 48)]) (fun i=>i≤n) (fun i=>n - i) 0 (Nat.zero_le _) (by simp only [↓wR,RA,simprocAttr,TF,ag]<;>simp) (by simp only [↓wR,RA,simprocAttr,TF,ag]<;>simp) ?_
 intro i hi
 simp only [↓wR,RA,simprocAttr,TF,ag]
 rw [bz];refine ⟨fun h=>?_,fun h=>?_⟩
 ·have hlt:i<n:=by omega
  obtain ⟨p,hpp⟩:∃ p,P[i]? = some p:=⟨_,List.getElem?_eq_getElem (by omega)⟩
  obtain ⟨q,hqq⟩:∃ q,Q[i]? = some q:=⟨_,List.getElem?_eq_getElem (by omega)⟩
  obtain ⟨X,hX⟩:∃ X,X=A++Q.take i:=⟨_,rfl⟩
  obtain ⟨Y,hY⟩:∃ Y,Y=P.drop (i+1)++M++P.take i:=⟨_,rfl⟩
  obtain ⟨W,hW⟩:∃ W,W=Q.drop (i+1)++Z:=⟨_,rfl⟩
  have hx1:X.length=a+i:=by rw [hX,List.length_append,List.length_take];omega
  have hy1:Y.length=n - 1+M.length:=by rw [hY];simp;omega
  have hpd:P.drop i=p::P.drop (i+1):=by obtain ⟨_,rfl⟩:=List.getElem?_eq_some_iff.1 hpp;exact List.drop_eq_getElem_cons _
  have hqd:Q.drop i=q::Q.drop (i+1):=by obtain ⟨_,rfl⟩:=List.getElem?_eq_some_iff.1 hqq;exact List.drop_eq_getElem_cons _
  have hpt:P.take (i+1)=P.take i++[p]:=by rw [List.take_add_one,hpp];rfl
  have hqt:Q.take (i+1)=Q.take i++[q]:=by rw [List.take_add_one,hqq];rfl
  have hcur:A++Q.take i++P.drop i++M++P.take i++Q.drop i++Z=X++p::(Y++q::W):=by rw [hX,hY,hW,hpd,hqd];simp
  have fp:A++Q.take (i+1)++P.drop (i+1)++M++P.take (i+1)++Q.drop (i+1)++Z=X++q::(Y++p::W):=by rw [hX,hY,hW,hpt,hqt];simp
  have hi1:(a:Int)+i=((a+i:Nat):Int):=by omega
  have hi2:(b:Int)+i=((b+i:Nat):Int):=by omega
  have g1:(X++p::(Y++q::W))[a+i]? = some p:=by rw [← hx1];exact get_at X _ p
  have hxy:(X++p::Y).length=b+i:=by rw [List.length_append,List.length_cons,hx1,hy1];omega
  have g2:(X++p::(Y++q::W))[b+i]? = some q:=by
   have:=get_at (X++p::Y) W q
   rw [hxy] at this
   rw [← this];simp
  have s1:(X++p::(Y++q::W)).set (a+i) q=X++q::(Y++q::W):=by rw [← hx1];exact As X _ p q
  have g3:(X++q::(Y++q::W))[b+i]? = some q:=by
   have:=get_at (X++q::Y) W q
   rw [show (X++q::Y).length=b+i by rw [← hxy];simp] at this
   rw [← this];simp
  have s2:(X++q::(Y++q::W)).set (b+i) p=X++q::(Y++p::W):=by
   have:=As (X++q::Y) W q p
   rw [show (X++q::Y).length=b+i by rw [← hxy];simp] at this
   simpa using this
  have l1:=ko 0 0 48 g1
  have l2:=ko 0 0 48 g2
  have t1:=sa q 0 48 0 g1
  have t2:=sa p 0 48 0 g3
  rw [s1] at t1
  rw [s2] at t2
  rw [hcur]
  simp only [↓wR,RA,simprocAttr,TF,ag,h,hi1,hi2,↓l1,↓l2,↓t1,↓t2];repeat (simp (disch:=omega) only [ah,cb,cd,cg,cf];try simp only [↓wR,RA,simprocAttr,TF,ag,h,hi1,hi2,↓l1,↓l2,↓t1,↓t2])
  refine ⟨by kernel_rfl,.inl ?_⟩
  exact ⟨by apply hc;kernel_rfl,i+1,hlt,by omega,by (first|rfl|trivial|omega|((try (simp (disch:=omega) only [ah]));(try (simp only [FB]));first|done|rfl|omega)),by rw [fp]⟩
 ·have hin:i=n:=by omega
  subst hin
  have e1:Q.take i=Q:=by rw [hq,List.take_length]
  have e2:P.drop i=[]:=by rw [hp,List.drop_length]
  have e3:P.take i=P:=by rw [hp,List.take_length]
  have e4:Q.drop i=[]:=by rw [hq,List.drop_length]
  rw [e1,e2,e3,e4]
  simp only [↓wR,RA,simprocAttr,TF,ag,h,xi,uo,sf,List.append_nil]
theorem aa6 (N a m b:Nat) (A L R Z:List ba) (hN:N=(A++L++R++Z).length) (hs:N≤1048576) (ha:a=A.length) (hm:m=a+L.length) (hb:b=m+R.length) (hl : 0<L.length) (hr : 0<R.length) :
 g9 PP 77 [.sl 0 0 N 5,.sc (.int .i64 (a)),.sc (.int .i64 (m)),.sc (.int .i64 (b)),(.sc (.func (.func 23) #[] #[]))] (az [some (.row (cellsOf bb true ((A++L++R++Z))) 0 0 48)])
  (fun r st'=>r = .gu []∧st'=az [some (.row (cellsOf bb true ((A++R++L++Z))) 0 0 48)]):=by
 have hlen:N=A.length+L.length+R.length+Z.length:=by rw [hN];simp;omega
 refine ke _ rfl ?_ (fun r st' h=>h)
 refine dp (T:=[]) (aq.nil PP) mixed Try.func77 rfl (by kernel_rfl) (by kernel_rfl) (by kernel_rfl) (by kernel_rfl) ?_;unfold Try.f77
 have hi1:(m:Int) - a=((L.length:Nat):Int):=by omega
 have hi2:(b:Int) - m=((R.length:Nat):Int):=by omega
 simp only [↓wR,RA,simprocAttr,TF,ag,hi1,hi2];repeat (simp (disch:=omega) only [ah,cb,cd,cg,cf];try simp only [↓wR,RA,simprocAttr,TF,ag,hi1,hi2])
 refine ff [0,2,4,10,11] (fun (x:List ba × List ba × List ba × List ba)=>[.sl 0 0 N 5,.sc (.int .i64 (m)),(.sc (.func (.func 23) #[] #[])),.sc (.int .i64 (x.2.1.length)),.sc (.int .i64 (x.2.2.1.length))]) (fun x=>[some (.row (cellsOf bb true ((x.1++x.2.1++x.2.2.1++x.2.2.2))) 0 0 48)]) (fun x=>x.1++x.2.2.1++x.2.1++x.2.2.2=A++R++L++Z∧x.1.length+x.2.1.length=m∧0<x.2.1.length∧0<x.2.2.1.length) (fun x=>x.2.1.length+x.2.2.1.length) (A,L,R,Z) ⟨rfl,by show A.length+L.length=m;omega,hl,hr⟩ (by simp only [↓wR,RA,simprocAttr,TF,ag]<;>rfl) (by simp only [↓wR,RA,simprocAttr,TF,ag]<;>rfl) ?_
 rintro ⟨A',P,Q,Z'⟩ ⟨h1,h2,h3,h4⟩
 have h5:=congrArg List.length h1
 simp only [List.length_append] at h1 h2 h3 h4 h5
 simp only []
 simp only [↓wR,RA,simprocAttr,TF,ag]
 rw [pc];refine ⟨fun ⟨h,e⟩=>?_,fun ⟨h,e⟩=>?_⟩
 ·have hne:P.length≠Q.length:=by omega
  simp only [↓wR,RA,simprocAttr,TF,ag,h]
  have hi3:(m:Int) - P.length=((A'.length:Nat):Int):=by omega
  rw [bz];refine ⟨fun hg=>?_,fun hg=>?_⟩
  ·have hlt:Q.length<P.length:=by omega
   obtain ⟨P1,hP1⟩:∃ P1,P1=P.take Q.length:=⟨_,rfl⟩
   obtain ⟨P2,hP2⟩:∃ P2,P2=P.drop Q.length:=⟨_,rfl⟩
   have hp:P=P1++P2:=by rw [hP1,hP2,List.take_append_drop]
   have hl1:P1.length=Q.length:=by rw [hP1,List.length_take];omega
   have hl2:P2.length=P.length - Q.length:=by rw [hP2,List.length_drop]
   have hi4:(P.length:Int) - Q.length=((P2.length:Nat):Int):=by omega
   simp only [↓wR,RA,simprocAttr,TF,ag,hg,hi3];repeat (simp (disch:=omega) only [ah,cb,cd,cg,cf];try simp only [↓wR,RA,simprocAttr,TF,ag,hg,hi3])
   refine iu (R0:=fun r st'=>r = .gu []∧st'=az [some (.row (cellsOf bb true ((A'++Q++P2++P1++Z'))) 0 0 48)]) ?_ ?_
   ·have:=A1 N A'.length m Q.length A' P1 P2 Q Z' (by simp only [List.length_append];omega) hs rfl hl1.symm rfl (by omega)
    rw [show A'++P++Q++Z'=A'++P1++P2++Q++Z' by rw [hp];simp]
    exact this
   ·rintro _ _ ⟨rfl,rfl⟩
    simp only [↓wR,RA,simprocAttr,TF,ag,gj,hi4];repeat (simp (disch:=omega) only [ah,cb,cd,cg,cf];try simp only [↓wR,RA,simprocAttr,TF,ag,gj,hi4])
    refine ⟨(A'++Q,P2,P1,Z'),⟨?_,?_,?_,?_⟩,?_,?_,?_⟩
    ·rw [← h1,hp];simp
    ·simp only [List.length_append];omega
    ·show 0<P2.length;omega
    ·show 0<P1.length;omega
    ·show P2.length+P1.length<P.length+Q.length;omega
    ·rw [hl1]
    ·simp only [List.append_assoc]
  ·have hlt:P.length<Q.length:=by omega
   obtain ⟨Q1,hQ1⟩:∃ Q1,Q1=Q.take (Q.length - P.length):=⟨_,rfl⟩
   obtain ⟨Q2,hQ2⟩:∃ Q2,Q2=Q.drop (Q.length - P.length):=⟨_,rfl⟩
   have hp:Q=Q1++Q2:=by rw [hQ1,hQ2,List.take_append_drop]
   have hl1:Q1.length=Q.length - P.length:=by rw [hQ1,List.length_take];omega
   have hl2:Q2.length=P.length:=by rw [hQ2,List.length_drop];omega
   have hi4:(Q.length:Int) - P.length=((Q1.length:Nat):Int):=by omega
   have hi5:(m:Int)+Q.length - P.length=((m+Q1.length:Nat):Int):=by omega
   simp only [↓wR,RA,simprocAttr,TF,ag,hg,hi3,hi5];repeat (simp (disch:=omega) only [ah,cb,cd,cg,cf];try simp only [↓wR,RA,simprocAttr,TF,ag,hg,hi3,hi5])
   refine iu (R0:=fun r st'=>r = .gu []∧st'=az [some (.row (cellsOf bb true ((A'++Q2++Q1++P++Z'))) 0 0 48)]) ?_ ?_
   ·have:=A1 N A'.length (m+Q1.length) P.length A' P Q1 Q2 Z' (by simp only [List.length_append];omega) hs rfl rfl hl2.symm (by omega)
    rw [show A'++P++Q++Z'=A'++P++Q1++Q2++Z' by rw [hp];simp]
    exact this
   ·rintro _ _ ⟨rfl,rfl⟩
    simp only [↓wR,RA,simprocAttr,TF,ag,gj,hi4];repeat (simp (disch:=omega) only [ah,cb,cd,cg,cf];try simp only [↓wR,RA,simprocAttr,TF,ag,gj,hi4])
    refine ⟨(A',Q2,Q1,P++Z'),⟨?_,?_,?_,?_⟩,?_,?_,?_⟩
    ·rw [← h1,hp];simp
    ·show A'.length+Q2.length=m;omega
    ·show 0<Q2.length;omega
    ·show 0<Q1.length;omega
    ·show Q2.length+Q1.length<P.length+Q.length;omega
    ·rw [hl2]
    ·simp only [List.append_assoc]
 ·have hne:P.length=Q.length:=by omega
  simp only [↓wR,RA,simprocAttr,TF,ag,h]
  have hi3:(m:Int) - P.length=((A'.length:Nat):Int):=by omega
  simp only [↓wR,RA,simprocAttr,TF,ag,hi3];repeat (simp (disch:=omega) only [ah,cb,cd,cg,cf];try simp only [↓wR,RA,simprocAttr,TF,ag,hi3])
  refine iu (R0:=fun r st'=>r = .gu []∧st'=az [some (.row (cellsOf bb true ((A++R++L++Z))) 0 0 48)]) ?_ ?_
  ·have:=A1 N A'.length m P.length A' P [] Q Z' (by simp only [List.length_append,List.length_nil];omega) hs rfl rfl hne (by simp only [List.length_nil];omega)
   rw [List.append_nil,List.append_nil,List.append_assoc (A'++Q),← List.append_assoc (A'++Q),h1] at this
   exact this
  ·rintro _ _ ⟨rfl,rfl⟩
   simp only [↓wR,RA,simprocAttr,TF,ag,gj,xi,uo,sf]
theorem Jp (N a b:Nat) (A L Z:List ba) (hN:N=(A++L++Z).length) (hs:N≤1048576) (ha:a=A.length) (hb:b=a+L.length) (hV:∀ x ∈ L,dk x) :
 g9 PP 66 [.sl 0 0 N 5,.sc (.int .i64 (a)),.sc (.int .i64 (b)),(.sc (.func (.func 23) #[] #[]))] (az [some (.row (cellsOf bb true ((A++L++Z))) 0 0 48)])
  (fun r st'=>r = .gu []∧st'=az [some (.row (cellsOf bb true ((A++dh c8 L++Z))) 0 0 48)]):=by
 have hc:∀ a b c d,de a b c=d→de a b c=d:=fun _ _ _ _ h=>h
 have hlen:N=A.length+L.length+Z.length:=by rw [hN];simp;omega
 refine ke _ rfl ?_ (fun r st' h=>h)
 refine dp (T:=[Zo]) (aq.cons (aw Hf) (aq.nil PP)) mixed Try.func66 rfl (by kernel_rfl) (by kernel_rfl) (by kernel_rfl) (by kernel_rfl) ?_;unfold Try.f66
 simp only [↓wR,RA,simprocAttr,TF,ag]
 refine ff [0,1,2,3,8] (fun (i:Nat)=>[.sl 0 0 N 5,.sc (.int .i64 (a)),.sc (.int .i64 (b)),(.sc (.func (.func 23) #[] #[])),.sc (.int .i64 (i))]) (fun i=>[some (.row (cellsOf bb true ((A++dh c8 (L.take (i - a))++L.drop (i - a)++Z))) 0 0 48)]) (fun i=>a<i∧(i≤b∨i=a+1)) (fun i=>b - i) (a+1) ⟨by omega,.inr rfl⟩ (by simp only [↓wR,RA,simprocAttr,TF,ag];repeat (simp (disch:=omega) only [ah,cb,cd,cg,cf];try simp only [↓wR,RA,simprocAttr,TF,ag])<;>rfl) (by
  simp only [↓wR,RA,simprocAttr,TF,ag]
  cases L with
  |nil=>simp [dh]
  |cons x l=>simp [dh,mu]) ?_
 rintro i ⟨hi0,hi⟩
 simp only [↓wR,RA,simprocAttr,TF,ag]
 rw [bz];refine ⟨fun h=>?_,fun h=>?_⟩
 ·have hlt:i<b:=by omega
  obtain ⟨x,hx⟩:∃ x,L[i - a]? = some x:=⟨_,List.getElem?_eq_getElem (by omega)⟩
  have hxV:=hV x (List.mem_of_getElem? hx)
  obtain ⟨sp,hse⟩:∃ sp,sp=dh c8 (L.take (i - a)):=⟨_,rfl⟩
  have hsl:sp.length=i - a:=by rw [hse,gp,List.length_take];omega
  have hsV:∀ y ∈ sp,dk y:=fun y hy=>hV y (List.mem_of_mem_take (fv.1 (by rw [← hse];exact hy)))
  have hsR:jc c8 sp:=by rw [hse];exact tn ng _ (fun y hy=>hV y (List.mem_of_mem_take hy))
  have hnext:dh c8 (L.take (i+1 - a))=mu c8 x sp:=by rw [show i+1 - a=i - a+1 by omega,j7 hx,x8,← hse]
  obtain ⟨W,hW⟩:∃ W,W=L.drop (i+1 - a)++Z:=⟨_,rfl⟩
  have hcur:A++dh c8 (L.take (i - a))++L.drop (i - a)++Z=A++sp++x::W:=by rw [← hse,uw hx,hW,show i+1 - a=i - a+1 by omega];simp
  rw [hcur]
  simp only [↓wR,RA,simprocAttr,TF,ag,h]
  refine ff [0,1,2,3,8,9] (fun (j:Nat)=>[.sl 0 0 N 5,.sc (.int .i64 (a)),.sc (.int .i64 (b)),(.sc (.func (.func 23) #[] #[])),.sc (.int .i64 (i)),.sc (.int .i64 (j))]) (fun j=>[some (.row (cellsOf bb true ((A++sp.take (j - a)++x::(sp.drop (j - a)++W)))) 0 0 48)]) (fun j=>a≤j∧j≤i∧∀ y,sp[j - a]? = some y→c8 x y=true) (fun j=>j - a) i ⟨by omega,Nat.le_refl _,fun y hy=>by rw [List.getElem?_eq_none (by omega)] at hy;cases hy⟩ (by simp only [↓wR,RA,simprocAttr,TF,ag]<;>rfl) (by
   simp only [↓wR,RA,simprocAttr,TF,ag]
   rw [show List.take (i - a) sp=sp from List.take_of_length_le (by omega),show List.drop (i - a) sp=[] from List.drop_eq_nil_of_le (by omega)];simp) ?_
  rintro j ⟨hj0,hj1,hj2⟩
  simp only [↓wR,RA,simprocAttr,TF,ag]
  by_cases hja:a<j
  ·obtain ⟨y,hy⟩:∃ y,sp[j - 1 - a]? = some y:=⟨_,List.getElem?_eq_getElem (by omega)⟩
   have hyV:=hsV y (List.mem_of_getElem? hy)
   have hdg:decide ((j:Int) > (a:Int))=true:=decide_eq_true (by omega)
   have hj3:(j:Int) - 1=((j - 1:Nat):Int):=by omega
   have hjj:j - a=j - 1 - a+1:=by omega
   have hc2:A++sp.take (j - a)++x::(sp.drop (j - a)++W)=A++sp.take (j - 1 - a)++y::(x::(sp.drop (j - a)++W)):=by rw [hjj,j7 hy];simp
   obtain ⟨X,hX⟩:∃ X,X=A++sp.take (j - 1 - a):=⟨_,rfl⟩
   obtain ⟨Y,hY⟩:∃ Y,Y=sp.drop (j - a)++W:=⟨_,rfl⟩
   have hxl:X.length=j - 1:=by rw [hX,List.length_append,List.length_take];omega
   have g1:(X++y::x::Y)[j - 1]? = some y:=by rw [← hxl];exact get_at X _ y
   have g2:(X++y::x::Y)[j]? = some x:=by
    have:=get_at (X++[y]) Y x
    rw [show (X++[y]).length=j by rw [List.length_append,hxl,List.length_singleton];omega] at this
    rw [← this];simp
   have l1:=ko 0 0 48 g1
   have l2:=ko 0 0 48 g2
   rw [hc2,← hX,← hY]
   simp only [↓wR,RA,simprocAttr,TF,ag,hdg,hj3,↓l1,↓l2,ky,hxV,hyV];repeat (simp (disch:=omega) only [ah,cb,cd,cg,cf];try simp only [↓wR,RA,simprocAttr,TF,ag,hdg,hj3,↓l1,↓l2,ky,hxV,hyV])
   refine ⟨by kernel_rfl,.inl ?_⟩
   (try simp only [↓wR,RA,simprocAttr,TF,ag,Cf])
   refine ⟨by apply hc;kernel_rfl,?_⟩
   rw [bz];refine ⟨fun hl=>?_,fun hl=>?_⟩
   ·have hll:c8 x y=true:=decide_eq_true hl
    have s1:(X++y::x::Y).set j y=X++y::y::Y:=by
     have:=As (X++[y]) Y x y
     rw [show (X++[y]).length=j by rw [List.length_append,hxl,List.length_singleton];omega] at this
     simpa using this
    have s2:(X++y::y::Y).set (j - 1) x=X++x::y::Y:=by rw [← hxl];exact As X _ y x
    have g3:(X++y::y::Y)[j - 1]? = some y:=by rw [← hxl];exact get_at X _ y
    have t1:=sa y 0 48 0 g2
    have t2:=sa x 0 48 0 g3
    rw [s1] at t1
    rw [s2] at t2
    simp only [↓wR,RA,simprocAttr,TF,ag,hl,hj3,↓l1,↓l2,↓t1,↓t2];repeat (simp (disch:=omega) only [ah,cb,cd,cg,cf];try simp only [↓wR,RA,simprocAttr,TF,ag,hl,hj3,↓l1,↓l2,↓t1,↓t2])
    refine ⟨by kernel_rfl,.inl ?_⟩
    refine ⟨by apply hc;kernel_rfl,j - 1,⟨by omega,by omega,fun z hz=>?_⟩,by omega,by (first|rfl|trivial|omega|((try (simp (disch:=omega) only [ah]));(try (simp only [FB]));first|done|rfl|omega)),?_⟩
    ·rw [hy] at hz;cases hz;exact hll
    ·rw [hX,hY,hjj,uw hy];simp
   ·have hll:c8 x y=false:=decide_eq_false hl
    have hA:∀ z ∈ sp.take (j - a),c8 x z=false:=by
     refine Ts ng hsV hsR hxV (by omega) (fun c _ hcc=>?_)
     rw [show j - a - 1=j - 1 - a by omega,hy] at hcc;cases hcc;exact hll
    have hins:mu c8 x sp=sp.take (j - a)++x::sp.drop (j - a):=by
     have:=abf (lt:=c8) (x:=x) (sp.take (j - a)) (sp.drop (j - a)) hA (fun z hz=>by rw [List.head?_drop] at hz;exact hj2 z hz)
     rw [List.take_append_drop] at this
     exact this
    simp only [↓wR,RA,simprocAttr,TF,ag,hl];repeat (simp (disch:=omega) only [ah,cb,cd,cg,cf];try simp only [↓wR,RA,simprocAttr,TF,ag,hl])
    refine ⟨i+1,⟨by omega,by omega⟩,by omega,by (first|rfl|trivial|omega|((try (simp (disch:=omega) only [ah]));(try (simp only [FB]));first|done|rfl|omega)),?_⟩
    rw [hnext,hins,hX,hY,hW,hjj,j7 hy];simp
  ·have hja':j=a:=by omega
   subst hja'
   have hins:mu c8 x sp=x::sp:=by
    have:=abf (lt:=c8) (x:=x) [] sp (fun z hz=>by cases hz) (fun z hz=>by rw [Nat.sub_self] at hj2;rw [List.head?_eq_getElem?] at hz;exact hj2 z hz)
    exact this
   have hdg:decide ((j:Int) > (j:Int))=false:=decide_eq_false (by omega)
   simp only [↓wR,RA,simprocAttr,TF,ag,hdg];repeat (simp (disch:=omega) only [ah,cb,cd,cg,cf];try simp only [↓wR,RA,simprocAttr,TF,ag,hdg])
   refine ⟨by kernel_rfl,.inl ?_⟩
   refine ⟨by apply hc;kernel_rfl,i+1,⟨by omega,by omega⟩,by omega,by (first|rfl|trivial|omega|((try (simp (disch:=omega) only [ah]));(try (simp only [FB]));first|done|rfl|omega)),?_⟩
   rw [hnext,hins,hW];simp
 ·have hin:L.length≤i - a:=by omega
  rw [List.take_of_length_le hin,List.drop_eq_nil_of_le hin]
  simp only [↓wR,RA,simprocAttr,TF,ag,h,xi,uo,sf,List.append_nil]
theorem aqr (x:Int) (h0 : 0≤x) (h1:x<9223372036854775808):IntKind.u64.wrap x=x:=by
 simp only [IntKind.wrap,IntKind.bits]
 have h2:x % 18446744073709551616=x:=Int.emod_eq_of_lt h0 (by omega)
 first|(simp [IntKind.signed];omega)|(simp;omega)
theorem half (i j:Nat) (h:i+j≤4611686018427387904):IntKind.i64.wrap ((IntKind.u64.wrap ((i:Int)+j)).fdiv 2)=(((i+j) / 2:Nat):Int):=by
 rw [aqr _ (by omega) (by omega),← Int.natCast_add,asa,ah _ (by omega) (by omega)]
theorem I0 (a b:Nat):decide ((a:Int)<(b:Int))=decide (a<b):=by simp
theorem Zi {p:Prop} [Decidable p]:(!decide p)=decide (¬ p):=by by_cases h:p<;>simp [h]
set_option maxHeartbeats 20000000 in
theorem I6 (d:Nat):∀ (N a m b:Nat) (A L R Z:List ba),b - a≤d→N=(A++L++R++Z).length→N≤1048576→a=A.length→m=a+L.length→b=m+R.length→0<L.length→0<R.length→(∀ x ∈ L,dk x)→(∀ x ∈ R,dk x)→jc c8 L→jc c8 R →
 g9 PP 67 [.sl 0 0 N 5,.sc (.int .i64 (a)),.sc (.int .i64 (m)),.sc (.int .i64 (b)),(.sc (.func (.func 23) #[] #[]))] (az [some (.row (cellsOf bb true ((A++L++R++Z))) 0 0 48)])
  (fun r st'=>r = .gu []∧st'=az [some (.row (cellsOf bb true ((A++fl c8 L R++Z))) 0 0 48)]):=by
 induction d with
 |zero=>intro N a m b A L R Z hd hN hs ha hm hb hl hr;omega
 |succ d ih=>
 intro N a m b A L R Z hd hN hs ha hm hb hl hr hLV hRV hLR hRR
 have hc:∀ a b c d,de a b c=d→de a b c=d:=fun _ _ _ _ h=>h
 have hlen:N=A.length+L.length+R.length+Z.length:=by rw [hN];simp;omega
 refine ke _ rfl ?_ (fun r st' h=>h)
 refine dp (T:=[Zo]) (aq.cons (aw Hf) (aq.nil PP)) mixed Try.func67 rfl (by kernel_rfl) (by kernel_rfl) (by kernel_rfl) (by kernel_rfl) ?_;unfold Try.f67
 have hi1:(m:Int) - a=((L.length:Nat):Int):=by omega
 simp only [↓wR,RA,simprocAttr,TF,ag,hi1];repeat (simp (disch:=omega) only [ah,cb,cd,cg,cf];try simp only [↓wR,RA,simprocAttr,TF,ag,hi1])
 rw [fm];refine ⟨fun ⟨h1,e1⟩=>?_,fun ⟨h1,e1⟩=>?_⟩
 ·have hL1:L.length=1:=by omega
  obtain ⟨x,rfl⟩:∃ x,L=[x]:=List.length_eq_one_iff.1 hL1
  have hxV:=hLV x (by simp)
  have hRb:∀ k c,R[k]? = some c→(A++[x]++R++Z)[m+k]? = some c:=fun k c hk=>by
   have hkl:=(List.getElem?_eq_some_iff.1 hk).1
   rw [List.append_assoc (A++[x]),List.getElem?_append_right (by simp at hm ⊢;omega),show m+k - (A++[x]).length=k by simp at hm ⊢;omega,List.getElem?_append_left hkl,hk]
  have gx:(A++[x]++R++Z)[a]? = some x:=by
   rw [List.append_assoc,List.append_assoc,ha];exact get_at A _ x
  simp only [↓wR,RA,simprocAttr,TF,ag,h1];repeat (simp (disch:=omega) only [ah,cb,cd,cg,cf];try simp only [↓wR,RA,simprocAttr,TF,ag,h1])
  refine ff [0,1,4,10,11] (fun (p:Nat × Nat)=>[.sl 0 0 N 5,.sc (.int .i64 (a)),(.sc (.func (.func 23) #[] #[])),.sc (.int .i64 (p.1)),.sc (.int .i64 (p.2))]) (fun _=>[some (.row (cellsOf bb true ((A++[x]++R++Z))) 0 0 48)]) (fun p=>m≤p.1∧p.1≤p.2∧p.2≤b∧(∀ c,0<p.1 - m→R[p.1 - m - 1]? = some c→c8 c x=true)∧(∀ c,R[p.2 - m]? = some c→c8 c x=false)) (fun p=>p.2 - p.1) (m,b) ⟨Nat.le_refl _,by show m≤b;omega,Nat.le_refl _,fun c hq=>by simp at hq,fun c hq=>by rw [List.getElem?_eq_none (by show R.length≤b - m;omega)] at hq;cases hq⟩ (by simp only [↓wR,RA,simprocAttr,TF,ag]<;>rfl) (by simp only [↓wR,RA,simprocAttr,TF,ag]<;>rfl) ?_
  rintro ⟨i,j⟩ ⟨p1,p2,p3,p4,p5⟩
  simp only [] at p1 p2 p3 p4 p5 ⊢
  simp only [↓wR,RA,simprocAttr,TF,ag]
  rw [bz];refine ⟨fun h=>?_,fun h=>?_⟩
  ·have hlt:i<j:=by omega
   obtain ⟨u,hu⟩:∃ u,u=(i+j) / 2:=⟨_,rfl⟩
   have hub:i≤u∧u<j:=by omega
   have hhalf:=half i j (by omega)
   rw [← hu] at hhalf
   obtain ⟨y,hy⟩:∃ y,R[u - m]? = some y:=⟨_,List.getElem?_eq_getElem (by omega)⟩
   have hyV:=hRV y (List.mem_of_getElem? hy)
   have gy:=hRb _ _ hy
   rw [show m+(u - m)=u by omega] at gy
   have l1:=ko 0 0 48 gx
   have l2:=ko 0 0 48 gy
   simp only [↓wR,RA,simprocAttr,TF,ag,h,hhalf,↓l1,↓l2,ky,hxV,hyV];repeat (simp (disch:=omega) only [ah,cb,cd,cg,cf];try simp only [↓wR,RA,simprocAttr,TF,ag,h,hhalf,↓l1,↓l2,ky,hxV,hyV])
   refine ⟨by kernel_rfl,.inl ?_⟩
   (try simp only [↓wR,RA,simprocAttr,TF,ag,Cf])
   refine ⟨by apply hc;kernel_rfl,?_⟩
   rw [bz];refine ⟨fun hl=>?_,fun hl=>?_⟩
   ·have hll:c8 y x=true:=decide_eq_true hl
    simp only [↓wR,RA,simprocAttr,TF,ag,hl];repeat (simp (disch:=omega) only [ah,cb,cd,cg,cf];try simp only [↓wR,RA,simprocAttr,TF,ag,hl])
    exact ⟨(u+1,j),⟨by show m≤u+1;omega,by show u+1≤j;omega,p3,fun c _ hcc=>by
     have hcc':R[u+1 - m - 1]? = some c:=hcc
     rw [show u+1 - m - 1=u - m by omega,hy] at hcc';cases hcc';exact hll,p5⟩,by show j - (u+1)<j - i;omega,by (first|rfl|trivial|omega|((try (simp (disch:=omega) only [ah]));(try (simp only [FB]));first|done|rfl|omega))⟩
   ·have hll:c8 y x=false:=decide_eq_false hl
    simp only [↓wR,RA,simprocAttr,TF,ag,hl];repeat (simp (disch:=omega) only [ah,cb,cd,cg,cf];try simp only [↓wR,RA,simprocAttr,TF,ag,hl])
    exact ⟨(i,u),⟨p1,by show i≤u;omega,by show u≤b;omega,p4,fun c hcc=>by
     have hcc':R[u - m]? = some c:=hcc
     rw [hy] at hcc';cases hcc';exact hll⟩,by show u - i<j - i;omega,by (first|rfl|trivial|omega|((try (simp (disch:=omega) only [ah]));(try (simp only [FB]));first|done|rfl|omega))⟩
  ·have hij:j=i:=by omega
   subst hij
   have hmo:=aiy (lt:=c8) (x:=x) (l:=R) (i:=j - m) (ajl ng hRV hRR hxV (by omega) p4) p5
   obtain ⟨R1,hR1⟩:∃ R1,R1=R.take (j - m):=⟨_,rfl⟩
   obtain ⟨R2,hR2⟩:∃ R2,R2=R.drop (j - m):=⟨_,rfl⟩
   have hRe:R=R1++R2:=by rw [hR1,hR2,List.take_append_drop]
   have hR1l:R1.length=j - m:=by rw [hR1,List.length_take];omega
   rw [← hR1,← hR2] at hmo
   rw [hmo]
   simp only [↓wR,RA,simprocAttr,TF,ag,h]
   refine ff [0,10,13] (fun (k:Nat)=>[.sl 0 0 N 5,.sc (.int .i64 (j)),.sc (.int .i64 (k))]) (fun k=>[some (.row (cellsOf bb true ((A++R1.take (k - a)++x::(R1.drop (k - a)++R2++Z)))) 0 0 48)]) (fun k=>a≤k∧k+1≤j) (fun k=>j - k) a ⟨Nat.le_refl _,by omega⟩ (by simp only [↓wR,RA,simprocAttr,TF,ag]<;>rfl) (by simp only [↓wR,RA,simprocAttr,TF,ag];rw [hRe];simp) ?_
   rintro k ⟨k1,k2⟩
   simp only [↓wR,RA,simprocAttr,TF,ag];repeat (simp (disch:=omega) only [ah,cb,cd,cg,cf];try simp only [↓wR,RA,simprocAttr,TF,ag])
   rw [bz];refine ⟨fun hk=>?_,fun hk=>?_⟩
   ·have hkl:k+1<j:=by omega
    obtain ⟨y,hy⟩:∃ y,R1[k - a]? = some y:=⟨_,List.getElem?_eq_getElem (by omega)⟩
    obtain ⟨X,hX⟩:∃ X,X=A++R1.take (k - a):=⟨_,rfl⟩
    obtain ⟨W,hW⟩:∃ W,W=R1.drop (k - a+1)++R2++Z:=⟨_,rfl⟩
    have hxl:X.length=k:=by rw [hX,List.length_append,List.length_take];omega
    have hcur:A++R1.take (k - a)++x::(R1.drop (k - a)++R2++Z)=X++x::y::W:=by rw [hX,hW,uw hy];simp
    have fp:A++R1.take (k+1 - a)++x::(R1.drop (k+1 - a)++R2++Z)=X++y::x::W:=by rw [hX,hW,show k+1 - a=k - a+1 by omega,j7 hy];simp
    have g1:(X++x::y::W)[k]? = some x:=by rw [← hxl];exact get_at X _ x
    have hx1:(X++[x]).length=k+1:=by rw [List.length_append,hxl];rfl
    have hy1:(X++[y]).length=k+1:=by rw [List.length_append,hxl];rfl
    have g2:(X++x::y::W)[k+1]? = some y:=by
     have:=get_at (X++[x]) W y
     rw [hx1] at this
     rw [← this];simp
    have s1:(X++x::y::W).set k y=X++y::y::W:=by rw [← hxl];exact As X _ x y
    have g3:(X++y::y::W)[k+1]? = some y:=by
     have:=get_at (X++[y]) W y
     rw [hy1] at this
     rw [← this];simp
    have s2:(X++y::y::W).set (k+1) x=X++y::x::W:=by
     have:=As (X++[y]) W y x
     rw [hy1] at this
     simpa using this
    have l1:=ko 0 0 48 g1
    have l2:=ko 0 0 48 g2
    have t1:=sa y 0 48 0 g1
    have t2:=sa x 0 48 0 g3
    rw [s1] at t1
    rw [s2] at t2
    have hk1:(k:Int)+1=((k+1:Nat):Int):=by omega
    rw [hcur]
    simp only [↓wR,RA,simprocAttr,TF,ag,hk,hk1,↓l1,↓l2,↓t1,↓t2];repeat (simp (disch:=omega) only [ah,cb,cd,cg,cf];try simp only [↓wR,RA,simprocAttr,TF,ag,hk,hk1,↓l1,↓l2,↓t1,↓t2])
    refine ⟨by kernel_rfl,.inl ?_⟩
    exact ⟨by apply hc;kernel_rfl,k+1,⟨by omega,by omega⟩,by omega,by (first|rfl|trivial|omega|((try (simp (disch:=omega) only [ah]));(try (simp only [FB]));first|done|rfl|omega)),by rw [fp]⟩
   ·have hkj:k - a=R1.length:=by omega
    rw [hkj,List.take_length,List.drop_length]
    simp only [↓wR,RA,simprocAttr,TF,ag,hk,xi,uo,sf,List.append_nil]
    simp
 ·have hL1:L.length≠1:=by omega
  have hi2:(b:Int) - m=((R.length:Nat):Int):=by omega
  simp only [↓wR,RA,simprocAttr,TF,ag,h1,hi2];repeat (simp (disch:=omega) only [ah,cb,cd,cg,cf];try simp only [↓wR,RA,simprocAttr,TF,ag,h1,hi2])
  rw [fm];refine ⟨fun ⟨h2,e2⟩=>?_,fun ⟨h2,e2⟩=>?_⟩
  ·have hR1:R.length=1:=by omega
   obtain ⟨y,rfl⟩:∃ y,R=[y]:=List.length_eq_one_iff.1 hR1
   have hyV:=hRV y (by simp)
   have hLb:∀ k c,L[k]? = some c→(A++L++[y]++Z)[a+k]? = some c:=fun k c hk=>by
    have hkl:=(List.getElem?_eq_some_iff.1 hk).1
    rw [List.append_assoc,List.append_assoc,List.getElem?_append_right (by omega),show a+k - A.length=k by omega,List.getElem?_append_left hkl,hk]
   have gy:(A++L++[y]++Z)[m]? = some y:=by
    rw [List.append_assoc,show m=(A++L).length by rw [List.length_append];omega];exact get_at (A++L) _ y
   simp only [↓wR,RA,simprocAttr,TF,ag,h2];repeat (simp (disch:=omega) only [ah,cb,cd,cg,cf];try simp only [↓wR,RA,simprocAttr,TF,ag,h2])
   refine ff [0,2,4,14,15] (fun (p:Nat × Nat)=>[.sl 0 0 N 5,.sc (.int .i64 (m)),(.sc (.func (.func 23) #[] #[])),.sc (.int .i64 (p.1)),.sc (.int .i64 (p.2))]) (fun _=>[some (.row (cellsOf bb true ((A++L++[y]++Z))) 0 0 48)]) (fun p=>a≤p.1∧p.1≤p.2∧p.2≤m∧(∀ c,0<p.1 - a→L[p.1 - a - 1]? = some c→c8 y c=false)∧(∀ c,L[p.2 - a]? = some c→c8 y c=true)) (fun p=>p.2 - p.1) (a,m) ⟨Nat.le_refl _,by show a≤m;omega,Nat.le_refl _,fun c hq=>by simp at hq,fun c hq=>by rw [List.getElem?_eq_none (by show L.length≤m - a;omega)] at hq;cases hq⟩ (by simp only [↓wR,RA,simprocAttr,TF,ag]<;>rfl) (by simp only [↓wR,RA,simprocAttr,TF,ag]<;>rfl) ?_
   rintro ⟨i,j⟩ ⟨p1,p2,p3,p4,p5⟩
   simp only [] at p1 p2 p3 p4 p5 ⊢
   simp only [↓wR,RA,simprocAttr,TF,ag]
   rw [bz];refine ⟨fun h=>?_,fun h=>?_⟩
   ·have hlt:i<j:=by omega
    obtain ⟨u,hu⟩:∃ u,u=(i+j) / 2:=⟨_,rfl⟩
    have hub:i≤u∧u<j:=by omega
    have hhalf:=half i j (by omega)
    rw [← hu] at hhalf
    obtain ⟨x,hx⟩:∃ x,L[u - a]? = some x:=⟨_,List.getElem?_eq_getElem (by omega)⟩
    have hxV:=hLV x (List.mem_of_getElem? hx)
    have gx:=hLb _ _ hx
    rw [show a+(u - a)=u by omega] at gx
    have l1:=ko 0 0 48 gx
    have l2:=ko 0 0 48 gy
    simp only [↓wR,RA,simprocAttr,TF,ag,h,hhalf,↓l1,↓l2,ky,hxV,hyV];repeat (simp (disch:=omega) only [ah,cb,cd,cg,cf];try simp only [↓wR,RA,simprocAttr,TF,ag,h,hhalf,↓l1,↓l2,ky,hxV,hyV])
    refine ⟨by kernel_rfl,.inl ?_⟩
    simp only [↓wR,RA,simprocAttr,TF,ag,Cf,Zi]
    refine ⟨by apply hc;kernel_rfl,?_⟩
    rw [bz];refine ⟨fun hl=>?_,fun hl=>?_⟩
    ·have hll:c8 y x=false:=decide_eq_false hl
     simp only [↓wR,RA,simprocAttr,TF,ag,hl];repeat (simp (disch:=omega) only [ah,cb,cd,cg,cf];try simp only [↓wR,RA,simprocAttr,TF,ag,hl])
     exact ⟨(u+1,j),⟨by show a≤u+1;omega,by show u+1≤j;omega,p3,fun c _ hcc=>by
      have hcc':L[u+1 - a - 1]? = some c:=hcc
      rw [show u+1 - a - 1=u - a by omega,hx] at hcc';cases hcc';exact hll,p5⟩,by show j - (u+1)<j - i;omega,by (first|rfl|trivial|omega|((try (simp (disch:=omega) only [ah]));(try (simp only [FB]));first|done|rfl|omega))⟩
    ·have hll:c8 y x=true:=decide_eq_true (Decidable.not_not.1 hl)
     simp only [↓wR,RA,simprocAttr,TF,ag,hl];repeat (simp (disch:=omega) only [ah,cb,cd,cg,cf];try simp only [↓wR,RA,simprocAttr,TF,ag,hl])
     exact ⟨(i,u),⟨p1,by show i≤u;omega,by show u≤m;omega,p4,fun c hcc=>by
      have hcc':L[u - a]? = some c:=hcc
      rw [hx] at hcc';cases hcc';exact hll⟩,by show u - i<j - i;omega,by (first|rfl|trivial|omega|((try (simp (disch:=omega) only [ah]));(try (simp only [FB]));first|done|rfl|omega))⟩
   ·have hij:j=i:=by omega
    subst hij
    have hmo:=afg (lt:=c8) (y:=y) (l:=L) (i:=j - a) (Ts ng hLV hLR hyV (by omega) p4) (aiq ng hLV hLR hyV p5)
    obtain ⟨L1,hL1e⟩:∃ L1,L1=L.take (j - a):=⟨_,rfl⟩
    obtain ⟨L2,hL2e⟩:∃ L2,L2=L.drop (j - a):=⟨_,rfl⟩
    have hLe:L=L1++L2:=by rw [hL1e,hL2e,List.take_append_drop]
    have hl1:L1.length=j - a:=by rw [hL1e,List.length_take];omega
    have hl2:L2.length=m - j:=by rw [hL2e,List.length_drop];omega
    rw [← hL1e,← hL2e] at hmo
    rw [hmo]
    simp only [↓wR,RA,simprocAttr,TF,ag,h]
    refine ff [0,14,17] (fun (k:Nat)=>[.sl 0 0 N 5,.sc (.int .i64 (j)),.sc (.int .i64 (k))]) (fun k=>[some (.row (cellsOf bb true ((A++L1++L2.take (k - j)++y::(L2.drop (k - j)++Z)))) 0 0 48)]) (fun k=>j≤k∧k≤m) (fun k=>k) m ⟨by omega,Nat.le_refl _⟩ (by simp only [↓wR,RA,simprocAttr,TF,ag]<;>rfl) (by simp only [↓wR,RA,simprocAttr,TF,ag];rw [← hl2,List.take_length,List.drop_length,hLe];simp) ?_
    rintro k ⟨k1,k2⟩
    simp only [↓wR,RA,simprocAttr,TF,ag];repeat (simp (disch:=omega) only [ah,cb,cd,cg,cf];try simp only [↓wR,RA,simprocAttr,TF,ag])
    rw [bz];refine ⟨fun hk=>?_,fun hk=>?_⟩
    ·have hkl:j<k:=by omega
     obtain ⟨x,hx⟩:∃ x,L2[k - 1 - j]? = some x:=⟨_,List.getElem?_eq_getElem (by omega)⟩
     obtain ⟨X,hX⟩:∃ X,X=A++L1++L2.take (k - 1 - j):=⟨_,rfl⟩
     obtain ⟨W,hW⟩:∃ W,W=L2.drop (k - j)++Z:=⟨_,rfl⟩
     have hkk:k - j=k - 1 - j+1:=by omega
     have hxl:X.length=k - 1:=by rw [hX,List.length_append,List.length_append,List.length_take];omega
     have hcur:A++L1++L2.take (k - j)++y::(L2.drop (k - j)++Z)=X++x::y::W:=by rw [hX,hW,hkk,j7 hx];simp
     have fp:A++L1++L2.take (k - 1 - j)++y::(L2.drop (k - 1 - j)++Z)=X++y::x::W:=by rw [hX,hW,uw hx,hkk];simp
     have g1:(X++x::y::W)[k - 1]? = some x:=by rw [← hxl];exact get_at X _ x
     have hx1:(X++[x]).length=k:=by rw [List.length_append,hxl,List.length_singleton];omega
     have g2:(X++x::y::W)[k]? = some y:=by
      have:=get_at (X++[x]) W y
      rw [hx1] at this
      rw [← this];simp
     have s1:(X++x::y::W).set k x=X++x::x::W:=by
      have:=As (X++[x]) W y x
      rw [hx1] at this
      simpa using this
     have g3:(X++x::x::W)[k - 1]? = some x:=by rw [← hxl];exact get_at X _ x
     have s2:(X++x::x::W).set (k - 1) y=X++y::x::W:=by rw [← hxl];exact As X _ x y
     have l1:=ko 0 0 48 g1
     have l2:=ko 0 0 48 g2
     have t1:=sa x 0 48 0 g2
     have t2:=sa y 0 48 0 g3
     rw [s1] at t1
     rw [s2] at t2
     have hk1:(k:Int) - 1=((k - 1:Nat):Int):=by omega
     rw [hcur]
     simp only [↓wR,RA,simprocAttr,TF,ag,hk,hk1,↓l1,↓l2,↓t1,↓t2];repeat (simp (disch:=omega) only [ah,cb,cd,cg,cf];try simp only [↓wR,RA,simprocAttr,TF,ag,hk,hk1,↓l1,↓l2,↓t1,↓t2])
     refine ⟨by kernel_rfl,.inl ?_⟩
     exact ⟨by apply hc;kernel_rfl,k - 1,⟨by omega,by omega⟩,by omega,by (first|rfl|trivial|omega|((try (simp (disch:=omega) only [ah]));(try (simp only [FB]));first|done|rfl|omega)),by rw [fp]⟩
    ·have hkj:k - j=0:=by omega
     rw [hkj]
     simp only [↓wR,RA,simprocAttr,TF,ag,hk,xi,uo,sf,List.append_nil]
     simp
  ·have hR1:R.length≠1:=by omega
   obtain ⟨mid,hmid⟩:∃ mid,mid=(a+b) / 2:=⟨_,rfl⟩
   have hhalf:=half a b (by omega)
   rw [← hmid] at hhalf
   have hmm:(mid:Int)+m=((mid+m:Nat):Int):=by omega
   obtain ⟨n,hn⟩:∃ n,n=mid+m:=⟨_,rfl⟩
   rw [← hn] at hmm
   obtain ⟨s0,hs0⟩:∃ s0,s0=if mid<m then n - b else a:=⟨_,rfl⟩
   obtain ⟨r0,hr0⟩:∃ r0,r0=if mid<m then mid else m:=⟨_,rfl⟩
   have hp1:(n:Int) - 1=((n - 1:Nat):Int):=by omega
   have hsr:a≤s0∧s0≤r0∧r0≤m∧r0≤mid∧n - b≤s0:=by subst hs0 hr0;split<;>omega
   obtain ⟨X0,hX0⟩:∃ X0,X0=A++L++R++Z:=⟨_,rfl⟩
   have hXL:∀ k c,L[k]? = some c→X0[a+k]? = some c:=fun k c hk=>by
    have hkl:=(List.getElem?_eq_some_iff.1 hk).1
    rw [hX0,List.append_assoc,List.append_assoc,List.getElem?_append_right (by omega),show a+k - A.length=k by omega,List.getElem?_append_left hkl,hk]
   have hXR:∀ k c,R[k]? = some c→X0[m+k]? = some c:=fun k c hk=>by
    have hkl:=(List.getElem?_eq_some_iff.1 hk).1
    rw [hX0,List.append_assoc (A++L),List.getElem?_append_right (by rw [List.length_append];omega),List.length_append,show m+k - (A.length+L.length)=k by omega,List.getElem?_append_left hkl,hk]
   rw [← hX0]
   have hfin:∀ st,s0≤st→st≤r0→(∀ c e,s0<st→L[st - 1 - a]? = some c→R[n - st - m]? = some e→c8 e c=false)→(∀ c e,st<r0→L[st - a]? = some c→R[n - 1 - st - m]? = some e→c8 e c=true) →
    ∃ X1 X2,(st<m→m<n - st→g9 PP 77 [.sl 0 0 N 5,.sc (.int .i64 (st)),.sc (.int .i64 (m)),.sc (.int .i64 ((n - st:Nat))),(.sc (.func (.func 23) #[] #[]))] (az [some (.row (cellsOf bb true ((X0))) 0 0 48)]) (fun r st'=>r = .gu []∧st'=az [some (.row (cellsOf bb true ((X1))) 0 0 48)]))∧(¬ (st<m∧m<n - st)→X0=X1) ∧
     (a<st→st<mid→g9 PP 67 [.sl 0 0 N 5,.sc (.int .i64 (a)),.sc (.int .i64 (st)),.sc (.int .i64 (mid)),(.sc (.func (.func 23) #[] #[]))] (az [some (.row (cellsOf bb true ((X1))) 0 0 48)]) (fun r st'=>r = .gu []∧st'=az [some (.row (cellsOf bb true ((X2))) 0 0 48)]))∧(¬ (a<st∧st<mid)→X1=X2) ∧
     (mid<n - st→n - st<b→g9 PP 67 [.sl 0 0 N 5,.sc (.int .i64 (mid)),.sc (.int .i64 ((n - st:Nat))),.sc (.int .i64 (b)),(.sc (.func (.func 23) #[] #[]))] (az [some (.row (cellsOf bb true ((X2))) 0 0 48)]) (fun r st'=>r = .gu []∧st'=az [some (.row (cellsOf bb true ((A++fl c8 L R++Z))) 0 0 48)]))∧(¬ (mid<n - st∧n - st<b)→X2=A++fl c8 L R++Z):=by
    intro st q1 q2 q3 q4
    obtain ⟨L1,hL1e⟩:∃ L1,L1=L.take (st - a):=⟨_,rfl⟩
    obtain ⟨L2,hL2e⟩:∃ L2,L2=L.drop (st - a):=⟨_,rfl⟩
    obtain ⟨R1,hR1e⟩:∃ R1,R1=R.take (mid - st):=⟨_,rfl⟩
    obtain ⟨R2,hR2e⟩:∃ R2,R2=R.drop (mid - st):=⟨_,rfl⟩
    have hLe:L=L1++L2:=by rw [hL1e,hL2e,List.take_append_drop]
    have hRe:R=R1++R2:=by rw [hR1e,hR2e,List.take_append_drop]
    have n1:L1.length=st - a:=by rw [hL1e,List.length_take];omega
    have n2:L2.length=m - st:=by rw [hL2e,List.length_drop];omega
    have n3:R1.length=mid - st:=by rw [hR1e,List.length_take];omega
    have n4:R2.length=b - (n - st):=by rw [hR2e,List.length_drop];omega
    have r1:jc c8 L1:=by rw [hL1e];exact hLR.take _
    have r2:jc c8 L2:=by rw [hL2e];exact hLR.drop _
    have r3:jc c8 R1:=by rw [hR1e];exact hRR.take _
    have r4:jc c8 R2:=by rw [hR2e];exact hRR.drop _
    have v1:∀ x ∈ L1,dk x:=fun x hx=>hLV x (by rw [hLe];simp [hx])
    have v2:∀ x ∈ L2,dk x:=fun x hx=>hLV x (by rw [hLe];simp [hx])
    have v3:∀ x ∈ R1,dk x:=fun x hx=>hRV x (by rw [hRe];simp [hx])
    have v4:∀ x ∈ R2,dk x:=fun x hx=>hRV x (by rw [hRe];simp [hx])
    have f1:∀ x ∈ L1,∀ y ∈ R2,c8 y x=false:=by
     by_cases k1:a<st
     ·by_cases k2:n - st<b
      ·obtain ⟨c,hcc⟩:∃ c,L[st - 1 - a]? = some c:=⟨_,List.getElem?_eq_getElem (by omega)⟩
       obtain ⟨e,hee⟩:∃ e,R[n - st - m]? = some e:=⟨_,List.getElem?_eq_getElem (by omega)⟩
       have hlt:=q3 c e (by subst hs0;split<;>omega) hcc hee
       have t1:L1=L.take (st - 1 - a)++[c]:=by rw [hL1e,show st - a=st - 1 - a+1 by omega,j7 hcc]
       have t2:R2=e::R.drop (n - st - m+1):=by rw [hR2e,show mid - st=n - st - m by omega,uw hee]
       rw [t1,t2]
       exact S7 ng (fun z hz=>v1 z (by rw [t1];exact hz)) (fun z hz=>v4 z (by rw [t2];exact hz)) (by rw [← t1];exact r1) (by rw [← t2];exact r4) hlt
      ·have:R2=[]:=List.eq_nil_of_length_eq_zero (by omega)
       rw [this];intro x _ y hy;cases hy
     ·have:L1=[]:=List.eq_nil_of_length_eq_zero (by omega)
      rw [this];intro x hx;cases hx
    have f2:∀ x ∈ L2,∀ y ∈ R1,c8 y x=true:=by
     by_cases k1:st<m
     ·by_cases k2:st<mid
      ·obtain ⟨c,hcc⟩:∃ c,L[st - a]? = some c:=⟨_,List.getElem?_eq_getElem (by omega)⟩
       obtain ⟨e,hee⟩:∃ e,R[n - 1 - st - m]? = some e:=⟨_,List.getElem?_eq_getElem (by omega)⟩
       have hlt:=q4 c e (by subst hr0;split<;>omega) hcc hee
       have t1:L2=c::L.drop (st - a+1):=by rw [hL2e,uw hcc]
       have t2:R1=R.take (n - 1 - st - m)++[e]:=by rw [hR1e,show mid - st=n - 1 - st - m+1 by omega,j7 hee]
       rw [t1,t2]
       exact Ng ng (fun z hz=>v2 z (by rw [t1];exact hz)) (fun z hz=>v3 z (by rw [t2];exact hz)) (by rw [← t1];exact r2) (by rw [← t2];exact r3) hlt
      ·have:R1=[]:=List.eq_nil_of_length_eq_zero (by omega)
       rw [this];intro x _ y hy;cases hy
     ·have:L2=[]:=List.eq_nil_of_length_eq_zero (by omega)
      rw [this];intro x hx;cases hx
    have hmg:fl c8 L R=fl c8 L1 R1++fl c8 L2 R2:=by rw [hLe,hRe];exact ph L1 L2 R1 R2 f1 f2
    have m1:(fl c8 L1 R1).length=mid - a:=by rw [agk];omega
    have hNa:N=A.length+L1.length+L2.length+R1.length+R2.length+Z.length:=by omega
    refine ⟨A++L1++R1++(L2++R2++Z),A++fl c8 L1 R1++(L2++R2++Z),fun k1 k2=>?_,fun k=>?_,fun k1 k2=>?_,fun k=>?_,fun k1 k2=>?_,fun k=>?_⟩
    ·have:=aa6 N st m (n - st) (A++L1) L2 R1 (R2++Z) (by simp only [List.length_append];omega) hs (by rw [List.length_append];omega) (by omega) (by omega) (by omega) (by omega)
     rw [show A++L1++L2++R1++(R2++Z)=X0 by rw [hX0,hLe,hRe];simp,show A++L1++R1++L2++(R2++Z)=A++L1++R1++(L2++R2++Z) by simp] at this
     exact this
    ·rw [hX0,hLe,hRe]
     by_cases k1:st<m
     ·have:R1=[]:=List.eq_nil_of_length_eq_zero (by omega)
      rw [this];simp
     ·have:L2=[]:=List.eq_nil_of_length_eq_zero (by omega)
      rw [this];simp
    ·exact ih N a st mid A L1 R1 (L2++R2++Z) (by omega) (by simp only [List.length_append];omega) hs ha (by omega) (by omega) (by omega) (by omega) v1 v3 r1 r3
    ·by_cases k1:a<st
     ·have:R1=[]:=List.eq_nil_of_length_eq_zero (by omega)
      rw [this,i6];simp
     ·have:L1=[]:=List.eq_nil_of_length_eq_zero (by omega)
      rw [this,jq];simp
    ·have:=ih N mid (n - st) b (A++fl c8 L1 R1) L2 R2 Z (by omega) (by simp only [List.length_append,m1];omega) hs (by rw [List.length_append,m1];omega) (by omega) (by omega) (by omega) (by omega) v2 v4 r2 r4
     rw [hmg]
     rw [show A++fl c8 L1 R1++L2++R2++Z=A++fl c8 L1 R1++(L2++R2++Z) by simp,show A++fl c8 L1 R1++fl c8 L2 R2++Z=A++(fl c8 L1 R1++fl c8 L2 R2)++Z by simp] at this
     exact this
    ·rw [hmg]
     by_cases k1:mid<n - st
     ·have:R2=[]:=List.eq_nil_of_length_eq_zero (by omega)
      rw [this,i6];simp
     ·have:L2=[]:=List.eq_nil_of_length_eq_zero (by omega)
      rw [this,jq];simp
   simp only [↓wR,RA,simprocAttr,TF,ag,h2,hhalf,hmm];repeat (simp (disch:=omega) only [ah,cb,cd,cg,cf];try simp only [↓wR,RA,simprocAttr,TF,ag,h2,hhalf,hmm])
   rw [bz];refine ⟨fun hg=>?_,fun hg=>?_⟩
   ·have e3:(n:Int) - b=((s0:Nat):Int):=by rw [hs0,if_pos (by omega)];omega
    have e4:((mid:Nat):Int)=((r0:Nat):Int):=by rw [hr0,if_pos (by omega)]
    simp only [↓wR,RA,simprocAttr,TF,ag,hg,e3,hp1];repeat (simp (disch:=omega) only [ah,cb,cd,cg,cf];try simp only [↓wR,RA,simprocAttr,TF,ag,hg,e3,hp1])
    refine ff [0,1,2,3,4,18,19,20,21,22] (fun (p:Nat × Nat)=>[.sl 0 0 N 5,.sc (.int .i64 (a)),.sc (.int .i64 (m)),.sc (.int .i64 (b)),(.sc (.func (.func 23) #[] #[])),.sc (.int .i64 (mid)),.sc (.int .i64 (n)),.sc (.int .i64 (p.1)),.sc (.int .i64 (p.2)),.sc (.int .i64 (((n - 1:Nat):Int)))]) (fun _=>[some (.row (cellsOf bb true ((X0))) 0 0 48)]) (fun p=>s0≤p.1∧p.1≤p.2∧p.2≤r0∧(∀ c e,s0<p.1→L[p.1 - 1 - a]? = some c→R[n - p.1 - m]? = some e→c8 e c=false)∧(∀ c e,p.2<r0→L[p.2 - a]? = some c→R[n - 1 - p.2 - m]? = some e→c8 e c=true)) (fun p=>p.2 - p.1) (s0,r0) ⟨Nat.le_refl _,hsr.2.1,Nat.le_refl _,fun _ _ q=>absurd q (Nat.lt_irrefl _),fun _ _ q=>absurd q (Nat.lt_irrefl _)⟩ (by simp only [↓wR,RA,simprocAttr,TF,ag];rw [e4]) (by simp only [↓wR,RA,simprocAttr,TF,ag]<;>rfl) ?_
    rintro ⟨i,j⟩ ⟨p1,p2,p3,p4,p5⟩
    simp only [] at p1 p2 p3 p4 p5 ⊢
    simp only [↓wR,RA,simprocAttr,TF,ag]
    rw [bz];refine ⟨fun h=>?_,fun h=>?_⟩
    ·have hlt:i<j:=by omega
     obtain ⟨u,hu⟩:∃ u,u=(i+j) / 2:=⟨_,rfl⟩
     have hub:i≤u∧u<j:=by omega
     have hhalf2:=half i j (by omega)
     rw [← hu] at hhalf2
     obtain ⟨x,hx⟩:∃ x,L[u - a]? = some x:=⟨_,List.getElem?_eq_getElem (by omega)⟩
     obtain ⟨y,hy⟩:∃ y,R[n - 1 - u - m]? = some y:=⟨_,List.getElem?_eq_getElem (by omega)⟩
     have hxV:=hLV x (List.mem_of_getElem? hx)
     have hyV:=hRV y (List.mem_of_getElem? hy)
     have gx:=hXL _ _ hx
     rw [show a+(u - a)=u by omega] at gx
     have gy:=hXR _ _ hy
     rw [show m+(n - 1 - u - m)=n - 1 - u by omega] at gy
     have hpu:((n - 1:Nat):Int) - u=((n - 1 - u:Nat):Int):=by omega
     have l1:=ko 0 0 48 gx
     have l2:=ko 0 0 48 gy
     simp only [↓wR,RA,simprocAttr,TF,ag,h,hhalf2,hpu,↓l1,↓l2,ky,hxV,hyV];repeat (simp (disch:=omega) only [ah,cb,cd,cg,cf];try simp only [↓wR,RA,simprocAttr,TF,ag,h,hhalf2,hpu,↓l1,↓l2,ky,hxV,hyV])
     refine ⟨by kernel_rfl,.inl ?_⟩
     simp only [↓wR,RA,simprocAttr,TF,ag,Cf,Zi]
     refine ⟨by apply hc;kernel_rfl,?_⟩
     rw [bz];refine ⟨fun hl=>?_,fun hl=>?_⟩
     ·have hll:c8 y x=false:=decide_eq_false hl
      simp only [↓wR,RA,simprocAttr,TF,ag,hl];repeat (simp (disch:=omega) only [ah,cb,cd,cg,cf];try simp only [↓wR,RA,simprocAttr,TF,ag,hl])
      exact ⟨(u+1,j),⟨by show s0≤u+1;omega,by show u+1≤j;omega,p3,fun c e _ hcc hee=>by
       have hcc':L[u+1 - 1 - a]? = some c:=hcc
       have hee':R[n - (u+1) - m]? = some e:=hee
       rw [show u+1 - 1 - a=u - a by omega,hx] at hcc'
       rw [show n - (u+1) - m=n - 1 - u - m by omega,hy] at hee'
       cases hcc';cases hee';exact hll,p5⟩,by show j - (u+1)<j - i;omega,by (first|rfl|trivial|omega|((try (simp (disch:=omega) only [ah]));(try (simp only [FB]));first|done|rfl|omega))⟩
     ·have hll:c8 y x=true:=decide_eq_true (Decidable.not_not.1 hl)
      simp only [↓wR,RA,simprocAttr,TF,ag,hl];repeat (simp (disch:=omega) only [ah,cb,cd,cg,cf];try simp only [↓wR,RA,simprocAttr,TF,ag,hl])
      exact ⟨(i,u),⟨p1,by show i≤u;omega,by show u≤r0;omega,p4,fun c e _ hcc hee=>by
       have hcc':L[u - a]? = some c:=hcc
       have hee':R[n - 1 - u - m]? = some e:=hee
       rw [hx] at hcc';rw [hy] at hee'
       cases hcc';cases hee';exact hll⟩,by show u - i<j - i;omega,by (first|rfl|trivial|omega|((try (simp (disch:=omega) only [ah]));(try (simp only [FB]));first|done|rfl|omega))⟩
    ·have hij:j=i:=by omega
     subst hij
     obtain ⟨X1,X2,c1,c2,c3,c4,c5,c6⟩:=hfin j p1 p3 p4 p5
     have hen:(n:Int) - j=((n - j:Nat):Int):=by omega
     obtain ⟨en,hen2⟩:∃ en,en=n - j:=⟨_,rfl⟩
     rw [← hen2] at c1 c2 c5 c6 hen
     obtain ⟨X3,hX3⟩:∃ X3,X3=A++fl c8 L R++Z:=⟨_,rfl⟩
     rw [← hX3] at c5 c6 ⊢
     have b1:m<en↔j<mid:=by omega
     have b2:mid<en↔j<m:=by omega
     by_cases k1:a<j<;>by_cases k2:j<m<;>by_cases k3:j<mid<;>by_cases k4:en<b<;>first
      |(exfalso;omega)
      |(
       have d1:=k1
       have d2:=k2
       have d3:=k3
       have d4:=k4
       have hwr:IntKind.i64.wrap (en:Int)=en:=ah _ (by omega) (by omega)
       have d5:decide (m<en)=decide (j<mid):=decide_eq_decide.2 b1
       have d6:decide (mid<en)=decide (j<m):=decide_eq_decide.2 b2
       (try rw [c2 (by omega)])
       simp only [↓wR,RA,simprocAttr,TF,ag,h,hen,hwr,I0,d1,d2,d3,d4,d5,d6]
       (try (refine iu (c1 (by omega) (by omega)) ?_;rintro _ _ ⟨rfl,rfl⟩;simp only [↓wR,RA,simprocAttr,TF,ag,gj,h,hen,hwr,I0,d1,d2,d3,d4,d5,d6]))
       (try rw [c4 (by omega)])
       (try (refine iu (c3 (by omega) (by omega)) ?_;rintro _ _ ⟨rfl,rfl⟩;simp only [↓wR,RA,simprocAttr,TF,ag,gj,h,hen,hwr,I0,d1,d2,d3,d4,d5,d6]))
       (try rw [c6 (by omega)])
       (try (refine iu (c5 (by omega) (by omega)) ?_;rintro _ _ ⟨rfl,rfl⟩;simp only [↓wR,RA,simprocAttr,TF,ag,gj,h,hen,hwr,I0,d1,d2,d3,d4,d5,d6]))
       simp only [↓wR,RA,simprocAttr,TF,ag,xi,uo,sf])
   ·have e3:((a:Nat):Int)=((s0:Nat):Int):=by rw [hs0,if_neg (by omega)]
    have e4:((m:Nat):Int)=((r0:Nat):Int):=by rw [hr0,if_neg (by omega)]
    simp only [↓wR,RA,simprocAttr,TF,ag,hg,hp1];repeat (simp (disch:=omega) only [ah,cb,cd,cg,cf];try simp only [↓wR,RA,simprocAttr,TF,ag,hg,hp1])
    refine ff [0,1,2,3,4,18,19,20,21,22] (fun (p:Nat × Nat)=>[.sl 0 0 N 5,.sc (.int .i64 (a)),.sc (.int .i64 (m)),.sc (.int .i64 (b)),(.sc (.func (.func 23) #[] #[])),.sc (.int .i64 (mid)),.sc (.int .i64 (n)),.sc (.int .i64 (p.1)),.sc (.int .i64 (p.2)),.sc (.int .i64 (((n - 1:Nat):Int)))]) (fun _=>[some (.row (cellsOf bb true ((X0))) 0 0 48)]) (fun p=>s0≤p.1∧p.1≤p.2∧p.2≤r0∧(∀ c e,s0<p.1→L[p.1 - 1 - a]? = some c→R[n - p.1 - m]? = some e→c8 e c=false)∧(∀ c e,p.2<r0→L[p.2 - a]? = some c→R[n - 1 - p.2 - m]? = some e→c8 e c=true)) (fun p=>p.2 - p.1) (s0,r0) ⟨Nat.le_refl _,hsr.2.1,Nat.le_refl _,fun _ _ q=>absurd q (Nat.lt_irrefl _),fun _ _ q=>absurd q (Nat.lt_irrefl _)⟩ (by simp only [↓wR,RA,simprocAttr,TF,ag];rw [← e3,← e4]) (by simp only [↓wR,RA,simprocAttr,TF,ag]<;>rfl) ?_
    rintro ⟨i,j⟩ ⟨p1,p2,p3,p4,p5⟩
    simp only [] at p1 p2 p3 p4 p5 ⊢
    simp only [↓wR,RA,simprocAttr,TF,ag]
    rw [bz];refine ⟨fun h=>?_,fun h=>?_⟩
    ·have hlt:i<j:=by omega
     obtain ⟨u,hu⟩:∃ u,u=(i+j) / 2:=⟨_,rfl⟩
     have hub:i≤u∧u<j:=by omega
     have hhalf2:=half i j (by omega)
     rw [← hu] at hhalf2
     obtain ⟨x,hx⟩:∃ x,L[u - a]? = some x:=⟨_,List.getElem?_eq_getElem (by omega)⟩
     obtain ⟨y,hy⟩:∃ y,R[n - 1 - u - m]? = some y:=⟨_,List.getElem?_eq_getElem (by omega)⟩
     have hxV:=hLV x (List.mem_of_getElem? hx)
     have hyV:=hRV y (List.mem_of_getElem? hy)
     have gx:=hXL _ _ hx
     rw [show a+(u - a)=u by omega] at gx
     have gy:=hXR _ _ hy
     rw [show m+(n - 1 - u - m)=n - 1 - u by omega] at gy
     have hpu:((n - 1:Nat):Int) - u=((n - 1 - u:Nat):Int):=by omega
     have l1:=ko 0 0 48 gx
     have l2:=ko 0 0 48 gy
     simp only [↓wR,RA,simprocAttr,TF,ag,h,hhalf2,hpu,↓l1,↓l2,ky,hxV,hyV];repeat (simp (disch:=omega) only [ah,cb,cd,cg,cf];try simp only [↓wR,RA,simprocAttr,TF,ag,h,hhalf2,hpu,↓l1,↓l2,ky,hxV,hyV])
     refine ⟨by kernel_rfl,.inl ?_⟩
     simp only [↓wR,RA,simprocAttr,TF,ag,Cf,Zi]
     refine ⟨by apply hc;kernel_rfl,?_⟩
     rw [bz];refine ⟨fun hl=>?_,fun hl=>?_⟩
     ·have hll:c8 y x=false:=decide_eq_false hl
      simp only [↓wR,RA,simprocAttr,TF,ag,hl];repeat (simp (disch:=omega) only [ah,cb,cd,cg,cf];try simp only [↓wR,RA,simprocAttr,TF,ag,hl])
      exact ⟨(u+1,j),⟨by show s0≤u+1;omega,by show u+1≤j;omega,p3,fun c e _ hcc hee=>by
       have hcc':L[u+1 - 1 - a]? = some c:=hcc
       have hee':R[n - (u+1) - m]? = some e:=hee
       rw [show u+1 - 1 - a=u - a by omega,hx] at hcc'
       rw [show n - (u+1) - m=n - 1 - u - m by omega,hy] at hee'
       cases hcc';cases hee';exact hll,p5⟩,by show j - (u+1)<j - i;omega,by (first|rfl|trivial|omega|((try (simp (disch:=omega) only [ah]));(try (simp only [FB]));first|done|rfl|omega))⟩
     ·have hll:c8 y x=true:=decide_eq_true (Decidable.not_not.1 hl)
      simp only [↓wR,RA,simprocAttr,TF,ag,hl];repeat (simp (disch:=omega) only [ah,cb,cd,cg,cf];try simp only [↓wR,RA,simprocAttr,TF,ag,hl])
      exact ⟨(i,u),⟨p1,by show i≤u;omega,by show u≤r0;omega,p4,fun c e _ hcc hee=>by
       have hcc':L[u - a]? = some c:=hcc
       have hee':R[n - 1 - u - m]? = some e:=hee
       rw [hx] at hcc';rw [hy] at hee'
       cases hcc';cases hee';exact hll⟩,by show u - i<j - i;omega,by (first|rfl|trivial|omega|((try (simp (disch:=omega) only [ah]));(try (simp only [FB]));first|done|rfl|omega))⟩
    ·have hij:j=i:=by omega
     subst hij
     obtain ⟨X1,X2,c1,c2,c3,c4,c5,c6⟩:=hfin j p1 p3 p4 p5
     have hen:(n:Int) - j=((n - j:Nat):Int):=by omega
     obtain ⟨en,hen2⟩:∃ en,en=n - j:=⟨_,rfl⟩
     rw [← hen2] at c1 c2 c5 c6 hen
     obtain ⟨X3,hX3⟩:∃ X3,X3=A++fl c8 L R++Z:=⟨_,rfl⟩
     rw [← hX3] at c5 c6 ⊢
     have b1:m<en↔j<mid:=by omega
     have b2:mid<en↔j<m:=by omega
     by_cases k1:a<j<;>by_cases k2:j<m<;>by_cases k3:j<mid<;>by_cases k4:en<b<;>first
      |(exfalso;omega)
      |(
       have d1:=k1
       have d2:=k2
       have d3:=k3
       have d4:=k4
       have hwr:IntKind.i64.wrap (en:Int)=en:=ah _ (by omega) (by omega)
       have d5:decide (m<en)=decide (j<mid):=decide_eq_decide.2 b1
       have d6:decide (mid<en)=decide (j<m):=decide_eq_decide.2 b2
       (try rw [c2 (by omega)])
       simp only [↓wR,RA,simprocAttr,TF,ag,h,hen,hwr,I0,d1,d2,d3,d4,d5,d6]
       (try (refine iu (c1 (by omega) (by omega)) ?_;rintro _ _ ⟨rfl,rfl⟩;simp only [↓wR,RA,simprocAttr,TF,ag,gj,h,hen,hwr,I0,d1,d2,d3,d4,d5,d6]))
       (try rw [c4 (by omega)])
       (try (refine iu (c3 (by omega) (by omega)) ?_;rintro _ _ ⟨rfl,rfl⟩;simp only [↓wR,RA,simprocAttr,TF,ag,gj,h,hen,hwr,I0,d1,d2,d3,d4,d5,d6]))
       (try rw [c6 (by omega)])
       (try (refine iu (c5 (by omega) (by omega)) ?_;rintro _ _ ⟨rfl,rfl⟩;simp only [↓wR,RA,simprocAttr,TF,ag,gj,h,hen,hwr,I0,d1,d2,d3,d4,d5,d6]))
       simp only [↓wR,RA,simprocAttr,TF,ag,xi,uo,sf])
theorem Vr (N:Nat) (X:List ba) (hN:N=X.length) (hs:N≤1048576) (hV:∀ x ∈ X,dk x) :
 g9 PP 48 [.sl 0 0 N 5,.sc (.int .i64 (N)),(.sc (.func (.func 23) #[] #[]))] (az [some (.row (cellsOf bb true ((X))) 0 0 48)])
  (fun r st'=>r = .gu []∧st'=az [some (.row (cellsOf bb true ((dh c8 X))) 0 0 48)]):=by
 refine ke _ rfl ?_ (fun r st' h=>h)
 refine dp (T:=[]) (aq.nil PP) mixed Try.func48 rfl (by kernel_rfl) (by kernel_rfl) (by kernel_rfl) (by kernel_rfl) ?_;unfold Try.f48
 simp only [↓wR,RA,simprocAttr,TF,ag]
 refine ff [0,1,2,6,7,8] (fun (x:List ba × List ba)=>[.sl 0 0 N 5,.sc (.int .i64 (N)),(.sc (.func (.func 23) #[] #[])),.sc (.int .i64 (20)),.sc (.int .i64 (x.1.length)),.sc (.int .i64 (((x.1.length+20:Nat):Int)))]) (fun x=>[some (.row (cellsOf bb true ((x.1++x.2))) 0 0 48)]) (fun x=>x.1++ja c8 20 x.2=ja c8 20 X∧x.1.length+x.2.length=N∧∀ y ∈ x.2,dk y) (fun x=>x.2.length) ([],X) ⟨rfl,by rw [hN];simp,hV⟩ (by simp only [↓wR,RA,simprocAttr,TF,ag]<;>rfl) (by simp only [↓wR,RA,simprocAttr,TF,ag]<;>rfl) ?_
 rintro ⟨D,Y⟩ ⟨h1,h2,h3⟩
 simp only [] at h1 h2 h3 ⊢
 simp only [↓wR,RA,simprocAttr,TF,ag]
 rw [bz];refine ⟨fun h=>?_,fun h=>?_⟩
 ·have hle : 20≤Y.length:=by omega
  have hY:Y=Y.take 20++Y.drop 20:=(List.take_append_drop 20 Y).symm
  have hl1:(Y.take 20).length=20:=by rw [List.length_take];omega
  have hins:=Jp N D.length (D.length+20) D (Y.take 20) (Y.drop 20) (by simp only [List.length_append,List.length_take,List.length_drop];omega) hs rfl (by omega) (fun x hx=>h3 x (List.mem_of_mem_take hx))
  rw [show D++Y.take 20++Y.drop 20=D++Y by rw [List.append_assoc,List.take_append_drop]] at hins
  have hb1:((D.length+20:Nat):Int)+20=((D.length+20+20:Nat):Int):=by omega
  simp only [↓wR,RA,simprocAttr,TF,ag,h];repeat (simp (disch:=omega) only [ah,cb,cd,cg,cf];try simp only [↓wR,RA,simprocAttr,TF,ag,h])
  refine iu hins ?_
  rintro _ _ ⟨rfl,rfl⟩
  simp only [↓wR,RA,simprocAttr,TF,ag,gj,hb1];repeat (simp (disch:=omega) only [ah,cb,cd,cg,cf];try simp only [↓wR,RA,simprocAttr,TF,ag,gj,hb1])
  refine ⟨(D++dh c8 (Y.take 20),Y.drop 20),⟨?_,?_,fun y hy=>h3 y (List.mem_of_mem_drop hy)⟩,?_,?_,?_⟩
  ·rw [← h1,B7 (l:=Y) (by decide) hle,List.append_assoc]
  ·simp only [List.length_append,gp,List.length_drop,hl1];omega
  ·simp only [List.length_drop];omega
  ·simp only [List.length_append,gp,hl1]<;>rfl
  ·rfl
 ·have hle:Y.length<20:=by omega
  have hins:=Jp N D.length N D Y [] (by simp only [List.length_append,List.length_nil];omega) hs rfl (by omega) h3
  rw [List.append_nil,List.append_nil,show D++dh c8 Y=ja c8 20 X by rw [← h1,ta (by omega)]] at hins
  simp only [↓wR,RA,simprocAttr,TF,ag,h];repeat (simp (disch:=omega) only [ah,cb,cd,cg,cf];try simp only [↓wR,RA,simprocAttr,TF,ag,h])
  refine iu hins ?_
  rintro _ _ ⟨rfl,rfl⟩
  simp only [↓wR,RA,simprocAttr,TF,ag,gj];repeat (simp (disch:=omega) only [ah,cb,cd,cg,cf];try simp only [↓wR,RA,simprocAttr,TF,ag,gj])
  refine ff [0,1,2,6] (fun (k:Nat)=>[.sl 0 0 N 5,.sc (.int .i64 (N)),(.sc (.func (.func 23) #[] #[])),.sc (.int .i64 (k))]) (fun k=>[some (.row (cellsOf bb true ((ja c8 k X))) 0 0 48)]) (fun k=>0<k∧k≤2 * N+40) (fun k=>N - k) 20 ⟨by decide,by omega⟩ (by simp only [↓wR,RA,simprocAttr,TF,ag]<;>rfl) (by simp only [↓wR,RA,simprocAttr,TF,ag]<;>rfl) ?_
  clear h1 h2 h3 h hle hins D Y
  rintro k ⟨hk0,hk1⟩
  simp only [↓wR,RA,simprocAttr,TF,ag]
  rw [bz];refine ⟨fun h=>?_,fun h=>?_⟩
  ·have e2:(2:Int) * k=((k+k:Nat):Int):=by omega
   simp only [↓wR,RA,simprocAttr,TF,ag,h,e2];repeat (simp (disch:=omega) only [ah,cb,cd,cg,cf];try simp only [↓wR,RA,simprocAttr,TF,ag,h,e2])
   refine ff [0,1,2,6,7,8] (fun (x:List ba × List ba)=>[.sl 0 0 N 5,.sc (.int .i64 (N)),(.sc (.func (.func 23) #[] #[])),.sc (.int .i64 (k)),.sc (.int .i64 (x.1.length)),.sc (.int .i64 (((x.1.length+(k+k):Nat):Int)))]) (fun x=>[some (.row (cellsOf bb true ((x.1++ja c8 k x.2))) 0 0 48)]) (fun x=>x.1++ja c8 (k+k) x.2=ja c8 (k+k) X∧x.1.length+x.2.length=N∧∀ y ∈ x.2,dk y) (fun x=>x.2.length) ([],X) ⟨rfl,by rw [hN];simp,hV⟩ (by simp only [↓wR,RA,simprocAttr,TF,ag]<;>simp) (by simp only [↓wR,RA,simprocAttr,TF,ag]<;>rfl) ?_
   rintro ⟨D,Y⟩ ⟨h1,h2,h3⟩
   simp only [] at h1 h2 h3 ⊢
   have hm1:(D.length:Int)+k=((D.length+k:Nat):Int):=by omega
   simp only [↓wR,RA,simprocAttr,TF,ag]
   rw [bz];refine ⟨fun h4=>?_,fun h4=>?_⟩
   ·have hle:k+k≤Y.length:=by omega
    have hb1:((D.length+(k+k):Nat):Int)+((k+k:Nat):Int)=((D.length+(k+k)+(k+k):Nat):Int):=by omega
    have l1:(Y.take k).length=k:=by rw [List.length_take];omega
    have l2:((Y.drop k).take k).length=k:=by rw [List.length_take,List.length_drop];omega
    have hsym:=I6 (k+k) N D.length (D.length+k) (D.length+(k+k)) D (dh c8 (Y.take k)) (dh c8 ((Y.drop k).take k)) (ja c8 k (Y.drop (k+k))) (by omega) (by simp only [List.length_append,gp,l1,l2,ap5 hk0 _ _ (Nat.le_refl _),List.length_drop];omega) hs rfl (by rw [gp,l1]) (by rw [gp,l2];omega) (by rw [gp,l1];exact hk0) (by rw [gp,l2];exact hk0) (fun x hx=>h3 x (List.mem_of_mem_take (fv.1 hx))) (fun x hx=>h3 x (List.mem_of_mem_drop (List.mem_of_mem_take (fv.1 hx)))) (tn ng _ (fun y hy=>h3 y (List.mem_of_mem_take hy))) (tn ng _ (fun y hy=>h3 y (List.mem_of_mem_drop (List.mem_of_mem_take hy))))
    rw [Pe ng _ _ (fun y hy=>h3 y (List.mem_of_mem_take hy)) (fun y hy=>h3 y (List.mem_of_mem_drop (List.mem_of_mem_take hy))),amf,show D++dh c8 (Y.take k)++dh c8 ((Y.drop k).take k)++ja c8 k (Y.drop (k+k))=D++ja c8 k Y by rw [aqb hk0 hle];simp] at hsym
    simp only [↓wR,RA,simprocAttr,TF,ag,h4,hm1];repeat (simp (disch:=omega) only [ah,cb,cd,cg,cf];try simp only [↓wR,RA,simprocAttr,TF,ag,h4,hm1])
    refine iu hsym ?_
    rintro _ _ ⟨rfl,rfl⟩
    simp only [↓wR,RA,simprocAttr,TF,ag,gj,e2,hb1];repeat (simp (disch:=omega) only [ah,cb,cd,cg,cf];try simp only [↓wR,RA,simprocAttr,TF,ag,gj,e2,hb1])
    refine ⟨(D++dh c8 (Y.take (k+k)),Y.drop (k+k)),⟨?_,?_,fun y hy=>h3 y (List.mem_of_mem_drop hy)⟩,?_,?_,?_⟩
    ·rw [← h1,B7 (l:=Y) (by omega) hle,List.append_assoc]
    ·simp only [List.length_append,gp,List.length_drop,List.length_take];omega
    ·simp only [List.length_drop];omega
    ·have:(D++dh c8 (Y.take (k+k))).length=D.length+(k+k):=by simp only [List.length_append,gp,List.length_take];omega
     simp only [this]
    ·rfl
   ·have hle:Y.length<k+k:=by omega
    have e3:(k:Int) * 2=((k+k:Nat):Int):=by omega
    simp only [↓wR,RA,simprocAttr,TF,ag,h4,hm1];repeat (simp (disch:=omega) only [ah,cb,cd,cg,cf];try simp only [↓wR,RA,simprocAttr,TF,ag,h4,hm1])
    rw [bz];refine ⟨fun h5=>?_,fun h5=>?_⟩
    ·have hlt:k<Y.length:=by omega
     have l1:(Y.take k).length=k:=by rw [List.length_take];omega
     have hsym:=I6 (k+k) N D.length (D.length+k) N D (dh c8 (Y.take k)) (dh c8 (Y.drop k)) [] (by omega) (by simp only [List.length_append,gp,l1,List.length_drop,List.length_nil];omega) hs rfl (by rw [gp,l1]) (by rw [gp,List.length_drop];omega) (by rw [gp,l1];exact hk0) (by rw [gp,List.length_drop];omega) (fun x hx=>h3 x (List.mem_of_mem_take (fv.1 hx))) (fun x hx=>h3 x (List.mem_of_mem_drop (fv.1 hx))) (tn ng _ (fun y hy=>h3 y (List.mem_of_mem_take hy))) (tn ng _ (fun y hy=>h3 y (List.mem_of_mem_drop hy)))
     rw [Pe ng _ _ (fun y hy=>h3 y (List.mem_of_mem_take hy)) (fun y hy=>h3 y (List.mem_of_mem_drop hy)),List.take_append_drop,List.append_nil,List.append_nil,show D++dh c8 (Y.take k)++dh c8 (Y.drop k)=D++ja c8 k Y by rw [amy hk0 hlt (by omega)];simp,show D++dh c8 Y=ja c8 (k+k) X by rw [← h1,ta (by omega)]] at hsym
     simp only [↓wR,RA,simprocAttr,TF,ag,h5];repeat (simp (disch:=omega) only [ah,cb,cd,cg,cf];try simp only [↓wR,RA,simprocAttr,TF,ag,h5])
     refine iu hsym ?_
     rintro _ _ ⟨rfl,rfl⟩
     simp only [↓wR,RA,simprocAttr,TF,ag,gj,e3];repeat (simp (disch:=omega) only [ah,cb,cd,cg,cf];try simp only [↓wR,RA,simprocAttr,TF,ag,gj,e3])
     exact ⟨k+k,⟨by omega,by omega⟩,by omega,by (first|rfl|trivial|omega|((try (simp (disch:=omega) only [ah]));(try (simp only [FB]));first|done|rfl|omega)),by (first|rfl|trivial|omega|((try (simp (disch:=omega) only [ah]));(try (simp only [FB]));first|done|rfl|omega))⟩
    ·have hlt:Y.length≤k:=by omega
     rw [show D++ja c8 k Y=ja c8 (k+k) X by rw [← h1,ta hlt,ta (by omega)]]
     simp only [↓wR,RA,simprocAttr,TF,ag,h5,e3];repeat (simp (disch:=omega) only [ah,cb,cd,cg,cf];try simp only [↓wR,RA,simprocAttr,TF,ag,h5,e3])
     exact ⟨k+k,⟨by omega,by omega⟩,by omega,by (first|rfl|trivial|omega|((try (simp (disch:=omega) only [ah]));(try (simp only [FB]));first|done|rfl|omega)),by (first|rfl|trivial|omega|((try (simp (disch:=omega) only [ah]));(try (simp only [FB]));first|done|rfl|omega))⟩
  ·have hle:X.length≤k:=by omega
   rw [ta hle]
   simp only [↓wR,RA,simprocAttr,TF,ag,h,xi,uo,sf]
theorem Ve (N:Nat) (X:List ba) (hN:N=X.length) (hs:N≤1048576) (hV:∀ x ∈ X,dk x) :
 g9 PP 22 [.sl 0 0 N 5,(.sc (.func (.func 23) #[] #[]))] (az [some (.row (cellsOf bb true ((X))) 0 0 48)])
  (fun r st'=>r = .gu []∧st'=az [some (.row (cellsOf bb true ((dh c8 X))) 0 0 48)]):=by
 refine ke _ rfl ?_ (fun r st' h=>h)
 refine dp (T:=[]) (aq.nil PP) mixed Try.func22 rfl (by kernel_rfl) (by kernel_rfl) (by kernel_rfl) (by kernel_rfl) ?_;unfold Try.f22
 simp only [↓wR,RA,simprocAttr,TF,ag]
 refine iu (Vr N X hN hs hV) ?_
 rintro _ _ ⟨rfl,rfl⟩
 simp only [↓wR,RA,simprocAttr,TF,ag,gj,xi,uo,sf]
theorem akd (l:List ba) (hl:D9 l) (hl2:l.length≤1048576):wl PP [apr] 0 (Try.f8.body.getD .skip) (ea PP Try.f8.results.toList (fun r st=>(r1 (bt bb)).get true st.h r=some (dh c8 l))) (cq 0 [(bt bb).val false l]) (az []):=by
 have hlen:=hl.1
 unfold Try.f8
 simp only [↓wR,RA,simprocAttr,TF,ag]
 refine nq [6,7,8,3] (fun (x:List ba)=>[.vl false 5 (l.map (bb.val false)),.sc (.int .i64 (l.length)),.sc (.int .i64 (x.length)),.sl 0 0 x.length 5]) (fun x=>[some (.row (cellsOf bb true ((x))) 0 0 48)]) (fun x=>x.length≤l.length∧x++l.drop x.length=l) (fun x=>l.length - x.length) [] ⟨Nat.zero_le _,rfl⟩ (by simp only [↓wR,RA,simprocAttr,TF,ag];(refine ny.lax [] (by first|exact Nat.le_of_ble_eq_true rfl|(simp [be];omega)) ?_ ?_<;>repeat' first|exact je.nil|exact dn.nil|exact kx.same _|exact kx.nil _ _ _|exact kx.zf _ _|exact dn.refl _ _|apply je.cons|apply dn.ghost|apply dn.same|apply dn.row)) ?_
 rintro x ⟨hi,hx⟩
 simp only [↓wR,RA,simprocAttr,TF,ag]
 rw [bz];refine ⟨fun h=>?_,fun h=>?_⟩
 ·obtain ⟨c,hc,hd1,hlt⟩:=ku (decide_eq_true h)
  rw [hd1] at hx
  have hcs:=hl.2 c (List.mem_of_getElem? hc)
  have hlim:(x.length * 5+5) * 64≤140737488355328:=by omega
  simp only [↓wR,RA,simprocAttr,TF,ag,h,hc,zd,hcs,hlim];repeat (simp (disch:=omega) only [ah,cb,cd,cg,cf];try simp only [↓wR,RA,simprocAttr,TF,ag,h,hc,zd,hcs,hlim])
  refine ⟨x++[c],⟨by simp;omega,by simpa using hx⟩,by simp;omega,by (first|rfl|trivial|omega|((try (simp (disch:=omega) only [ah]));(try (simp only [FB]));first|done|rfl|omega)),?_⟩
  rw [Wf]
 ·rw [oc (decide_eq_false h),List.append_nil] at hx
  subst hx
  simp only [↓wR,RA,simprocAttr,TF,ag,h]
  refine iu (Ve x.length x rfl hl2 hl.2) ?_
  rintro _ _ ⟨rfl,rfl⟩
  simp only [↓wR,RA,simprocAttr,TF,ag,gj]
  exact n7 bb true _ true (dh c8 x) 0 0 _ x.length (by rw [gp]) rfl
noncomputable def Fb (x:List ba × Unit):Option AV:=if D9 x.1∧x.1.length≤1048576 then some ((r1 (bt bb)).E true (dh c8 x.1)) else none
set_option maxRecDepth 2000000 in
theorem ab1 (x:List ba × Unit) (r:AV) (h:Fb x=some r):bw PP 8 ((aC (bt bb) a0).E x) r:=by
 by_cases hc:D9 x.1∧x.1.length≤1048576
 case neg=>simp only [Fb,if_neg hc] at h;cases h
 simp only [Fb,if_pos hc] at h
 cases h
 exact bg (aq.cons (aw Zq) (aq.nil PP)) Try.func8 (by kernel_rfl) (by kernel_rfl) (by kernel_rfl) (Nat.le_of_ble_eq_true (by kernel_rfl)) (r1 (bt bb)) true (dh c8 x.1) (akd x.1 hc.1 hc.2)
noncomputable abbrev Xm:Nat × Bool × (List AV→M AV):=(8,true,dv (aC (bt bb) a0) Fb)
noncomputable def i3 (s:ba):ba:=if s.data.all (fun d=>decide (c7 s.type d=0))=true then m7 s.owner s.type s.cls s.cx (dh (ltD s.type) s.data) else s
theorem agc (l:List ba):AV.fresh.go (l.map (bb.val true))=true:=Ce (fun c hc=>by obtain ⟨x,_,rfl⟩:=List.mem_map.1 hc;exact U2 bb x)
theorem Yg {α:Type} {μ : α→Nat} {l r:List α} (h:l.Perm r):eh μ l=eh μ r:=by
 induction h with
 |nil=>rfl
 |cons a _ ih=>simp only [eh,List.foldr_cons] at ih ⊢;rw [ih]
 |swap a b l=>simp only [eh,List.foldr_cons];omega
 |trans _ _ i j=>exact i.trans j
def z9 (x n:Int):Int:=if n<1 then 0 else if Int.tmod x n<0 then Int.tmod x n+n else Int.tmod x n
theorem aqa (x n:Int) (hn:n<4611686018427387904):wl PP [] 0 (Try.f7.body.getD .skip) (ea PP Try.f7.results.toList (fun r st=>(r1 (bm .i64)).get true st.h r=some (z9 x n))) (cq 0 [(bm .i64).val false x,(bm .i64).val false n]) (az []):=by
 unfold Try.f7
 simp only [↓wR,RA,simprocAttr,TF,ag]
 rw [bz];refine ⟨fun h=>?_,fun h=>?_⟩
 ·rw [z9,if_pos h]
  simp only [↓wR,RA,simprocAttr,TF,ag,h]
 ·have hn0:n≠0:=by omega
  have hnn:¬ n<1:=of_decide_eq_false (by simpa using h)
  have hlo:=Int.tmod_lt_of_pos x (show 0<n by omega)
  have hlo2 : -n<Int.tmod x n:=by have:=Int.lt_tmod_of_pos x (show 0<n by omega);omega
  rw [z9,if_neg hnn]
  have her:=akp (P:=PP) (t:=3) .i64 x n hn0
  simp only [↓wR,RA,simprocAttr,TF,ag,h,her]
  rw [bz];refine ⟨fun h3=>?_,fun h3=>?_⟩
  ·have hw:IntKind.i64.wrap (Int.tmod x n+n)=Int.tmod x n+n:=ah _ (by omega) (by omega)
   rw [if_pos h3]
   simp only [↓wR,RA,simprocAttr,TF,ag,h3,hw]
  ·rw [if_neg h3]
   simp only [↓wR,RA,simprocAttr,TF,ag,h3]
noncomputable def Ij (x:Int × Int × Unit):Option AV:=if x.2.1<4611686018427387904 then some ((r1 (bm .i64)).E true (z9 x.1 x.2.1)) else none
set_option maxRecDepth 2000000 in
theorem ahk (x:Int × Int × Unit) (r:AV) (h:Ij x=some r):bw PP 7 ((aC (bm .i64) (aC (bm .i64) a0)).E x) r:=by
 by_cases hc:x.2.1<4611686018427387904
 case neg=>simp only [Ij,if_neg hc] at h;cases h
 simp only [Ij,if_pos hc] at h
 cases h
 exact bg (aq.nil PP) Try.func7 (by kernel_rfl) (by kernel_rfl) (by kernel_rfl) (Nat.le_of_ble_eq_true (by kernel_rfl)) (r1 (bm .i64)) true (z9 x.1 x.2.1) (aqa x.1 x.2.1 hc)
noncomputable abbrev ahu:Nat × Bool × (List AV→M AV):=(7,true,dv (aC (bm .i64) (aC (bm .i64) a0)) Ij)
theorem am3 (x:Int) {n:Int} (hn : 0<n) : 0≤z9 x n∧z9 x n<n:=by
 have hlo:=Int.tmod_lt_of_pos x hn
 have hlo2:=Int.lt_tmod_of_pos x hn
 unfold z9
 rw [if_neg (by omega)]
 split<;>omega
theorem ahs (x:dc) (ho:c0 x.owner) (hd:cp x.data):wl PP [abd,am8] 0 (Try.f20.body.getD .skip) (ea PP Try.f20.results.toList (fun r st=>(r1 cy).get true st.h r=some x)) (cq 0 [cy.val false x]) (az []):=by
 have hol:=an7 ho
 have hq:∀ a b c d,de a b c=d→de a b c=d:=fun _ _ _ _ h=>h
 unfold Try.f20
 simp only [u4]
 simp only [↓wR,RA,simprocAttr,TF,ag]
 refine ⟨by kernel_rfl,.inl ?_⟩
 simp only [↓wR,RA,simprocAttr,TF,ag,u1,hol,Ar,hd]
 apply hq;kernel_rfl
noncomputable def zm (x:dc × Unit):Option AV:=if c0 x.1.owner∧cp x.1.data then some ((r1 cy).E true (x.1)) else none
set_option maxRecDepth 2000000 in
theorem Yz (x:dc × Unit) (r:AV) (h:zm x=some r):bw PP 20 ((aC cy a0).E x) r:=by
 by_cases hc:c0 x.1.owner∧cp x.1.data
 case neg=>simp only [zm,if_neg hc] at h;cases h
 simp only [zm,if_pos hc] at h
 cases h
 exact bg (aq.cons (aw Hi) (aq.cons (aw Vj) (aq.nil PP))) Try.func20 (by kernel_rfl) (by kernel_rfl) (by kernel_rfl) (Nat.le_of_ble_eq_true (by kernel_rfl)) (r1 cy) true (x.1) (ahs x.1 hc.1 hc.2)
noncomputable abbrev aph:Nat × Bool × (List AV→M AV):=(20,true,dv (aC cy a0) zm)
theorem Vo (l:List dc) (hg:wb l):g9 PP 6 [(bt cy).val false l] (az [])
 (fun r st'=>r = .sl 0 0 l.length 8∧st'=az [some (.row (cellsOf cy true (l)) 0 0 43)]):=by
 have hln:=hg.len
 have hgo:∀ c ∈ l,c0 c.owner∧cp c.data:=fun c hc=>⟨hg.owner c hc,by
  have h1:l9 c<eh l9 l:=xj hc
  have h2:=hg.data
  unfold cp;unfold l9 at *;omega⟩
 refine ke _ rfl ?_ (fun r st' h=>h)
 simp only [m9]
 refine dp (T:=[aph]) (aq.cons (aw Yz) (aq.nil PP)) mixed Try.func6 rfl (by kernel_rfl) (by kernel_rfl) (by kernel_rfl) (by kernel_rfl) ?_;unfold Try.f6
 simp only [↓wR,RA,simprocAttr,TF,ag]
 refine nq [0,4,3] (fun (x:List dc)=>[.vl false 8 (l.map (cy.val false)),.sc (.int .i64 (x.length)),.sl 0 0 x.length 8]) (fun x=>[some (.row (cellsOf cy true (x)) 0 0 43)]) (fun x=>x.length≤l.length∧x++l.drop x.length=l) (fun x=>l.length - x.length) [] ⟨Nat.zero_le _,rfl⟩ (by simp only [↓wR,RA,simprocAttr,TF,ag];(refine ny.lax [] (by first|exact Nat.le_of_ble_eq_true rfl|(simp [be];omega)) ?_ ?_<;>repeat' first|exact je.nil|exact dn.nil|exact kx.same _|exact kx.nil _ _ _|exact kx.zf _ _|exact dn.refl _ _|apply je.cons|apply dn.ghost|apply dn.same|apply dn.row)) ?_
 rintro x ⟨hi,hx⟩
 simp only [↓wR,RA,simprocAttr,TF,ag]
 rw [bz];refine ⟨fun h=>?_,fun h=>?_⟩
 ·obtain ⟨c,hc,hd1,hlt⟩:=ku (decide_eq_true h)
  rw [hd1] at hx
  have hcs:=hgo c (List.mem_of_getElem? hc)
  have hlim:(x.length * 8+8) * 160≤140737488355328:=by omega
  simp only [↓wR,RA,simprocAttr,TF,ag,h,hc,zm,hcs,hlim];repeat (simp (disch:=omega) only [ah,cb,cd,cg,cf];try simp only [↓wR,RA,simprocAttr,TF,ag,h,hc,zm,hcs,hlim])
  refine ⟨x++[c],⟨by simp;omega,by simpa using hx⟩,by simp;omega,by (first|rfl|trivial|omega|((try (simp (disch:=omega) only [ah]));(try (simp only [FB]));first|done|rfl|omega)),?_⟩
  rw [W3]
 ·rw [oc (decide_eq_false h),List.append_nil] at hx
  subst hx
  simp only [↓wR,RA,simprocAttr,TF,ag,h,xi,uo,sf]
noncomputable def zw (s:ba) (r:dc):Bool:=s.type == r.type && s.cls == r.cls && ib s.owner r.owner
noncomputable def Bf (s:ba) (r:dc) (l:List bp):Nat:=(l.filter fun d=>my r.type d r.data && decide (s.cx.toNat≤r.cx.toNat)).length
noncomputable def sq (l:List ba) (r:dc):Nat:=(l.map fun s=>if zw s r=true then Bf s r s.data else 0).sum
theorem aps (l:List ba) (r:dc) (hl:∀ s ∈ l,c0 s.owner∧jl s.data) (hll:l.length≤1048576) (ho:c0 r.owner) (hd:cp r.data):wl PP [aa3,aau] 0 (Try.f11.body.getD .skip) (ea PP Try.f11.results.toList (fun rr st=>(r1 (bm .i64)).get true st.h rr=some ((sq l r:Nat):Int))) (cq 0 [(bt bb).val false l,cy.val false r]) (az []):=by
 have hq:∀ a b c d,de a b c=d→de a b c=d:=fun _ _ _ _ h=>h
 unfold Try.f11
 simp only [m9,u4]
 simp only [↓wR,RA,simprocAttr,TF,ag]
 refine ff [0,3,5,6] (fun (i:Nat)=>[.vl false 5 (l.map (bb.val false)),.ptr 0 0,.sc (.int .i64 (sq (l.take i) r)),.sc (.int .i64 (i))]) (fun _=>[some (.row [.vl false 1 (r.owner.map (ak.val false)),.sc (.int .u16 r.type.toNat),.sc (.int .u16 r.cls.toNat),.sc (.int .u32 r.cx.toNat),.vl false 1 (r.data.names.map (ay.val false)),.vl false 1 (r.data.nums.map (cj.val false)),.vl false 1 (r.data.texts.map (ak.val false)),.vl false 1 (r.data.raw.map (bd.val false))] 0 2 43)]) (fun i=>i≤l.length∧(sq (l.take i) r:Int)≤(i:Int) * 16777216) (fun i=>l.length - i) 0 ⟨Nat.zero_le _,by simp [sq]⟩ (by simp only [↓wR,RA,simprocAttr,TF,ag]<;>rfl) (by simp only [↓wR,RA,simprocAttr,TF,ag]<;>rfl) ?_
 rintro i ⟨hi,hb⟩
 simp only [↓wR,RA,simprocAttr,TF,ag]
 rw [bz];refine ⟨fun h=>?_,fun h=>?_⟩
 ·obtain ⟨s,hs,hd1,hlt⟩:=ku (decide_eq_true h)
  obtain ⟨hso,hsd⟩:=hl s (List.mem_of_getElem? hs)
  have hnext:sq (l.take (i+1)) r=sq (l.take i) r+(if zw s r=true then Bf s r s.data else 0):=by
   unfold sq;rw [j7 hs,List.map_append,List.sum_append];simp
  have hno:zw s r=false→sq (l.take (i+1)) r=sq (l.take i) r:=fun hf=>by rw [hnext,hf];rfl
  simp only [↓wR,RA,simprocAttr,TF,ag,h,hs]
  refine ⟨by kernel_rfl,.inl ?_⟩
  rw [pc];refine ⟨fun ⟨h1,e1⟩=>?_,fun ⟨h1,e1⟩=>?_⟩
  ·have hf:zw s r=false:=by
    unfold zw
    have:(s.type == r.type)=false:=by simpa using fun e:s.type=r.type=>e1 (by rw [e])
    rw [this];rfl
   simp only [↓wR,RA,simprocAttr,TF,ag,h1]
   refine ⟨by apply hq;kernel_rfl,i+1,⟨hlt,?_⟩,by omega,?_⟩
   ·rw [hno hf];omega
   ·rw [hno hf];(first|rfl|trivial|omega|((try (simp (disch:=omega) only [ah]));(try (simp only [FB]));first|done|rfl|omega))
  ·simp only [↓wR,RA,simprocAttr,TF,ag,h1,hs]
   rw [pc];refine ⟨fun ⟨h2,e2⟩=>?_,fun ⟨h2,e2⟩=>?_⟩
   ·have hf:zw s r=false:=by
     unfold zw
     have:(s.cls == r.cls)=false:=by simpa using fun e:s.cls=r.cls=>e2 (by rw [e])
     rw [this,Bool.and_false];rfl
    simp only [↓wR,RA,simprocAttr,TF,ag,h2]
    refine ⟨by apply hq;kernel_rfl,i+1,⟨hlt,?_⟩,by omega,?_⟩
    ·rw [hno hf];omega
    ·rw [hno hf];(first|rfl|trivial|omega|((try (simp (disch:=omega) only [ah]));(try (simp only [FB]));first|done|rfl|omega))
   ·simp only [↓wR,RA,simprocAttr,TF,ag,h2,hs,xa,hso,ho]
    refine ⟨by apply hq;kernel_rfl,?_⟩
    rw [fk];refine ⟨fun h3=>?_,fun h3=>?_⟩
    ·have hf:zw s r=false:=by
      unfold zw
      rw [show ib s.owner r.owner=false by simpa using h3,Bool.and_false]
     simp only [↓wR,RA,simprocAttr,TF,ag,h3]
     refine ⟨i+1,⟨hlt,?_⟩,by omega,?_⟩
     ·rw [hno hf];omega
     ·rw [hno hf];(first|rfl|trivial|omega|((try (simp (disch:=omega) only [ah]));(try (simp only [FB]));first|done|rfl|omega))
    ·have hf:zw s r=true:=by
      unfold zw
      have q1:(s.type == r.type)=true:=by rw [beq_iff_eq];exact UInt16.toNat_inj.1 (by omega)
      have q2:(s.cls == r.cls)=true:=by rw [beq_iff_eq];exact UInt16.toNat_inj.1 (by omega)
      rw [q1,q2,show ib s.owner r.owner=true by simpa using h3];rfl
     rw [if_pos hf] at hnext
     have hdl:=hsd.len
     have hle:∀ k,(Bf s r (s.data.take k):Int)≤k:=fun k=>by
      have h1:Bf s r (s.data.take k)≤(s.data.take k).length:=List.length_filter_le _ _
      have h2:(s.data.take k).length≤k:=by rw [List.length_take];omega
      omega
     simp only [↓wR,RA,simprocAttr,TF,ag]
     refine ff [0,3,5,6,7] (fun (k:Nat)=>[.vl false 5 (l.map (bb.val false)),.ptr 0 0,.sc (.int .i64 (sq (l.take i) r+Bf s r (s.data.take k))),.sc (.int .i64 (i)),.sc (.int .i64 (k))]) (fun _=>[some (.row [.vl false 1 (r.owner.map (ak.val false)),.sc (.int .u16 r.type.toNat),.sc (.int .u16 r.cls.toNat),.sc (.int .u32 r.cx.toNat),.vl false 1 (r.data.names.map (ay.val false)),.vl false 1 (r.data.nums.map (cj.val false)),.vl false 1 (r.data.texts.map (ak.val false)),.vl false 1 (r.data.raw.map (bd.val false))] 0 2 43)]) (fun k=>k≤s.data.length) (fun k=>s.data.length - k) 0 (Nat.zero_le _) (by simp only [↓wR,RA,simprocAttr,TF,ag]<;>rfl) (by simp only [↓wR,RA,simprocAttr,TF,ag]<;>rfl) ?_
     intro k hk
     have hkk:=hle k
     simp only [↓wR,RA,simprocAttr,TF,ag,hs]
     rw [bz];refine ⟨fun h5=>?_,fun h5=>?_⟩
     ·obtain ⟨d,hds,hd5,hlt5⟩:=ku (decide_eq_true h5)
      have hdd:=hsd.mem d (List.mem_of_getElem? hds)
      have hn5:Bf s r (s.data.take (k+1))=Bf s r (s.data.take k)+(if (my r.type d r.data && decide (s.cx.toNat≤r.cx.toNat))=true then 1 else 0):=by
       unfold Bf;rw [j7 hds,List.filter_append,List.length_append]
       simp only [List.filter_cons,List.filter_nil]
       split<;>rfl
      simp only [↓wR,RA,simprocAttr,TF,ag,h5,hs,hds]
      refine ⟨by kernel_rfl,.inl ?_⟩
      simp only [↓wR,RA,simprocAttr,TF,ag,wz,hdd,hd]
      rw [fk];refine ⟨fun h6=>?_,fun h6=>?_⟩
      ·simp only [↓wR,RA,simprocAttr,TF,ag,h6,hs]
       refine ⟨by apply hq;kernel_rfl,?_⟩
       rw [bz];refine ⟨fun h7=>?_,fun h7=>?_⟩
       ·have hc:(my r.type d r.data && decide (s.cx.toNat≤r.cx.toNat))=true:=by rw [h6,Bool.true_and];exact decide_eq_true (by omega)
        rw [if_pos hc] at hn5
        simp only [↓wR,RA,simprocAttr,TF,ag,h7];repeat (simp (disch:=omega) only [ah,cb,cd,cg,cf];try simp only [↓wR,RA,simprocAttr,TF,ag,h7])
        refine ⟨k+1,hlt5,by omega,?_⟩
        rw [hn5];(first|rfl|trivial|omega|((try (simp (disch:=omega) only [ah]));(try (simp only [FB]));first|done|rfl|omega))
       ·have hc:(my r.type d r.data && decide (s.cx.toNat≤r.cx.toNat))=false:=by rw [h6,Bool.true_and];exact decide_eq_false (by omega)
        rw [hc] at hn5
        simp only [↓wR,RA,simprocAttr,TF,ag,h7];repeat (simp (disch:=omega) only [ah,cb,cd,cg,cf];try simp only [↓wR,RA,simprocAttr,TF,ag,h7])
        refine ⟨k+1,hlt5,by omega,?_⟩
        rw [hn5];(first|rfl|trivial|omega|((try (simp (disch:=omega) only [ah]));(try (simp only [FB]));first|done|rfl|omega))
      ·rw [h6,Bool.false_and] at hn5
       simp only [↓wR,RA,simprocAttr,TF,ag,h6];repeat (simp (disch:=omega) only [ah,cb,cd,cg,cf];try simp only [↓wR,RA,simprocAttr,TF,ag,h6])
       refine ⟨by apply hq;kernel_rfl,k+1,hlt5,by omega,?_⟩
       rw [hn5];(first|rfl|trivial|omega|((try (simp (disch:=omega) only [ah]));(try (simp only [FB]));first|done|rfl|omega))
     ·have hin:s.data.take k=s.data:=List.take_of_length_le (by have:=decide_eq_false_iff_not.1 (show decide ((k:Int)<s.data.length)=false by simpa using h5);omega)
      rw [hin]
      have hlast:=hle s.data.length
      rw [List.take_length] at hlast
      simp only [↓wR,RA,simprocAttr,TF,ag,h5];repeat (simp (disch:=omega) only [ah,cb,cd,cg,cf];try simp only [↓wR,RA,simprocAttr,TF,ag,h5])
      refine ⟨i+1,⟨hlt,?_⟩,by omega,?_⟩
      ·rw [hnext];omega
      ·rw [hnext];(first|rfl|trivial|omega|((try (simp (disch:=omega) only [ah]));(try (simp only [FB]));first|done|rfl|omega))
 ·have hin:l.take i=l:=List.take_of_length_le (by have:=decide_eq_false_iff_not.1 (show decide ((i:Int)<l.length)=false by simpa using h);omega)
  rw [hin]
  simp only [↓wR,RA,simprocAttr,TF,ag,h]
noncomputable def Fi (x:List ba × dc × Unit):Option AV:=if D9 x.1∧x.1.length≤1048576∧c0 x.2.1.owner∧cp x.2.1.data then some ((r1 (bm .i64)).E true (((sq x.1 x.2.1:Nat):Int))) else none
set_option maxRecDepth 2000000 in
theorem ahv (x:List ba × dc × Unit) (r:AV) (h:Fi x=some r):bw PP 11 ((aC (bt bb) (aC cy a0)).E x) r:=by
 by_cases hc:D9 x.1∧x.1.length≤1048576∧c0 x.2.1.owner∧cp x.2.1.data
 case neg=>simp only [Fi,if_neg hc] at h;cases h
 simp only [Fi,if_pos hc] at h
 cases h
 exact bg (aq.cons (aw Hs) (aq.cons (aw Hl) (aq.nil PP))) Try.func11 (by kernel_rfl) (by kernel_rfl) (by kernel_rfl) (Nat.le_of_ble_eq_true (by kernel_rfl)) (r1 (bm .i64)) true (((sq x.1 x.2.1:Nat):Int)) (aps x.1 x.2.1 (fun s hs=>⟨(hc.1.2 s hs).owner,(hc.1.2 s hs).data⟩) hc.2.1 hc.2.2.1 hc.2.2.2)
noncomputable abbrev aha:Nat × Bool × (List AV→M AV):=(11,true,dv (aC (bt bb) (aC cy a0)) Fi)
theorem keyBytes_inj:∀ (a b:Name),(∀ l ∈ a,l.size<256)→(∀ l ∈ b,l.size<256)→keyBytes a=keyBytes b→a=b
 | [],[],_,_,_=>rfl
 | [],y::b,_,_,h=>by simp [keyBytes] at h
 |x::a,[],_,_,h=>by simp [keyBytes] at h
 |x::a,y::b,ha,hb,h=>by
  have h':UInt8.ofNat x.size::x.data.toList++keyBytes a=UInt8.ofNat y.size::y.data.toList++keyBytes b:=h
  simp only [List.cons_append,List.cons.injEq] at h'
  obtain ⟨h1,h2⟩:=h'
  have hx:=ha x (by simp)
  have hy:=hb y (by simp)
  have hs:x.size=y.size:=by
   have:=congrArg UInt8.toNat h1
   simp only [UInt8.toNat_ofNat'] at this
   omega
  have hlx:x.data.toList.length=x.size:=Array.length_toList
  have hly:y.data.toList.length=y.size:=Array.length_toList
  obtain ⟨q1,q2⟩:=List.append_inj h2 (by omega)
  have hxy:x=y:=by
   obtain ⟨dx⟩:=x
   obtain ⟨dy⟩:=y
   have:dx=dy:=Array.ext' q1
   rw [this]
  rw [hxy,keyBytes_inj a b (fun l hl=>ha l (by simp [hl])) (fun l hl=>hb l (by simp [hl])) q2]
theorem P8 {n:Name} (h:cw n=0):∀ l ∈ n,l.size<256:=fun l hl=>by
 unfold cw at h
 split at h
 ·cases h
 rename_i hb
 have:¬ iz l≠0:=fun hne=>hb (by
  unfold qa;rw [List.any_eq_true];exact ⟨l,hl,decide_eq_true hne⟩)
 unfold iz at this
 split at this
 ·exact absurd (by decide) this
 ·omega
theorem yd {a b:Name} (ha:cw a=0) (hb:cw b=0):o8 a=o8 b↔ed a=ed b:=by
 refine ⟨fun h=>?_,fun h=>by unfold o8;rw [h]⟩
 unfold o8 at h
 have h1:(keyBytes (ed a)).toArray=(keyBytes (ed b)).toArray:=by rw [ByteArray.mk.injEq] at h;exact h
 have h2:keyBytes (ed a)=keyBytes (ed b):=by simpa using congrArg Array.toList h1
 refine keyBytes_inj _ _ (fun l hl=>?_) (fun l hl=>?_) h2
 ·obtain ⟨m,hm,rfl⟩:=List.mem_map.1 hl
  rw [Dr];exact P8 ha m hm
 ·obtain ⟨m,hm,rfl⟩:=List.mem_map.1 hl
  rw [Dr];exact P8 hb m hm
theorem Pj {k:fy}:∀ (ks:List fy) (i:Nat),jk k i ks=none↔k ∉ ks
 | [],i=>by simp [jk]
 |a::r,i=>by
  unfold jk
  by_cases e:k=a
  ·rw [if_pos e];simp [e]
  ·rw [if_neg e,Pj r (i+1)];simp [e]
theorem A9 {k:fy}:∀ (ks:List fy) (i j:Nat),jk k i ks=some j→∃ p,j=i+p∧ks[p]? = some k
 | [],i,j,h=>by cases h
 |a::r,i,j,h=>by
  unfold jk at h
  by_cases e:k=a
  ·rw [if_pos e] at h;cases h;exact ⟨0,rfl,by rw [e];rfl⟩
  ·rw [if_neg e] at h
   obtain ⟨p,h1,h2⟩:=A9 r (i+1) j h
   exact ⟨p+1,by omega,h2⟩
structure gz (q:List dc) (L:List ba):Prop where
 keys:(L.map b9).Nodup
 ym:∀ s ∈ L,cw s.owner=0∧(∃ r ∈ q,gk r=b9 s∧r.cx=s.cx)∧∀ r ∈ q,gk r=b9 s→s.cx.toNat≤r.cx.toNat
 data:∀ s ∈ L,∀ d ∈ s.data,c7 s.type d=0∧∃ r ∈ q,gk r=b9 s∧r.data=d
 apart:∀ s ∈ L,ir s.type [] s.data=0
 Wb:∀ s ∈ L,0<s.data.length
 all:∀ r ∈ q,cw r.owner=0∧c7 r.type r.data=0∧∃ s ∈ L,b9 s=gk r∧jj s.type s.data r.data=true
theorem gz.nil:gz [] []:=⟨List.nodup_nil,fun s hs=>(by cases hs),fun s hs=>(by cases hs),fun s hs=>(by cases hs),fun s hs=>(by cases hs),fun r hr=>(by cases hr)⟩
theorem Cm (t:UInt16) (d:bp):∀ (l acc:List bp),ir t acc l=0→c7 t d=0→jj t (acc++l) d=false→ir t acc (l++[d])=0
 | [],acc,_,h1,h2=>by
  rw [List.append_nil] at h2
  show ir t acc [d]=0
  rw [ir,if_neg (by rw [h1];simp),if_neg (by rw [h2];simp)]
  rfl
 |x::l,acc,h,h1,h2=>by
  rw [ir] at h
  show ir t acc (x::(l++[d]))=0
  rw [ir]
  split at h
  ·exact absurd h (by assumption)
  rename_i e1
  split at h
  ·cases h
  rename_i e2
  rw [if_neg e1,if_neg e2]
  exact Cm t d l (acc++[x]) h h1 (by rw [List.append_assoc];exact h2)
theorem gz.new {q:List dc} {L:List ba} (h:gz q L) {r:dc} (h1:cw r.owner=0) (h2:c7 r.type r.data=0) (hk:jk (gk r) 0 (L.map b9)=none):gz (q++[r]) (L++[m7 r.owner r.type r.cls r.cx [r.data]]):=by
 have hk':=(Pj _ 0).1 hk
 have hkey:b9 (m7 r.owner r.type r.cls r.cx [r.data])=gk r:=rfl
 have hself:jj r.type [r.data] r.data=true:=by
  unfold jj;rw [List.any_cons,Nt h2];rfl
 have hnok:∀ r' ∈ q,gk r'≠gk r:=fun r' hr' e=>by
  obtain ⟨_,_,s,hs,e2,_⟩:=h.all r' hr'
  exact hk' (List.mem_map.2 ⟨s,hs,by rw [e2,e]⟩)
 have hnos:∀ s ∈ L,b9 s≠gk r:=fun s hs e=>hk' (List.mem_map.2 ⟨s,hs,e⟩)
 refine ⟨?_,fun s hs=>?_,fun s hs d hd=>?_,fun s hs=>?_,fun s hs=>?_,fun r' hr'=>?_⟩
 ·rw [List.map_append,List.map_cons,List.map_nil,hkey,List.nodup_append]
  exact ⟨h.keys,by simp,fun a ha b hb e=>hk' (by simp only [List.mem_singleton] at hb;rw [← hb,← e];exact ha)⟩
 ·rcases List.mem_append.1 hs with hsL|hs
  ·obtain ⟨a1,⟨r1,a2,a3⟩,a4⟩:=h.ym s hsL
   refine ⟨a1,⟨r1,by simp [a2],a3⟩,fun r' hr' e=>?_⟩
   rcases List.mem_append.1 hr' with hr'|hr'
   ·exact a4 r' hr' e
   ·simp only [List.mem_singleton] at hr';subst hr';exact absurd e.symm (hnos s hsL)
  ·simp only [List.mem_singleton] at hs;subst hs
   refine ⟨h1,⟨r,by simp,rfl,rfl⟩,fun r' hr' e=>?_⟩
   rcases List.mem_append.1 hr' with hr'|hr'
   ·exact absurd e (hnok r' hr')
   ·simp only [List.mem_singleton] at hr';subst hr';exact Nat.le_refl _
 ·rcases List.mem_append.1 hs with hs|hs
  ·obtain ⟨a1,r1,a2,a3⟩:=h.data s hs d hd
   exact ⟨a1,r1,by simp [a2],a3⟩
  ·simp only [List.mem_singleton] at hs;subst hs
   have hd:d=r.data:=List.mem_singleton.1 hd
   subst hd
   exact ⟨h2,r,by simp,rfl,rfl⟩
 ·rcases List.mem_append.1 hs with hs|hs
  ·exact h.apart s hs
  ·simp only [List.mem_singleton] at hs;subst hs
   exact Cm r.type r.data [] [] rfl h2 rfl
 ·rcases List.mem_append.1 hs with hs|hs
  ·exact h.Wb s hs
  ·simp only [List.mem_singleton] at hs;subst hs;show 0<1;omega
 ·rcases List.mem_append.1 hr' with hr'|hr'
  ·obtain ⟨a1,a2,s,hs,a3⟩:=h.all r' hr'
   exact ⟨a1,a2,s,by simp [hs],a3⟩
  ·simp only [List.mem_singleton] at hr';subst hr'
   exact ⟨h1,h2,m7 r'.owner r'.type r'.cls r'.cx [r'.data],by simp,rfl,hself⟩
theorem arb (a b:UInt32):(pr a b).toNat≤a.toNat∧(pr a b).toNat≤b.toNat∧(pr a b=a∨pr a b=b):=by
 unfold pr
 split
 ·exact ⟨by omega,Nat.le_refl _,.inr rfl⟩
 ·exact ⟨Nat.le_refl _,by omega,.inl rfl⟩
theorem gz.jo {q:List dc} {L:List ba} (h:gz q L) {r:dc} {i:Nat} {s:ba} {d':List bp} (hs:L[i]? = some s) (hk:gk r=b9 s) (h1:cw r.owner=0) (h2:c7 r.type r.data=0)
 (hd:∀ d ∈ d',d ∈ s.data∨d=r.data) (ha:ir s.type [] d'=0) (hsub:∀ x,jj s.type s.data x=true→jj s.type d' x=true) (hr:jj s.type d' r.data=true) (hn : 0<d'.length) :
 gz (q++[r]) (L.set i (m7 s.owner s.type s.cls (pr s.cx r.cx) d')):=by
 obtain ⟨hi,hsi⟩:=List.getElem?_eq_some_iff.1 hs
 have hsL:=List.mem_of_getElem? hs
 have hkey:b9 (m7 s.owner s.type s.cls (pr s.cx r.cx) d')=b9 s:=rfl
 have hty:r.type=s.type:=by
  have:=congrArg (fun k:fy=>k.2.1) hk;exact this
 obtain ⟨m1,m2,m3⟩:=arb s.cx r.cx
 have hmem:∀ x ∈ L.set i (m7 s.owner s.type s.cls (pr s.cx r.cx) d'),x=m7 s.owner s.type s.cls (pr s.cx r.cx) d'∨(x ∈ L∧b9 x≠b9 s):=fun x hx=>by
  obtain ⟨j,hj⟩:=List.mem_iff_getElem?.1 hx
  by_cases e:i=j
  ·subst e
   rw [List.getElem?_set_self hi] at hj;cases hj;exact .inl rfl
  ·rw [List.getElem?_set_ne e] at hj
   refine .inr ⟨List.mem_of_getElem? hj,fun ek=>e ?_⟩
   have hnd:=h.keys
   obtain ⟨hj1,hj2⟩:=List.getElem?_eq_some_iff.1 hj
   have:=(List.getElem_inj (i:=i) (j:=j) (h₀:=by simpa using hi) (h₁:=by simpa using hj1) hnd).1 (by simp only [List.getElem_map,hsi,hj2,ek])
   exact this
 obtain ⟨b1,⟨r1,b2,b3,b4⟩,b5⟩:=h.ym s hsL
 refine ⟨by rw [aa8 hs hkey];exact h.keys,fun x hx=>?_,fun x hx d hdx=>?_,fun x hx=>?_,fun x hx=>?_,fun r' hr'=>?_⟩
 ·rcases hmem x hx with rfl|⟨hx,hne⟩
  ·refine ⟨b1,?_,fun r' hr' e=>?_⟩
   ·rcases m3 with m3|m3
    ·exact ⟨r1,by simp [b2],b3,b4.trans m3.symm⟩
    ·exact ⟨r,by simp,hk,m3.symm⟩
   ·rcases List.mem_append.1 hr' with hr'|hr'
    ·exact Nat.le_trans m1 (b5 r' hr' e)
    ·simp only [List.mem_singleton] at hr';subst hr';exact m2
  ·obtain ⟨a1,⟨r2,a2,a3⟩,a4⟩:=h.ym x hx
   refine ⟨a1,⟨r2,by simp [a2],a3⟩,fun r' hr' e=>?_⟩
   rcases List.mem_append.1 hr' with hr'|hr'
   ·exact a4 r' hr' e
   ·simp only [List.mem_singleton] at hr';subst hr';exact absurd (e.symm.trans hk) hne
 ·rcases hmem x hx with rfl|⟨hx,hne⟩
  ·rcases hd d hdx with q1|q1
   ·obtain ⟨c1,r2,c2,c3⟩:=h.data s hsL d q1
    exact ⟨c1,r2,by simp [c2],c3⟩
   ·subst q1
    exact ⟨by show c7 s.type r.data=0;rw [← hty];exact h2,r,by simp,hk,rfl⟩
  ·obtain ⟨c1,r2,c2,c3⟩:=h.data x hx d hdx
   exact ⟨c1,r2,by simp [c2],c3⟩
 ·rcases hmem x hx with rfl|⟨hx,hne⟩
  ·exact ha
  ·exact h.apart x hx
 ·rcases hmem x hx with rfl|⟨hx,hne⟩
  ·exact hn
  ·exact h.Wb x hx
 ·have fp:m7 s.owner s.type s.cls (pr s.cx r.cx) d' ∈ L.set i (m7 s.owner s.type s.cls (pr s.cx r.cx) d'):=List.mem_of_getElem? (List.getElem?_set_self hi)
  rcases List.mem_append.1 hr' with hr'|hr'
  ·obtain ⟨a1,a2,x,hx,a3,a4⟩:=h.all r' hr'
   refine ⟨a1,a2,?_⟩
   obtain ⟨j,hj⟩:=List.mem_iff_getElem?.1 hx
   by_cases e:i=j
   ·subst e
    rw [hs] at hj;cases hj
    exact ⟨_,fp,a3,hsub _ a4⟩
   ·exact ⟨x,List.mem_of_getElem? ((List.getElem?_set_ne e).trans hj),a3,a4⟩
  ·simp only [List.mem_singleton] at hr';subst hr'
   exact ⟨h1,h2,_,fp,hk.symm,hr⟩
theorem v7:∀ (rest q:List dc) (L a:List ba),gz q L→gq rest L=(a,0)→gz (q++rest) a
 | [],q,L,a,h,e=>by
  rw [gq] at e;cases e
  rw [List.append_nil];exact h
 |r::rest,q,L,a,h,e=>by
  rw [gq] at e
  split at e
  ·rename_i h1;have:=congrArg (fun x:List ba × Int=>x.2) e;exact absurd this h1
  rename_i h1
  have h1:cw r.owner=0:=Decidable.not_not.1 h1
  split at e
  ·rename_i h2;have:=congrArg (fun x:List ba × Int=>x.2) e;exact absurd this h2
  rename_i h2
  have h2:c7 r.type r.data=0:=Decidable.not_not.1 h2
  rw [show q++r::rest=(q++[r])++rest by rw [List.append_assoc];rfl]
  cases hk:jk (gk r) 0 (L.map b9) with
  |none=>
   rw [hk] at e
   exact v7 rest _ _ a (h.new h1 h2 hk) e
  |some i=>
   rw [hk] at e
   simp only at e
   obtain ⟨p,hp,hkp⟩:=A9 _ 0 i hk
   rw [Nat.zero_add] at hp;subst hp
   rw [List.getElem?_map,Option.map_eq_some_iff] at hkp
   obtain ⟨s,hs,hks⟩:=hkp
   rw [hs] at e
   simp only at e
   have hsL:=List.mem_of_getElem? hs
   have hty:r.type=s.type:=by have:=congrArg (fun k:fy=>k.2.1) hks;exact this.symm
   have h2':c7 s.type r.data=0:=by rw [← hty];exact h2
   split at e
   ·rename_i hh
    exact v7 rest _ _ a (h.jo hs hks.symm h1 h2 (fun d hd=>.inl hd) (h.apart s hsL) (fun x hx=>hx) hh (h.Wb s hsL)) e
   rename_i hh
   split at e
   ·have:=congrArg (fun x:List ba × Int=>x.2) e;cases this
   have hh':jj s.type s.data r.data=false:=by simpa using hh
   refine v7 rest _ _ a (h.jo hs hks.symm h1 h2 (fun d hd=>?_) (Cm s.type r.data s.data [] (h.apart s hsL) h2' hh') (fun x hx=>?_) ?_ (by simp)) e
   ·rcases List.mem_append.1 hd with q1|q1
    ·exact .inl q1
    ·exact .inr (List.mem_singleton.1 q1)
   ·unfold jj at hx ⊢;rw [List.any_append,hx];rfl
   ·unfold jj;rw [List.any_append,List.any_cons,Nt h2'];simp
theorem Di:∀ (rest:List dc) (L:List ba),(∀ r ∈ rest,cw r.owner=0∧c7 r.type r.data=0)→(∀ s ∈ L,s.data.length+rest.length≤512)→rest.length≤512→∃ b,gq rest L=(b,0)
 | [],L,_,_,_=>⟨L,rfl⟩
 |r::rest,L,hg,hl,hr=>by
  obtain ⟨h1,h2⟩:=hg r (by simp)
  simp only [List.length_cons] at hl hr
  rw [gq,if_neg (by rw [h1];simp),if_neg (by rw [h2];simp)]
  have hg':∀ r ∈ rest,cw r.owner=0∧c7 r.type r.data=0:=fun r hr=>hg r (by simp [hr])
  cases hk:jk (gk r) 0 (L.map b9) with
  |none=>
   refine Di rest _ hg' (fun s hs=>?_) (by omega)
   rcases List.mem_append.1 hs with hs|hs
   ·have:=hl s hs;omega
   ·simp only [List.mem_singleton] at hs;subst hs
    show 1+rest.length≤512
    omega
  |some i=>
   simp only
   obtain ⟨p,hp,hkp⟩:=A9 _ 0 i hk
   rw [Nat.zero_add] at hp;subst hp
   rw [List.getElem?_map,Option.map_eq_some_iff] at hkp
   obtain ⟨s,hs,_⟩:=hkp
   rw [hs]
   simp only
   have hsl:=hl s (List.mem_of_getElem? hs)
   split
   ·refine Di rest _ hg' (fun x hx=>?_) (by omega)
    rcases List.mem_or_eq_of_mem_set hx with q1|q1
    ·have:=hl x q1;omega
    ·subst q1;show s.data.length+rest.length≤512;omega
   split
   ·omega
   ·refine Di rest _ hg' (fun x hx=>?_) (by omega)
    rcases List.mem_or_eq_of_mem_set hx with q1|q1
    ·have:=hl x q1;omega
    ·subst q1
     show (s.data++[r.data]).length+rest.length≤512
     rw [List.length_append];simp only [List.length_singleton];omega
theorem aip {s s':ba} (hn:ed s.owner=ed s'.owner) (ht:s.type=s'.type) (hc:s.cls=s'.cls) (hu:s.cx=s'.cx) (h1:∀ d ∈ s.data,jj s.type s'.data d=true) (h2:∀ d ∈ s'.data,jj s.type s.data d=true):xo s s'=true:=by
 have w1:tk s s'=true:=by
  unfold tk;rw [List.all_eq_true];exact h1
 have w2:tk s' s=true:=by
  unfold tk;rw [List.all_eq_true];intro d hd;rw [← ht];exact h2 d hd
 unfold xo Fp
 rw [w1,w2]
 simp [show ib s.owner s'.owner=true from ma.2 hn,ht,hc,hu]
theorem gz.amk {q q':List dc} {a b:List ba} (ha:gz q a) (hb:gz q' b) (hq:∀ r,r ∈ q↔r ∈ q') {s:ba} (hs:s ∈ a):∃ s' ∈ b,b9 s'=b9 s∧xo s s'=true:=by
 obtain ⟨n1,⟨r,h1,h2,h3⟩,h4⟩:=ha.ym s hs
 obtain ⟨_,_,s',hs',k1,_⟩:=hb.all r ((hq r).1 h1)
 have hk:b9 s'=b9 s:=k1.trans h2
 obtain ⟨n2,⟨r',g1,g2,g3⟩,g4⟩:=hb.ym s' hs'
 have hty:s'.type=s.type:=congrArg (fun k:fy=>k.2.1) hk
 have hcl:s'.cls=s.cls:=congrArg (fun k:fy=>k.2.2) hk
 have hks:o8 s'.owner=o8 s.owner:=congrArg (fun k:fy=>k.1) hk
 have hfo:=(yd n2 n1).1 hks
 have t1:s.cx.toNat≤s'.cx.toNat:=by rw [← g3];exact h4 r' ((hq r').2 g1) (g2.trans hk)
 have t2:s'.cx.toNat≤s.cx.toNat:=by rw [← h3];exact g4 r ((hq r).1 h1) (h2.trans hk.symm)
 have htt:s.cx=s'.cx:=UInt32.toNat_inj.1 (by omega)
 refine ⟨s',hs',hk,aip hfo.symm hty.symm hcl.symm htt (fun d hd=>?_) (fun d hd=>?_)⟩
 ·obtain ⟨_,r1,e1,e2,e3⟩:=ha.data s hs d hd
  obtain ⟨_,_,x,hx,e4,e5⟩:=hb.all r1 ((hq r1).1 e1)
  have hxs:x=s':=by
   obtain ⟨i,hi⟩:=List.mem_iff_getElem?.1 hx
   obtain ⟨j,hj⟩:=List.mem_iff_getElem?.1 hs'
   obtain ⟨hi1,hi2⟩:=List.getElem?_eq_some_iff.1 hi
   obtain ⟨hj1,hj2⟩:=List.getElem?_eq_some_iff.1 hj
   have:=(List.getElem_inj (i:=i) (j:=j) (h₀:=by simpa using hi1) (h₁:=by simpa using hj1) hb.keys).1 (by simp only [List.getElem_map,hi2,hj2,e4,e2,hk])
   subst this;rw [← hi2,← hj2]
  subst hxs
  rw [← hty,← e3];exact e5
 ·obtain ⟨_,r1,e1,e2,e3⟩:=hb.data s' hs' d hd
  obtain ⟨_,_,x,hx,e4,e5⟩:=ha.all r1 ((hq r1).2 e1)
  have hxs:x=s:=by
   obtain ⟨i,hi⟩:=List.mem_iff_getElem?.1 hx
   obtain ⟨j,hj⟩:=List.mem_iff_getElem?.1 hs
   obtain ⟨hi1,hi2⟩:=List.getElem?_eq_some_iff.1 hi
   obtain ⟨hj1,hj2⟩:=List.getElem?_eq_some_iff.1 hj
   have:=(List.getElem_inj (i:=i) (j:=j) (h₀:=by simpa using hi1) (h₁:=by simpa using hj1) ha.keys).1 (by simp only [List.getElem_map,hi2,hj2,e4,e2,hk])
   subst this;rw [← hi2,← hj2]
  subst hxs
  rw [← e3];exact e5
theorem Pc {α:Type} {lt : α → α→Bool} {R : α → α→Prop} (symm:∀ a b,R a b→R b a) (trans:∀ a b c,R a b→R b c→R a c) (tri:∀ a b,lt a b=false→lt b a=false→R a b) (cong:∀ a a' b b',R a a'→R b b'→lt a b=lt a' b') :
 ∀ x y:List α,jc lt x→jc lt y→(x.Pairwise fun a b=>¬ R a b)→(y.Pairwise fun a b=>¬ R a b)→(∀ a ∈ x,∃ b ∈ y,R a b)→(∀ b ∈ y,∃ a ∈ x,R a b)→x.length=y.length∧∀ (i:Nat) a b,x[i]? = some a→y[i]? = some b→R a b
 | [],[],_,_,_,_,_,_=>⟨rfl,fun i a b h=>by simp at h⟩
 | [],t::y,_,_,_,_,_,h=>by obtain ⟨a,ha,_⟩:=h t (by simp);cases ha
 |s::x,[],_,_,_,_,h,_=>by obtain ⟨a,ha,_⟩:=h s (by simp);cases ha
 |s::x,t::y,hx,hy,dx,dy,h1,h2=>by
  have hx':=List.pairwise_cons.1 hx
  have hy':=List.pairwise_cons.1 hy
  have dx':=List.pairwise_cons.1 dx
  have dy':=List.pairwise_cons.1 dy
  have hst:R s t:=by
   obtain ⟨t',ht',e1⟩:=h1 s (by simp)
   obtain ⟨s',hs',e2⟩:=h2 t (by simp)
   rcases List.mem_cons.1 ht' with rfl|ht'
   ·exact e1
   rcases List.mem_cons.1 hs' with rfl|hs'
   ·exact e2
   have q1:=hx'.1 s' hs'
   have q2:=hy'.1 t' ht'
   rw [← cong s t' s' t e1 e2] at q2
   exact absurd (tri s s' q2 q1) (dx'.1 s' hs')
  obtain ⟨l1,l2⟩:=Pc symm trans tri cong x y hx'.2 hy'.2 dx'.2 dy'.2 (fun a ha=>by
   obtain ⟨b,hb,e⟩:=h1 a (by simp [ha])
   rcases List.mem_cons.1 hb with rfl|hb
   ·exact absurd (trans _ _ _ hst (symm _ _ e)) (dx'.1 a ha)
   ·exact ⟨b,hb,e⟩) (fun b hb=>by
   obtain ⟨a,ha,e⟩:=h2 b (by simp [hb])
   rcases List.mem_cons.1 ha with rfl|ha
   ·exact absurd (trans _ _ _ (symm _ _ hst) e) (dy'.1 b hb)
   ·exact ⟨a,ha,e⟩)
  refine ⟨by simp [l1],fun i a b ha hb=>?_⟩
  cases i with
  |zero=>simp only [List.getElem?_cons_zero,Option.some.injEq] at ha hb;subst ha hb;exact hst
  |succ i=>simp only [List.getElem?_cons_succ] at ha hb;exact l2 i a b ha hb
def Twin (a b:ba):Prop:=ed a.owner=ed b.owner∧a.type=b.type∧a.cls=b.cls
theorem amp (a b:ba) (h1:c8 a b=false) (h2:c8 b a=false):Twin a b:=by
 have n1:¬ yy a b<0:=of_decide_eq_false h1
 have n2:¬ yy b a<0:=of_decide_eq_false h2
 rw [V6] at n1 n2
 have hn:ib a.owner b.owner=true:=by
  rcases F5 a.owner b.owner with q|q|q
  ·exact absurd (.inl q) n1
  ·exact q
  ·exact absurd (.inl q) n2
 have hn':=G0 hn
 have n1':¬ (a.type.toNat<b.type.toNat∨(a.type.toNat=b.type.toNat∧a.cls.toNat<b.cls.toNat)):=fun q=>n1 (.inr ⟨hn,q⟩)
 have n2':¬ (b.type.toNat<a.type.toNat∨(b.type.toNat=a.type.toNat∧b.cls.toNat<a.cls.toNat)):=fun q=>n2 (.inr ⟨hn',q⟩)
 exact ⟨ma.1 hn,UInt16.toNat_inj.1 (by omega),UInt16.toNat_inj.1 (by omega)⟩
theorem aq6 {a b:ba} (h:c8 a b=true):¬ Twin a b:=fun ht=>by
 have n1:yy a b<0:=of_decide_eq_true h
 rw [V6] at n1
 have hz:om a.owner b.owner=0:=w4.2 (ma.2 ht.1)
 rcases n1 with q|⟨_,q⟩
 ·omega
 ·rw [ht.2.1,ht.2.2] at q;omega
theorem aem {a b:ba} (h:Twin a b):c8 a b=false:=by
 cases e:c8 a b with
 |false=>rfl
 |true=>exact absurd h (aq6 e)
theorem Twin.symm {a b:ba} (h:Twin a b):Twin b a:=⟨h.1.symm,h.2.1.symm,h.2.2.symm⟩
theorem aj4 {a a' b b':ba} (h1:Twin a a') (h2:Twin b b'):c8 a b=c8 a' b':=by
 have l:∀ x y z:ba,Twin x y→c8 x z=true→c8 y z=true:=fun x y z h e=>by
  cases k:c8 y z with
  |true=>rfl
  |false=>rw [E4.trans z y x trivial trivial trivial k (aem h)] at e;cases e
 have r:∀ x y z:ba,Twin x y→c8 z x=true→c8 z y=true:=fun x y z h e=>by
  cases k:c8 z y with
  |true=>rfl
  |false=>rw [E4.trans x y z trivial trivial trivial (aem h.symm) k] at e;cases e
 cases e:c8 a b with
 |true=>rw [r b b' a' h2 (l a a' b h1 e)]
 |false=>
  cases e':c8 a' b' with
  |false=>rfl
  |true=>rw [r b' b a h2.symm (l a' a b' h1.symm e')] at e;cases e
theorem gz.one {q:List dc} {L:List ba} (h:gz q L) {s s':ba} (hs:s ∈ L) (hs':s' ∈ L) (hk:b9 s=b9 s'):s=s':=by
 obtain ⟨i,hi⟩:=List.mem_iff_getElem?.1 hs
 obtain ⟨j,hj⟩:=List.mem_iff_getElem?.1 hs'
 obtain ⟨hi1,hi2⟩:=List.getElem?_eq_some_iff.1 hi
 obtain ⟨hj1,hj2⟩:=List.getElem?_eq_some_iff.1 hj
 have:=(List.getElem_inj (i:=i) (j:=j) (h₀:=by simpa using hi1) (h₁:=by simpa using hj1) h.keys).1 (by simp only [List.getElem_map,hi2,hj2,hk])
 subst this;rw [← hi2,← hj2]
theorem gz.Ky {q q':List dc} {a b:List ba} (ha:gz q a) (hb:gz q' b) {s s':ba} (hs:s ∈ a) (hs':s' ∈ b):Twin s s'↔b9 s=b9 s':=by
 have n1:=(ha.ym s hs).1
 have n2:=(hb.ym s' hs').1
 constructor
 ·rintro ⟨h1,h2,h3⟩
  show (o8 s.owner,s.type,s.cls)=(o8 s'.owner,s'.type,s'.cls)
  rw [(yd n1 n2).2 h1,h2,h3]
 ·intro h
  exact ⟨(yd n1 n2).1 (congrArg (fun k:fy=>k.1) h),congrArg (fun k:fy=>k.2.1) h,congrArg (fun k:fy=>k.2.2) h⟩
theorem gz.sorted {q:List dc} {a:List ba} (ha:gz q a):jc c8 (dh c8 a)∧(dh c8 a).Pairwise fun x y=>¬ Twin x y:=by
 refine ⟨tn E4 a (fun _ _=>trivial),?_⟩
 have h1:((dh c8 a).map b9).Nodup:=((Gb (lt:=c8) a).map b9).nodup_iff.2 ha.keys
 rw [List.Nodup,List.pairwise_map] at h1
 refine List.Pairwise.imp_of_mem ?_ h1
 intro x y hx hy hne ht
 exact hne ((ha.Ky ha (fv.1 hx) (fv.1 hy)).1 ht)
theorem abp {q q':List dc} {a b:List ba} (ha:gz q a) (hb:gz q' b) (hq:∀ r,r ∈ q↔r ∈ q'):(dh c8 a).length=(dh c8 b).length∧∀ (i:Nat) s s',(dh c8 a)[i]? = some s→(dh c8 b)[i]? = some s'→xo s s'=true:=by
 obtain ⟨a1,a2⟩:=ha.sorted
 obtain ⟨b1,b2⟩:=hb.sorted
 obtain ⟨h1,h2⟩:=Pc (R:=Twin) (lt:=c8) (fun _ _ h=>h.symm) (fun _ _ _ h k=>⟨h.1.trans k.1,h.2.1.trans k.2.1,h.2.2.trans k.2.2⟩) amp (fun _ _ _ _ h k=>aj4 h k) _ _ a1 b1 a2 b2 (fun s hs=>by
  obtain ⟨s',h1,h2,_⟩:=ha.amk hb hq (fv.1 hs)
  exact ⟨s',fv.2 h1,(ha.Ky hb (fv.1 hs) h1).2 h2.symm⟩) (fun s hs=>by
  obtain ⟨s',h1,h2,_⟩:=hb.amk ha (fun r=>(hq r).symm) (fv.1 hs)
  exact ⟨s',fv.2 h1,(ha.Ky hb h1 (fv.1 hs)).2 h2⟩)
 refine ⟨h1,fun i s s' hs hs'=>?_⟩
 have m1:=fv.1 (List.mem_of_getElem? hs)
 have m2:=fv.1 (List.mem_of_getElem? hs')
 obtain ⟨s2,e1,e2,e3⟩:=ha.amk hb hq m1
 have hk:=(ha.Ky hb m1 m2).1 (h2 i s s' hs hs')
 rw [hb.one m2 e1 (hk.symm.trans e2.symm)]
 exact e3
theorem gz.check {q:List dc} {a:List ba} (ha:gz q a) {s:ba} (hs:s ∈ a) (hl:s.data.length≤512):An s=0:=by
 have h1:=(ha.ym s hs).1
 have h2:=ha.Wb s hs
 unfold An
 rw [if_neg (by rw [h1];simp),if_neg (by omega),if_neg (by omega)]
 exact ha.apart s hs
theorem H9 {t:UInt16} {a b:bp}:my t a b=true↔c7 t a=0∧c7 t b=0∧tj t (mz t a)=tj t (mz t b):=by
 unfold my
 rw [Bool.and_eq_true,Bool.and_eq_true,decide_eq_true_eq,decide_eq_true_eq,decide_eq_true_eq]
 constructor
 ·rintro ⟨⟨h1,h2⟩,h3⟩
  rw [Tw h1 h2] at h3
  exact ⟨h1,h2,Sh _ _ h3⟩
 ·rintro ⟨h1,h2,h3⟩
  refine ⟨⟨h1,h2⟩,?_⟩
  rw [Tw h1 h2,h3]
  have:=Rf (tj t (mz t b)) (tj t (mz t b))
  unfold G1
  omega
theorem Re {t:UInt16} {l:List bp} (h:ir t [] l=0):l.Pairwise fun a b=>my t a b=false:=by
 rw [List.pairwise_iff_getElem]
 intro i j hi hj hij
 obtain ⟨_,h2⟩:=akm h (List.getElem?_eq_getElem hj)
 unfold jj at h2
 rw [List.any_eq_false] at h2
 have:=h2 l[i] (List.mem_iff_getElem?.2 ⟨i,by rw [List.getElem?_take,if_pos hij,List.getElem?_eq_getElem hi]⟩)
 simpa using this
theorem ar0 {t:UInt16} {l:List bp} {x:bp} (h:ir t [] l=0) (hx:jj t l x=true):(l.filter fun d=>my t d x && true).length=1:=by
 have hp:(l.filter fun d=>my t d x && true).Pairwise fun a b=>my t a b=false:=List.Pairwise.filter _ (Re h)
 have hm:∀ d ∈ l.filter fun d=>my t d x && true,my t d x=true:=fun d hd=>by
  have:=(List.mem_filter.1 hd).2
  simpa using this
 have hne:∃ d,d ∈ l.filter fun d=>my t d x && true:=by
  unfold jj at hx
  obtain ⟨d,h1,h2⟩:=List.any_eq_true.1 hx
  exact ⟨d,List.mem_filter.2 ⟨h1,by simpa using h2⟩⟩
 generalize (l.filter fun d=>my t d x && true)=m at hp hm hne
 cases m with
 |nil=>obtain ⟨d,hd⟩:=hne;cases hd
 |cons a m=>
  cases m with
  |nil=>rfl
  |cons b m=>
   have q1:=H9.1 (hm a (by simp))
   have q2:=H9.1 (hm b (by simp))
   have q3:=(List.pairwise_cons.1 hp).1 b (by simp)
   rw [H9.2 ⟨q1.1,q2.1,q1.2.2.trans q2.2.2.symm⟩] at q3
   cases q3
theorem ae7 {α:Type} {g : α→fy} {k:fy}:∀ (l:List α),(l.map g).Nodup→k ∈ l.map g→(l.map fun s=>if g s=k then 1 else 0).sum=1
 | [],_,h=>by cases h
 |a::l,hn,h=>by
  rw [List.map_cons,List.nodup_cons] at hn
  rw [List.map_cons,List.sum_cons]
  by_cases e:g a=k
  ·have hz:∀ (m:List α),k ∉ m.map g→(m.map fun s=>if g s=k then 1 else 0).sum=0:=fun m=>by
    induction m with
    |nil=>intro _;rfl
    |cons b m ih=>
     intro hb
     rw [List.map_cons,List.mem_cons,not_or] at hb
     rw [List.map_cons,List.sum_cons,if_neg (Ne.symm hb.1),ih hb.2]
   rw [if_pos e,hz l (by rw [← e];exact hn.1)]
  ·rw [if_neg e,ae7 l hn.2 (by
    rw [List.map_cons,List.mem_cons] at h
    exact h.resolve_left (fun q=>e q.symm))]
theorem gz.held {q:List dc} {a:List ba} (ha:gz q a) {r:dc} (hr:r ∈ q):sq a r=1:=by
 obtain ⟨n1,n2,s0,hs0,hk0,hv0⟩:=ha.all r hr
 unfold sq
 rw [← ae7 (g:=b9) (k:=gk r) a ha.keys (List.mem_map.2 ⟨s0,hs0,hk0⟩)]
 congr 1
 refine List.map_congr_left fun s hs=>?_
 have hn:=(ha.ym s hs).1
 have hiff:zw s r=true↔b9 s=gk r:=by
  unfold zw
  rw [Bool.and_eq_true,Bool.and_eq_true,beq_iff_eq,beq_iff_eq]
  constructor
  ·rintro ⟨⟨h1,h2⟩,h3⟩
   show (o8 s.owner,s.type,s.cls)=(o8 r.owner,r.type,r.cls)
   rw [(yd hn n1).2 (ma.1 h3),h1,h2]
  ·intro h
   exact ⟨⟨congrArg (fun k:fy=>k.2.1) h,congrArg (fun k:fy=>k.2.2) h⟩,ma.2 ((yd hn n1).1 (congrArg (fun k:fy=>k.1) h))⟩
 by_cases hk:b9 s=gk r
 ·rw [if_pos (hiff.2 hk),if_pos hk]
  have hss:s=s0:=ha.one hs hs0 (hk.trans hk0.symm)
  subst hss
  have hty:s.type=r.type:=congrArg (fun k:fy=>k.2.1) hk
  have ht:decide (s.cx.toNat≤r.cx.toNat)=true:=decide_eq_true ((ha.ym s hs).2.2 r hr hk.symm)
  unfold Bf
  rw [ht,← hty]
  exact ar0 (ha.apart s hs) hv0
 ·rw [if_neg (fun q=>hk (hiff.1 q)),if_neg hk]
def ave (r:Iz):Prop:=D9 r.answer∧(D9 r.authority∧D9 r.F9)
instance (r:Iz):Decidable (ave r):=inferInstanceAs (Decidable (_∧_))
noncomputable abbrev Sk:Nat × Bool × (List AV→M AV):=(4,true,dv a0 (fun _=>some (.sc (.bool true))))
theorem W0 {xs:List dc} {i:Nat} {c:dc} (k st et) (hc:xs[i]? = some c):ik PP 43 (i * 8) (.row (cellsOf cy true xs) k st et) = .pure (cy.val true c):=by
 have h:=aas cy hc
 have h1:lh PP 43=some true:=by kernel_rfl
 have h2:cz PP 43=some 8:=by kernel_rfl
 have h3:((cellsOf cy true xs).drop (i * 8)).take 8=cy.cells true c:=h.1
 have h4:Nat.ble 8 ((cellsOf cy true xs).drop (i * 8)).length=true:=Nat.ble_eq_true_of_le h.2
 unfold ik ni
 simp only [h1,h2,h3,h4,cond_true]
 rfl
theorem S4 {xs:List dc} {i:Nat} {c:dc} (y:dc) (k:Nat) (et:TypeId) (id:Nat) (hc:xs[i]? = some c) :
 jh id (i * 8) 8 [.vl true 1 (y.owner.map (ak.val false)),.sc (.int .u16 y.type.toNat),.sc (.int .u16 y.cls.toNat),.sc (.int .u32 y.cx.toNat),.vl true 1 (y.data.names.map (ay.val true)),.vl true 1 (y.data.nums.map (cj.val false)),.vl true 1 (y.data.texts.map (ak.val false)),.vl true 1 (y.data.raw.map (bd.val false))] (.row (cellsOf cy true xs) 0 k et)=(eu id (.row (cellsOf cy true (xs.set i y)) 0 k et)).bind fun _=>.pure (.sc undef):=
 Ti cy y k et id hc
theorem Y6 {α:Type} (l:List α) (i:Nat) (x : α) (h:i<l.length):(l[i]::l.set i x).Perm (x::l):=by
 have h1:l.set i x=l.take i++x::l.drop (i+1):=by rw [List.set_eq_take_append_cons_drop,if_pos h]
 have h2:l=l.take i++l[i]::l.drop (i+1):=by rw [← List.drop_eq_getElem_cons h,List.take_append_drop]
 rw [h1]
 refine (List.Perm.cons _ List.perm_middle).trans ?_
 refine (List.Perm.swap _ _ _).trans (List.Perm.cons _ ?_)
 conv=>rhs;rw [h2]
 exact List.perm_middle.symm
theorem aj6 {α:Type} (l:List α) (i j:Nat) (hi:i<l.length) (hj:j<l.length):((l.set i l[j]).set j l[i]).Perm l:=by
 have h1:=Y6 l i l[j] hi
 have h2:=Y6 (l.set i l[j]) j l[i] (by simpa using hj)
 have hc:(l.set i l[j])[j]'(by simpa using hj)=l[j]:=by
  rw [List.getElem_set];split
  ·rename_i e;subst e;rfl
  ·rfl
 rw [hc] at h2
 have h3:=h2.trans h1
 exact (List.perm_cons l[j]).1 h3
theorem als {l m:List dc} (h:m.Perm l) (hg:wb l):wb m:=⟨fun r hr=>hg.owner r (h.mem_iff.1 hr),by rw [Yg h];exact hg.data,by rw [h.length_eq];exact hg.len⟩
theorem ya {W N:Nat}:∀ (rest:List dc) (L a:List ba),(∀ s ∈ L,eh nj s.data+eh l9 rest≤W∧s.data.length+rest.length≤N)→eh l9 rest≤W→rest.length≤N→gq rest L=(a,0)→a.length≤L.length+rest.length∧∀ s ∈ a,eh nj s.data≤W∧s.data.length≤N
 | [],L,a,h,_,_,e=>by
  rw [gq] at e;cases e
  refine ⟨Nat.le_refl _,fun s hs=>?_⟩
  have:=h s hs
  simp only [List.length_nil] at this
  omega
 |r::rest,L,a,h,hW,hN,e=>by
  have hw:eh l9 (r::rest)=nj r.data+eh l9 rest+1:=rfl
  simp only [List.length_cons] at hN h ⊢
  rw [hw] at hW
  rw [gq] at e
  split at e
  ·rename_i h1;have:=congrArg (fun x:List ba × Int=>x.2) e;exact absurd this h1
  split at e
  ·rename_i h2;have:=congrArg (fun x:List ba × Int=>x.2) e;exact absurd this h2
  cases hk:jk (gk r) 0 (L.map b9) with
  |none=>
   rw [hk] at e
   obtain ⟨q1,q2⟩:=ya (W:=W) (N:=N) rest _ a (fun s hs=>by
    rcases List.mem_append.1 hs with hs|hs
    ·have:=h s hs;rw [hw] at this;omega
    ·simp only [List.mem_singleton] at hs;subst hs
     show nj r.data+0+1+eh l9 rest≤W∧1+rest.length≤N
     omega) (by omega) (by omega) e
   refine ⟨?_,q2⟩
   simp only [List.length_append,List.length_singleton] at q1
   omega
  |some i=>
   rw [hk] at e
   simp only at e
   cases hs:L[i]? with
   |none=>
    obtain ⟨p,hp,hkp⟩:=A9 _ 0 i hk
    rw [Nat.zero_add] at hp;subst hp
    rw [List.getElem?_map,hs] at hkp;cases hkp
   |some s=>
   rw [hs] at e
   simp only at e
   have hsl:=h s (List.mem_of_getElem? hs)
   rw [hw] at hsl
   split at e
   ·obtain ⟨q1,q2⟩:=ya (W:=W) (N:=N) rest _ a (fun x hx=>by
     rcases List.mem_or_eq_of_mem_set hx with q1|q1
     ·have:=h x q1;rw [hw] at this;omega
     ·subst q1;show eh nj s.data+eh l9 rest≤W∧s.data.length+rest.length≤N;omega) (by omega) (by omega) e
    rw [List.length_set] at q1
    exact ⟨by omega,q2⟩
   split at e
   ·have:=congrArg (fun x:List ba × Int=>x.2) e;cases this
   ·obtain ⟨q1,q2⟩:=ya (W:=W) (N:=N) rest _ a (fun x hx=>by
     rcases List.mem_or_eq_of_mem_set hx with q1|q1
     ·have:=h x q1;rw [hw] at this;omega
     ·subst q1
      have e1:eh nj (s.data++[r.data])=eh nj s.data+(nj r.data+0+1):=by rw [Au];rfl
      have e2:(s.data++[r.data]).length=s.data.length+1:=by simp
      show eh nj (s.data++[r.data])+eh l9 rest≤W∧(s.data++[r.data]).length+rest.length≤N
      omega) (by omega) (by omega) e
    rw [List.length_set] at q1
    exact ⟨by omega,q2⟩
theorem Qw {l:List dc} {A:List ba} (hw:eh l9 l≤8388608) (hl:l.length≤60) (hS:gz l A) (e:gq l []=(A,0)):D9 A∧A.length≤60∧∀ s ∈ A,s.data.length≤60:=by
 obtain ⟨q1,q2⟩:=ya (W:=8388608) (N:=60) l [] A (fun s hs=>(by cases hs)) hw hl e
 simp only [List.length_nil,Nat.zero_add] at q1
 refine ⟨⟨by omega,fun s hs=>?_⟩,by omega,fun s hs=>(q2 s hs).2⟩
 have h1:=(hS.ym s hs).1
 have h2:br s.owner≤255:=by
  unfold cw at h1
  split at h1
  ·cases h1
  split at h1
  ·cases h1
  ·omega
 have:=(q2 s hs).1
 unfold dk wtS;omega
set_option maxHeartbeats 4000000 in
theorem aia (l:List dc) (ts:List Int) (hg:wb l) (hts:ts.length≤1048576) (hwl:eh l9 l≤8388608):wl PP [Sk,ag6,ahu,Xm,Xe,Nl,aha] 0 (Try.f3.body.getD .skip) (ea PP Try.f3.results.toList (fun r st=>(r1 dq).get true st.h r=some true)) (cq 0 [(bt cy).val false l,(bt (bm .i64)).val false ts]) (az []):=by
 have hq:∀ a b c d,de a b c=d→de a b c=d:=fun _ _ _ _ h=>h
 obtain ⟨a,ha⟩:∃ a,a=gq l []:=⟨_,rfl⟩
 have hln:=hg.len
 unfold Try.f3
 simp only [m9]
 simp only [↓wR,RA,simprocAttr,TF,ag,Ew,if_pos hg,← ha]
 rw [bz];refine ⟨fun h1=>?_,fun h1=>?_⟩
 ·simp only [↓wR,RA,simprocAttr,TF,ag,h1]
 simp only [↓wR,RA,simprocAttr,TF,ag,h1]
 rw [pc];refine ⟨fun ⟨h2,e2⟩=>?_,fun ⟨h2,e2⟩=>?_⟩
 ·simp only [↓wR,RA,simprocAttr,TF,ag,h2]
 have ha2:gq l []=(a.1,0):=by rw [← ha];exact Prod.ext rfl (by omega)
 have hl60:l.length≤60:=by have:=of_decide_eq_false (show decide ((l.length:Int) > 60)=false by simpa using h1);omega
 have hS:gz l a.1:=v7 l [] [] a.1 gz.nil ha2
 obtain ⟨A,hA⟩:∃ A,A=a.1:=⟨_,rfl⟩
 rw [← hA] at hS ha2
 simp only [↓wR,RA,simprocAttr,TF,ag,h2,← hA]
 refine sv [] (Vo l hg) (by decide) (by simp only [↓wR,RA,simprocAttr,TF,ag]) (by simp only [↓wR,RA,simprocAttr,TF,ag]) (Nat.le_of_ble_eq_true rfl) (by simp only [↓wR,RA,simprocAttr,TF,ag]) (by simp only [↓wR,RA,simprocAttr,TF,ag]) ⟨Nat.le_of_ble_eq_true rfl,Nat.le_of_ble_eq_true rfl⟩ ?_
 simp only [↓wR,RA,simprocAttr,TF,ag,gj,ll,nn,np,xb]
 refine ff [0,1,5,6,8,9] (fun (x:Nat × List dc)=>[.vl false 8 (l.map (cy.val false)),.vl false 1 (ts.map ((bm .i64).val false)),.sc (.bool true),.vl true 5 (A.map (bb.val true)),.sl 0 0 l.length 8,.sc (.int .i64 (x.1))]) (fun x=>[some (.row (cellsOf cy true (x.2)) 0 0 43)]) (fun x=>x.1≤100∧x.2.Perm l) (fun x=>100 - x.1) (0,l) ⟨Nat.zero_le _,.refl _⟩ (by simp only [↓wR,RA,simprocAttr,TF,ag]<;>rfl) (by simp only [↓wR,RA,simprocAttr,TF,ag]<;>rfl) ?_
 rintro ⟨i,m⟩ ⟨hi,hm⟩
 have hml:=hm.length_eq
 simp only [↓wR,RA,simprocAttr,TF,ag]
 have hstop:wl PP [Sk,ag6,ahu,Xm,Xe,Nl,aha] 0 .skip (fun _ _ _=>True) [] (az []):=trivial
 rw [bz];refine ⟨fun h3=>?_,fun h3=>?_⟩
 simp only [↓wR,RA,simprocAttr,TF,ag,h3]
 rw [bz];refine ⟨fun h4=>?_,fun h4=>?_⟩
 simp only [↓wR,RA,simprocAttr,TF,ag,h4]
 rw [bz];refine ⟨fun h5=>?_,fun h5=>?_⟩
 ·have hil:i<ts.length:=by omega
  have hl0 : 0<l.length:=by omega
  have hln0:(l.length:Int)≠0:=by omega
  obtain ⟨t,ht⟩:∃ t,ts[i]? = some t:=⟨_,List.getElem?_eq_getElem hil⟩
  have her:=akp (P:=PP) (t:=3) .i64 i l.length hln0
  have hb:(l.length:Int)<4611686018427387904:=by omega
  obtain ⟨p1,p2⟩:=am3 t (n:=(l.length:Int)) (by omega)
  obtain ⟨y0,hy0⟩:∃ y0:Nat,z9 t l.length=(y0:Int):=⟨(z9 t l.length).toNat,by omega⟩
  obtain ⟨x0,hx0⟩:∃ x0:Nat,x0=i % l.length:=⟨_,rfl⟩
  have htm:Int.tmod (i:Int) (l.length:Int)=(x0:Int):=by rw [hx0];rfl
  have hxl:x0<l.length:=by rw [hx0];exact Nat.mod_lt _ hl0
  have hyl:y0<l.length:=by omega
  have hml':m.length=l.length:=hml
  obtain ⟨rx,hrx⟩:∃ rx,m[x0]? = some rx:=⟨_,List.getElem?_eq_getElem (by omega)⟩
  obtain ⟨ry,hry⟩:∃ ry,m[y0]? = some ry:=⟨_,List.getElem?_eq_getElem (by omega)⟩
  have l1:=fun k st et=>W0 (xs:=m) k st et hrx
  have l2:=fun k st et=>W0 (xs:=m) k st et hry
  have s1:=fun k et id=>S4 (xs:=m) ry k et id hrx
  have hry2:∃ z,(m.set x0 ry)[y0]? = some z:=⟨_,List.getElem?_eq_getElem (by simp;omega)⟩
  obtain ⟨z,hz⟩:=hry2
  have s2:=fun k et id=>S4 (xs:=m.set x0 ry) rx k et id hz
  have hperm:((m.set x0 ry).set y0 rx).Perm l:=by
   have:=aj6 m x0 y0 (by omega) (by omega)
   obtain ⟨q1,q2⟩:=List.getElem?_eq_some_iff.1 hrx
   obtain ⟨q3,q4⟩:=List.getElem?_eq_some_iff.1 hry
   rw [q2,q4] at this
   exact this.trans hm
  simp only [↓wR,RA,simprocAttr,TF,ag,h5]
  refine ⟨by kernel_rfl,.inl ?_⟩
  simp only [↓wR,RA,simprocAttr,TF,ag,her,htm,ht,Ij,hb,hy0]
  refine ⟨by apply hq;kernel_rfl,?_⟩
  refine ⟨by kernel_rfl,.inl ?_⟩
  simp only [↓wR,RA,simprocAttr,TF,ag,hxl,hyl,↓l1,↓l2,↓s1,↓s2,u4];repeat (simp (disch:=omega) only [ah,cb,cd,cg,cf];try simp only [↓wR,RA,simprocAttr,TF,ag,hxl,hyl,↓l1,↓l2,↓s1,↓s2,u4])
  refine ⟨by apply hq;kernel_rfl,(i+1,(m.set x0 ry).set y0 rx),⟨?_,hperm⟩,?_,by (first|rfl|trivial|omega|((try (simp (disch:=omega) only [ah]));(try (simp only [FB]));first|done|rfl|omega)),rfl⟩
  ·show i+1≤100;omega
  ·show 100 - (i+1)<100 - i;omega
 simp only [↓wR,RA,simprocAttr,TF,ag,h5]
 rotate_left
 simp only [↓wR,RA,simprocAttr,TF,ag,h4]
 rotate_left
 simp only [↓wR,RA,simprocAttr,TF,ag,h3]
 rotate_left
 all_goals
  have hgm:wb m:=als hm hg
  have hml':m.length=l.length:=hml
  obtain ⟨b,hbm⟩:=Di m [] (fun r hr=>⟨(hS.all r (hm.mem_iff.1 hr)).1,(hS.all r (hm.mem_iff.1 hr)).2.1⟩) (fun s hs=>(by cases hs)) (by omega)
  have hSb:gz m b:=v7 m [] [] b gz.nil hbm
  have hdec:∀ fr h kk st et,ki cy fr h 0 l.length (.row (cellsOf cy true m) kk st et)=some m:=fun fr h kk st et=>n7 cy fr h true _ kk st et _ hml'.symm rfl
  obtain ⟨mA,lA,dA⟩:=Qw hwl hl60 hS ha2
  obtain ⟨mB,lB,dB⟩:=Qw (l:=m) (by rw [Yg hm];exact hwl) (by omega) hSb hbm
  have lA':A.length≤1048576:=by omega
  have lB':b.length≤1048576:=by omega
  obtain ⟨t1,t2⟩:=abp hS hSb (fun r=>hm.mem_iff.symm)
  have hlen1:(((dh c8 A).length:Int) != ((dh c8 b).length:Int))=false:=by rw [t1];simp
  have hlen2:(((dh c8 A).length:Int) != (A.length:Int))=false:=by rw [gp];simp
  obtain ⟨X,hX⟩:∃ X,X=dh c8 A:=⟨_,rfl⟩
  obtain ⟨Y,hY⟩:∃ Y,Y=dh c8 b:=⟨_,rfl⟩
  have hXl:X.length≤60:=by rw [hX,gp];exact lA
  rw [← hX,← hY] at hlen1 t1 t2
  rw [← hX] at hlen2
  simp only [↓wR,RA,simprocAttr,TF,ag,Ew,hdec,if_pos hgm,hbm,agc,Fb,mA,lA',mB,lB',← hX,← hY,hlen1,hlen2]
  refine ff [0,5,6,14,15,16] (fun (i:Nat)=>[.vl false 8 (l.map (cy.val false)),.sc (.bool true),.vl true 5 (A.map (bb.val true)),.vl true 5 (X.map (bb.val true)),.vl true 5 (Y.map (bb.val true)),.sc (.int .i64 (i))]) (fun _=>[]) (fun i=>i≤X.length) (fun i=>X.length - i) 0 (Nat.zero_le _) (by simp only [↓wR,RA,simprocAttr,TF,ag]<;>rfl) (by simp only [↓wR,RA,simprocAttr,TF,ag]<;>rfl) ?_
  intro i hi
  simp only [↓wR,RA,simprocAttr,TF,ag]
  rw [bz];refine ⟨fun h6=>?_,fun h6=>?_⟩
  ·have hiX:i<X.length:=by omega
   obtain ⟨s,hs⟩:∃ s,X[i]? = some s:=⟨_,List.getElem?_eq_getElem hiX⟩
   obtain ⟨s',hs'⟩:∃ s',Y[i]? = some s':=⟨_,List.getElem?_eq_getElem (by omega)⟩
   have hsA:s ∈ A:=by have:=List.mem_of_getElem? hs;rw [hX,fv] at this;exact this
   have hsB:s' ∈ b:=by have:=List.mem_of_getElem? hs';rw [hY,fv] at this;exact this
   have c1:=mA.2 s hsA
   have c2:=mB.2 s' hsB
   have c3:xo s s'=true:=t2 i s s' hs hs'
   have c4:An s=0:=hS.check hsA (by have:=dA s hsA;omega)
   simp only [↓wR,RA,simprocAttr,TF,ag,h6,hs,hs']
   refine ⟨by kernel_rfl,.inl ?_⟩
   simp only [↓wR,RA,simprocAttr,TF,ag,Bp,c1,c2,c3,xk,c4,hs,hs'];repeat (simp (disch:=omega) only [ah,cb,cd,cg,cf];try simp only [↓wR,RA,simprocAttr,TF,ag,Bp,c1,c2,c3,xk,c4,hs,hs'])
   exact ⟨by apply hq;kernel_rfl,i+1,hiX,by omega,by (first|rfl|trivial|omega|((try (simp (disch:=omega) only [ah]));(try (simp only [FB]));first|done|rfl|omega))⟩
  ·simp only [↓wR,RA,simprocAttr,TF,ag,h6]
   refine ff [0,5,6,17] (fun (i:Nat)=>[.vl false 8 (l.map (cy.val false)),.sc (.bool true),.vl true 5 (A.map (bb.val true)),.sc (.int .i64 (i))]) (fun _=>[]) (fun i=>i≤l.length) (fun i=>l.length - i) 0 (Nat.zero_le _) (by simp only [↓wR,RA,simprocAttr,TF,ag]<;>rfl) (by simp only [↓wR,RA,simprocAttr,TF,ag]<;>rfl) ?_
   intro i hi
   simp only [↓wR,RA,simprocAttr,TF,ag]
   rw [bz];refine ⟨fun h7=>?_,fun h7=>?_⟩
   ·have hil:i<l.length:=by omega
    obtain ⟨r,hr⟩:∃ r,l[i]? = some r:=⟨_,List.getElem?_eq_getElem hil⟩
    have hrm:=List.mem_of_getElem? hr
    have c1:=hg.owner r hrm
    have c2:cp r.data:=by
     have h1:l9 r<eh l9 l:=xj hrm
     unfold cp;unfold l9 at *;omega
    have c3:sq A r=1:=hS.held hrm
    simp only [↓wR,RA,simprocAttr,TF,ag,h7,hr,Fi,mA,lA',c1,c2,c3];repeat (simp (disch:=omega) only [ah,cb,cd,cg,cf];try simp only [↓wR,RA,simprocAttr,TF,ag,h7,hr,Fi,mA,lA',c1,c2,c3])
    exact ⟨i+1,hil,by omega,by (first|rfl|trivial|omega|((try (simp (disch:=omega) only [ah]));(try (simp only [FB]));first|done|rfl|omega))⟩
   ·simp only [↓wR,RA,simprocAttr,TF,ag,h7]
end Go.Proofs.Ytifjogffkafalaa
end
section
namespace Go.Proofs.Ytifjogffkafalaa
open Go.Vm
set_option maxRecDepth 2000000
noncomputable section
def muP {α β:Type} (μ : α→Nat) (ν : β→Nat) (p : α × β):Nat:=μ p.1 + ν p.2
def xp {α:Type} (μ : α→Nat) (l:List α):Nat:=oi μ l+1
def Ha {α:Type} (_ : α):Nat:=1
def muI {α β:Type} (f : β → α) (μ : α→Nat) (y : β):Nat:=μ (f y)+1
def Ry (P:Program) (t:TypeId):List Field:=match P.underlying t with|some (.struct fs)=>fs.toList|_=>[]
def arp (l:List Field):Nat:=match l with|f::_=>f.offset | []=>0
def tyH (l:List Field):TypeId:=match l with|f::_=>f.type | []=>0
def aot (l:List Field):Bool:=match l with|_::_=>true | []=>false
def au6 (l:List Field):Bool:=match l with | [_]=>true|_=>false
theorem aa0 {P:Program} {l:List Field} {off:Nat} {t:TypeId} {α:Type} {C:ct α} {μ : α→Nat} (hl:au6 l=true) (ho:arp l=off) (ht:tyH l=t) (hs:P.cellsOf t=C.sz) (h:Rd P t C μ):Uz P l off C μ:=by
 match l,hl with
 | [f],_=>subst ht;exact fun {H}=>apx ho hs h
theorem um {P:Program} {l:List Field} {off:Nat} {t:TypeId} {α β:Type} {A:ct α} {B:ct β} {μ : α→Nat} {ν : β→Nat} (hl:aot l=true) (ho:arp l=off) (ht:tyH l=t) (hs:P.cellsOf t=A.sz) (h:Rd P t A μ) (hr:Uz P l.tail (off+A.sz) B ν):Uz P l off (ln A B) (muP μ ν):=by
 match l,hl with
 |f::fs,_=>subst ht;exact fun {H}=>an4 ho hs h hr
theorem Qh {P:Program} {t:TypeId} {α β:Type} {C:ct α} {μ : α→Nat} {f : β → α} {i : α → β} {h1:∀ y,i (f y)=y} {h2:∀ x,f (i x)=x} (ht:aot (Ry P t)=true) (hc:P.cellsOf t=C.sz) (h:Uz P (Ry P t) 0 C μ):Rd P t (Fw C f i h1 h2) (muI f μ):=by
 unfold Ry at ht h
 cases hu:P.underlying t with
 |none=>rw [hu] at ht;cases ht
 |some d=>
  rw [hu] at ht h
  cases d with
  |struct fs=>exact fun {H}=>arq (ai5 hu hc h)
  |_=>cases ht
theorem wt {P:Program} {t e:TypeId} {α:Type} {C:ct α} {μ : α→Nat} (ht:P.underlying t=some (.slice e)) (hsz:P.cellsOf e=C.sz) (hpos : 0<C.sz) (he:Rd P e C μ):Rd P t (bt C) (xp μ):=aqt ht hsz hpos he
def Kj (s:ByteArray):Nat:=s.size+1
theorem rdS:Rd PP 9 ak Kj:=ar2 (by kernel_rfl)
def ri:Name→Nat:=xp Kj
theorem aik:Rd PP 32 ay ri:=wt (e:=9) (by kernel_rfl) (by kernel_rfl) (by decide) rdS
theorem ap2:Rd PP 31 ay ri:=wt (e:=9) (by kernel_rfl) (by kernel_rfl) (by decide) rdS
theorem ap3:Rd PP 37 (bt ay) (xp ri):=wt (e:=32) (by kernel_rfl) (by kernel_rfl) (by decide) aik
theorem ate:Rd PP 38 (bt cj) (xp Ha):=wt (e:=36) (by kernel_rfl) (by kernel_rfl) (by decide) (akk (by kernel_rfl))
theorem atw:Rd PP 39 (bt bd) (xp Ha):=wt (e:=5) (by kernel_rfl) (by kernel_rfl) (by decide) (atq (by kernel_rfl))
def Q3 (d:bp):Nat:=xp ri d.names+(xp Ha d.nums+(ri d.texts+xp Ha d.raw))+1
theorem atl:Rd PP 41 ar Q3:=
 Qh (by kernel_rfl) (by kernel_rfl) (um (by kernel_rfl) (by kernel_rfl) (by kernel_rfl) (by kernel_rfl) ap3 (um (by kernel_rfl) (by kernel_rfl) (by kernel_rfl) (by kernel_rfl) ate (um (by kernel_rfl) (by kernel_rfl) (by kernel_rfl) (by kernel_rfl) ap2 (aa0 (by kernel_rfl) (by kernel_rfl) (by kernel_rfl) (by kernel_rfl) atw))))
theorem ar5:Rd PP 34 ca Ha:=ak7 (by kernel_rfl)
theorem aqq:Rd PP 35 ca Ha:=ak7 (by kernel_rfl)
theorem att:Rd PP 36 cj Ha:=akk (by kernel_rfl)
theorem aee (n:Name):br n=ri n:=by
 suffices h:∀ (n:Name) (k:Nat),n.foldl (fun k s=>k+(s.size+1)) k=k+oi Kj n by
  have:=h n 1;simp only [br,ri,xp];omega
 intro n
 induction n with
 |nil=>intro k;rfl
 |cons a n ih=>intro k;rw [List.foldl_cons,ih];simp only [oi,Kj];omega
theorem Sg {α:Type} {f μ : α→Nat} {c:Nat} {l:List α} (h:∀ x,f x+1≤c * μ x):eh f l≤c * oi μ l:=by
 induction l with
 |nil=>simp [eh,oi]
 |cons a l ih=>
  have:=h a
  simp only [eh,List.foldr_cons,oi,Nat.mul_add] at ih ⊢
  omega
theorem Sb {α:Type} (l:List α):oi Ha l=l.length:=by
 induction l with
 |nil=>rfl
 |cons a l ih=>simp only [oi,ih,Ha,List.length_cons];omega
theorem aqo (d:bp):nj d+1≤3 * Q3 d:=by
 have h1:=Sg (f:=br) (μ:=ri) (c:=2) (l:=d.names) (fun n=>by rw [aee];simp only [ri,xp];omega)
 have h2:=Sg (f:=ByteArray.size) (μ:=Kj) (c:=1) (l:=d.texts) (fun n=>by unfold Kj;omega)
 have h3:=Sb d.nums
 have h4:=Sb d.raw
 simp only [nj,Q3,ri,xp] at *
 omega
theorem ahm {n:Name} (h:ri n≤1048576):c0 n:=by unfold c0;rw [aee];omega
def sk (r:dc):Nat:=ri r.owner+(1+(1+(1+Q3 r.data)))+1
theorem aub:Rd PP 43 cy sk:=
 Qh (by kernel_rfl) (by kernel_rfl) (um (by kernel_rfl) (by kernel_rfl) (by kernel_rfl) (by kernel_rfl) aik (um (by kernel_rfl) (by kernel_rfl) (by kernel_rfl) (by kernel_rfl) ar5 (um (by kernel_rfl) (by kernel_rfl) (by kernel_rfl) (by kernel_rfl) aqq (um (by kernel_rfl) (by kernel_rfl) (by kernel_rfl) (by kernel_rfl) att (aa0 (by kernel_rfl) (by kernel_rfl) (by kernel_rfl) (by kernel_rfl) atl)))))
theorem asr:Rd PP 22 (bt cy) (xp sk):=wt (e:=43) (by kernel_rfl) (by kernel_rfl) (by decide) aub
abbrev aet:ct (List dc):=bt cy
abbrev Wl:List dc→Nat:=xp sk
theorem aq7 (l:List dc):eh l9 l≤3 * oi sk l:=Sg (c:=3) (fun r=>by
 have h1:=aqo r.data
 simp only [l9,sk]
 omega)
theorem Su {l:List dc} (h:xp sk l≤1048576):wb l∧eh l9 l≤8388608:=by
 have h1:=aq7 l
 have h2:∀ (m:List dc),m.length≤oi sk m∧∀ r ∈ m,sk r≤oi sk m:=fun m=>by
  induction m with
  |nil=>exact ⟨Nat.le_refl _,fun r hr=>(by cases hr)⟩
  |cons a m ih=>
   simp only [oi,List.length_cons]
   have : 1≤sk a:=by unfold sk;omega
   refine ⟨by omega,fun r hr=>?_⟩
   rcases List.mem_cons.1 hr with rfl|hr
   ·omega
   ·have:=ih.2 r hr;omega
 simp only [xp] at h
 refine ⟨⟨fun r hr=>?_,by omega,by have:=(h2 l).1;omega⟩,by omega⟩
 have h3:=(h2 l).2 r hr
 refine ahm ?_
 have h4:ri r.owner≤sk r:=by unfold sk;omega
 omega
theorem asl {P:Program} {t:TypeId} (ht:P.underlying t=some (.int .i64)):Rd P t (bm .i64) (fun _=>1):=by
 intro H enc W b0 fuel cs x h
 obtain ⟨n,rfl,rfl,hw⟩:=DataW.trod_int ht h
 exact ⟨n,bc.one (.sc _),by simp [k8]⟩
theorem asi:Rd PP 23 (bt (bm .i64)) (xp Ha):=wt (e:=3) (by kernel_rfl) (by kernel_rfl) (by decide) (asl (by kernel_rfl))
abbrev adb:ct (List Int):=bt (bm .i64)
abbrev aiv:List Int→Nat:=xp Ha
theorem amh (l:List Int):aiv l=l.length+1:=by show oi Ha l+1=_;rw [Sb]
end
end Go.Proofs.Ytifjogffkafalaa
end
section
namespace Go.Proofs.Ytifjogffkafalaa
open Go.Vm
set_option maxRecDepth 2000000
namespace aw07
noncomputable def base:ft:=v8 [(76,true,vd),(80,true,i7)]
theorem aio:v5 PP base∧ju base:=
 L8 (fun args=>U3 (fn:=(PP.funcs[76]?).getD default) (by kernel_rfl) (by kernel_rfl) (by kernel_rfl) (by kernel_rfl) (by kernel_rfl) args) (fun args=>Wp args) (L8 (fun args=>yi (fn:=(PP.funcs[80]?).getD default) (by kernel_rfl) (by kernel_rfl) (by kernel_rfl) (by kernel_rfl) (by kernel_rfl) args) (fun args=>Oh args) (ah4))
noncomputable def look:ft:=Qz PP base 100000 60
theorem as0:v5 PP look:=(an9 aio.1 aio.2 mixed 100000 60).1
noncomputable def ahx (r:Option (AV × St)):Bool:=match r with|some p=>(match p.1 with|.sc v=>(match v with|.bool b=>b|_=>false)|_=>false)|none=>false
noncomputable def aor (f:Nat):Option (AV × St):=match look f with|some p=>p.2 [] (az [])|none=>none
theorem runs:ahx (aor 4)=true:=by kernel_rfl
theorem afv {r:Option (AV × St)} (h:ahx r=true):∃ st,r=some (.sc (.bool true),st):=by
 unfold ahx at h
 split at h
 ·rename_i p
  obtain ⟨a,st⟩:=p
  dsimp only at h
  split at h
  ·split at h
   ·subst h;exact ⟨st,rfl⟩
   ·cases h
  ·cases h
 ·cases h
end aw07
theorem aak:bw PP 4 [] (.sc (.bool true)):=by
 obtain ⟨st,h⟩:=aw07.afv aw07.runs
 unfold aw07.aor at h
 cases hp:aw07.look 4 with
 |none=>rw [hp] at h;cases h
 |some p=>
  rw [hp] at h
  exact Og aw07.as0 hp (by kernel_rfl) (r1 dq) true true h rfl
end Go.Proofs.Ytifjogffkafalaa
end
section
namespace Go.Proofs.Ytifjogffkafalaa
open Go.Vm Go.ChangeShapes Go.WideShapes Go.ChangeAt
mutual
theorem O5 {H:Type}:∀ d:DataW H,Rows.uptoBulk d=k8 d
 |.lit l=>by cases l<;>simp only [Rows.uptoBulk,k8]
 |.nil=>by simp only [Rows.uptoBulk,k8]
 |.ptr d=>by simp only [Rows.uptoBulk,k8,O5 d]
 |.slice a b=>by simp only [Rows.uptoBulk,k8,Iw a,Iw b]
 |.agg a=>by simp only [Rows.uptoBulk,k8,Iw a]
 |.iface _ d=>by simp only [Rows.uptoBulk,k8,O5 d]
 |.map e=>by simp only [Rows.uptoBulk,k8,ai1 e]
 |.held _=>by simp only [Rows.uptoBulk,k8]
theorem Iw {H:Type}:∀ l:List (DataW H),Rows.uptoBulkAll l=mo l
 | []=>by simp only [Rows.uptoBulkAll,mo]
 |d::r=>by simp only [Rows.uptoBulkAll,mo,O5 d,Iw r]
theorem ai1 {H:Type}:∀ l:List (Lit × DataW H),Rows.uptoBulkEntries l=Ny l
 | []=>by simp only [Rows.uptoBulkEntries,Ny]
 |x::r=>by simp only [Rows.uptoBulkEntries,Ny,aso x,ai1 r]
theorem aso {H:Type}:∀ x:Lit × DataW H,Rows.uptoBulkEntry x=ahl x
 |(l,d)=>by cases l<;>simp only [Rows.uptoBulkEntry,ahl,O5 d]
end
theorem akl {H:Type} {l:List (DataW H)} (h:Rows.uptoSmall H l=true):mo l≤1048576:=by
 have:=of_decide_eq_true h
 rwa [Iw] at this
theorem ah3 {H:Type} {enc:TypeId × Value→H} {C:Checked} {os:Os} {f:FuncId} {fn:Func} {s:OpenSpec} {k:(H:Type)→List (DataW H)→Bool} (hk:s.cond=some k) {conds:List PathCond} {apart:Bool} (modest:Bool) (i:Input) (fuel:Nat)
 (hv:(World.plainHolding C.prog os i).variablesB C.prog=true)
 (hr:((World.plainHolding C.prog os i).heap.toList.drop C.prog.globals.size).take ((begin C.prog (fun _ _=>0) default).world.heap.size - C.prog.globals.size) =
  (begin C.prog (fun _ _=>0) default).world.heap.toList.drop C.prog.globals.size)
 (hok:Input.okWideB C.prog (World.plainHolding C.prog os i) f ⟨#[],i.args,[]⟩=true)
 (hx:(match DataW.whole enc C.prog (World.plainHolding C.prog os i).memory fn.params.toList s.vars apart i.args.toList fuel with
  |some x=>conds.all (PathCond.test C.prog ⟨fn.params.toList,x.1,s.bare.plain.varTypes C.prog,x.2.1⟩) && k H (x.1++x.2.1)
  |none=>false)=true)
 (hsz:s.bare.sizedB enc C.prog fn apart (World.plainHolding C.prog os i).memory i.args fuel=true) :
 ∃ (w:World) (tape:Tape) (i:Input),w.os=os∧(w.forCall tape i).Shaped C.prog∧i.vars=[]∧Input.okWide C.prog (w.forCall tape i) .any w.heap.size f i ∧
  s.pre6 enc C.prog fn conds apart (w.forCall tape i).memory i.args∧({ modest:=modest }:Assume).holds C.prog (lone (Frame.enter C.prog f i.args .normal) [] (w.forCall tape i)):=by
 cases hd:DataW.whole enc C.prog (World.plainHolding C.prog os i).memory fn.params.toList s.vars apart i.args.toList fuel with
 |none=>rw [hd] at hx;cases hx
 |some x=>
  rw [hd] at hx
  simp only [Bool.and_eq_true] at hx
  exact OpenSpec.witness hk modest i fuel hv hr hok hd hx.1 hx.2 hsz
end Go.Proofs.Ytifjogffkafalaa
end
section
set_option maxRecDepth 2000000
namespace Go.Proofs.Ytifjogffkafalaa.setTurned
open Go.Vm Go.ChangeShapes Go.WideShapes Go.ChangeAt
theorem auk:aq PP [Sk,ag6,ahu,Xm,Xe,Nl,aha]:=(aq.cons (aw (fun x r h=>by cases h;exact aak)) (aq.cons (aw afo) (aq.cons (aw ahk) (aq.cons (aw ab1) (aq.cons (aw abz) (aq.cons (aw Vx) (aq.cons (aw ahv) (aq.nil PP))))))))
theorem anu (x:List dc × List Int × Unit) (h:(Wl x.1+(aiv x.2.1+0))≤1048576):bw PP 3 ((aC aet (aC adb a0)).E x) (.sc (.bool true)):=
 bg auk Try.func3 (by kernel_rfl) (by kernel_rfl) (by kernel_rfl) (Nat.le_of_ble_eq_true (by kernel_rfl)) (r1 dq) true true (aia x.1 x.2.1 (Su (by have h3:xp sk x.1=Wl x.1:=rfl;omega)).1 (by have h2:=amh x.2.1;omega) (Su (by have h3:xp sk x.1=Wl x.1:=rfl;omega)).2)
theorem own:ownKnob PP.godebug=none:=by kernel_rfl
theorem aqd:PP.underlying 4=some .bool:=by kernel_rfl
theorem lifted (os:Os) (started:os.Started) (H:Type) (enc:TypeId × Value→H) (F:Stop.Interp) :
 ReturnsInHanded {} Try.checked os 3 .any ((Rows.OpenSpec.upto Rows.setTurnedSpec).pre6 enc Try.prog Try.f3 Rows.setTurnedUptoRow.domain false) (((Rows.OpenSpec.upto Rows.setTurnedSpec).at F).post enc Try.prog Try.f3 false true false false):=by
 refine returnsInHanded_of_cond (C:=Try.checked) (k:=Rows.uptoSmall) rfl own started (by kernel_rfl) Try.func3
  (ah3 (enc:=enc) (C:=Try.checked) rfl false ⟨#[],Try.f3.params.map fun t=>((PP.info? t).bind (·.zero)).getD undef,[]⟩ 8 (by kernel_rfl) (by kernel_rfl) (by kernel_rfl) (by kernel_rfl) (by kernel_rfl)) ?_
 intro W base args ds gs before hval hW _ hk _
 exact aoe (by kernel_rfl) (by kernel_rfl) (Vp (by kernel_rfl)) (tb:=4) (by kernel_rfl) rfl (by kernel_rfl) aqd (agm (by kernel_rfl))
  (fun H ds hl=>by match ds,(show ds.length=2 from hl) with | [_,_],_=>rfl) (A:=(aC aet (aC adb a0))) (Yw (by kernel_rfl) asr (Yw (by kernel_rfl) asi (apq PP))) (N:=some 1048576) (fun x hx=>anu x (hx _ rfl)) enc W base args ds gs before hval hW (fun n hn=>by cases hn;exact akl hk)
theorem over:Rows.setTurnedUptoRow.holds Try.pinned (Rows.OpenSpec.upto Rows.setTurnedSpec):=
 OpenClaim.holds_of_cond 3 Try.f3 rfl rfl rfl rfl rfl rfl rfl ⟨rfl,rfl,rfl,rfl,rfl⟩ rfl rfl rfl rfl rfl (by kernel_rfl) Try.func3 (by kernel_rfl)
  (of_decide_eq_true (by kernel_rfl)) (by unfold Func.isWrapper;first|(rw [if_pos (by decide +kernel)];kernel_rfl)|(rw [if_neg (by decide +kernel)];exact ⟨rfl,rfl⟩))
  (fun os started H enc _ F=>lifted os started H enc F)
theorem proved : Rows.SetTurnedUptoSaid := over
end Go.Proofs.Ytifjogffkafalaa.setTurned
end
