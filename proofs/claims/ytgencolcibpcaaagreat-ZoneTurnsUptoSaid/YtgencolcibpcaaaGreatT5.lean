/- A piece of the proof. Proved: where the arguments are together of bulk at most 1048576, the law ZoneTurns returns true (a zone with a set more, and without one), and what it was given reads afterwards as it did before. No other conditions. -/
import Derived.WalkKit
import Derived.CallsIn
import Derived.RangeFuncIn
import Derived.RangeFuncLeaves
import Derived.Orders
import Derived.OrdersIn
import Derived.Scope
import Derived.RangeFuncOwn
import Derived.Stop.SameAnswer
import Derived.Laws.Externs
import Derived.Lib.Bytealg
import Derived.ProofKit
import Derived.OpenShut
import Derived.ReadAgain
import Derived.Deep.Slices
import Derived.ChangeSame
import Derived.Test.YtgencolcibpcaaaGreatProg
import Derived.KernelRfl
import Derived.Test.YtgencolcibpcaaaGreatRows
import Derived.JoinedCond
import Derived.Test.YtgencolcibpcaaaGreatT4
set_option linter.unusedSimpArgs false
set_option linter.unusedVariables false
set_option linter.unusedSectionVars false
section
namespace Go.Proofs.YtgencolcibpcaaaGreat
open Go.Vm
set_option maxRecDepth 2000000
theorem D2 (N a b n:Nat) (A P M Q Z:List az) (hN:N=(A++P++M++Q++Z).length) (hs:N≤1048576) (ha:a=A.length) (hp:n=P.length) (hq:n=Q.length) (hb:b=a+n+M.length) :
 ib PP 193 [.sl 0 0 N 5,.sc (.int .i64 (a)),.sc (.int .i64 (b)),.sc (.int .i64 (n)),(.sc (.func (.func 56) #[] #[]))] (bj [some (.row (cellsOf ah true ((A++P++M++Q++Z))) 0 0 31)])
  (fun r st'=>r = .fo []∧st'=bj [some (.row (cellsOf ah true ((A++Q++M++P++Z))) 0 0 31)]):=by
 have hc:∀ a b c d,dz a b c=d→dz a b c=d:=fun _ _ _ _ h=>h
 have hlen:N=A.length+P.length+M.length+Q.length+Z.length:=by rw [hN];simp;omega
 refine dr _ rfl ?_ (fun r st' h=>h)
 refine ct (T:=[]) (ar.nil PP) mixed Tryz.func193 rfl (by kernel_rfl) (by kernel_rfl) (by kernel_rfl) (by kernel_rfl) ?_;unfold Tryz.f193
 simp only [↓wR,RA,simprocAttr,TF,ae]
 refine c7 [0,1,2,3,10] (fun (i:Nat)=>[.sl 0 0 N 5,.sc (.int .i64 (a)),.sc (.int .i64 (b)),.sc (.int .i64 (n)),.sc (.int .i64 (i))]) (fun i=>[some (.row (cellsOf ah true ((A++Q.take i++P.drop i++M++P.take i++Q.drop i++Z))) 0 0 31)]) (fun i=>i≤n) (fun i=>n - i) 0 (Nat.zero_le _) (by simp only [↓wR,RA,simprocAttr,TF,ae]<;>simp) (by simp only [↓wR,RA,simprocAttr,TF,ae]<;>simp) ?_
 intro i hi
 simp only [↓wR,RA,simprocAttr,TF,ae]
 rw [aw];refine ⟨fun h=>?_,fun h=>?_⟩
 ·have hlt:i<n:=by omega
  obtain ⟨p,hpp⟩:∃ p,P[i]? = some p:=⟨_,List.getElem?_eq_getElem (by omega)⟩
  obtain ⟨q,hqq⟩:∃ q,Q[i]? = some q:=⟨_,List.getElem?_eq_getElem (by omega)⟩
  obtain ⟨X,hX⟩:∃ X,X=A++Q.take i:=⟨_,rfl⟩
  obtain ⟨Y,hY⟩:∃ Y,Y=P.drop (i+1)++M++P.take i:=⟨_,rfl⟩
  obtain ⟨W,hW⟩:∃ W,W=Q.drop (i+1)++Z:=⟨_,rfl⟩
  have hx1:X.length=a+i:=by rw [hX,List.length_append,List.length_take];omega
  have hy1:Y.length=n - 1+M.length:=by rw [hY];simp;omega
  have hpd:P.drop i=p::P.drop (i+1):=by obtain ⟨_,rfl⟩:=List.getElem?_eq_some_iff.1 hpp;exact List.drop_eq_getElem_cons _
  have hqd:Q.drop i=q::Q.drop (i+1):=by obtain ⟨_,rfl⟩:=List.getElem?_eq_some_iff.1 hqq;exact List.drop_eq_getElem_cons _
  have hpt:P.take (i+1)=P.take i++[p]:=by rw [List.take_add_one,hpp];rfl
  have hqt:Q.take (i+1)=Q.take i++[q]:=by rw [List.take_add_one,hqq];rfl
  have hcur:A++Q.take i++P.drop i++M++P.take i++Q.drop i++Z=X++p::(Y++q::W):=by rw [hX,hY,hW,hpd,hqd];simp
  have j3:A++Q.take (i+1)++P.drop (i+1)++M++P.take (i+1)++Q.drop (i+1)++Z=X++q::(Y++p::W):=by rw [hX,hY,hW,hpt,hqt];simp
  have hi1:(a:Int)+i=((a+i:Nat):Int):=by omega
  have hi2:(b:Int)+i=((b+i:Nat):Int):=by omega
  have g1:(X++p::(Y++q::W))[a+i]? = some p:=by rw [← hx1];exact get_at X _ p
  have hxy:(X++p::Y).length=b+i:=by rw [List.length_append,List.length_cons,hx1,hy1];omega
  have g2:(X++p::(Y++q::W))[b+i]? = some q:=by
   have:=get_at (X++p::Y) W q
   rw [hxy] at this
   rw [← this];simp
  have s1:(X++p::(Y++q::W)).set (a+i) q=X++q::(Y++q::W):=by rw [← hx1];exact qb X _ p q
  have g3:(X++q::(Y++q::W))[b+i]? = some q:=by
   have:=get_at (X++q::Y) W q
   rw [show (X++q::Y).length=b+i by rw [← hxy];simp] at this
   rw [← this];simp
  have s2:(X++q::(Y++q::W)).set (b+i) p=X++q::(Y++p::W):=by
   have:=qb (X++q::Y) W q p
   rw [show (X++q::Y).length=b+i by rw [← hxy];simp] at this
   simpa using this
  have l1:=ll 0 0 31 g1
  have l2:=ll 0 0 31 g2
  have t1:=tv q 0 31 0 g1
  have t2:=tv p 0 31 0 g3
  rw [s1] at t1
  rw [s2] at t2
  rw [hcur]
  simp only [↓wR,RA,simprocAttr,TF,ae,h,hi1,hi2,↓l1,↓l2,↓t1,↓t2];repeat (simp (disch:=omega) only [ag,bf,bg,be,bb];try simp only [↓wR,RA,simprocAttr,TF,ae,h,hi1,hi2,↓l1,↓l2,↓t1,↓t2])
  refine ⟨by kernel_rfl,.inl ?_⟩
  exact ⟨by apply hc;kernel_rfl,i+1,hlt,by omega,by (first|rfl|trivial|omega|((try (simp (disch:=omega) only [ag]));(try (simp only [FB]));first|done|rfl|omega)),by rw [j3]⟩
 ·have hin:i=n:=by omega
  subst hin
  have e1:Q.take i=Q:=by rw [hq,List.take_length]
  have e2:P.drop i=[]:=by rw [hp,List.drop_length]
  have e3:P.take i=P:=by rw [hp,List.take_length]
  have e4:Q.drop i=[]:=by rw [hq,List.drop_length]
  rw [e1,e2,e3,e4]
  simp only [↓wR,RA,simprocAttr,TF,ae,h,g6,gv,gk,List.append_nil]
theorem acn (N a m b:Nat) (A L R Z:List az) (hN:N=(A++L++R++Z).length) (hs:N≤1048576) (ha:a=A.length) (hm:m=a+L.length) (hb:b=m+R.length) (hl : 0<L.length) (hr : 0<R.length) :
 ib PP 178 [.sl 0 0 N 5,.sc (.int .i64 (a)),.sc (.int .i64 (m)),.sc (.int .i64 (b)),(.sc (.func (.func 56) #[] #[]))] (bj [some (.row (cellsOf ah true ((A++L++R++Z))) 0 0 31)])
  (fun r st'=>r = .fo []∧st'=bj [some (.row (cellsOf ah true ((A++R++L++Z))) 0 0 31)]):=by
 have hlen:N=A.length+L.length+R.length+Z.length:=by rw [hN];simp;omega
 refine dr _ rfl ?_ (fun r st' h=>h)
 refine ct (T:=[]) (ar.nil PP) mixed Tryz.func178 rfl (by kernel_rfl) (by kernel_rfl) (by kernel_rfl) (by kernel_rfl) ?_;unfold Tryz.f178
 have hi1:(m:Int) - a=((L.length:Nat):Int):=by omega
 have hi2:(b:Int) - m=((R.length:Nat):Int):=by omega
 simp only [↓wR,RA,simprocAttr,TF,ae,hi1,hi2];repeat (simp (disch:=omega) only [ag,bf,bg,be,bb];try simp only [↓wR,RA,simprocAttr,TF,ae,hi1,hi2])
 refine c7 [0,2,4,10,11] (fun (x:List az × List az × List az × List az)=>[.sl 0 0 N 5,.sc (.int .i64 (m)),(.sc (.func (.func 56) #[] #[])),.sc (.int .i64 (x.2.1.length)),.sc (.int .i64 (x.2.2.1.length))]) (fun x=>[some (.row (cellsOf ah true ((x.1++x.2.1++x.2.2.1++x.2.2.2))) 0 0 31)]) (fun x=>x.1++x.2.2.1++x.2.1++x.2.2.2=A++R++L++Z∧x.1.length+x.2.1.length=m∧0<x.2.1.length∧0<x.2.2.1.length) (fun x=>x.2.1.length+x.2.2.1.length) (A,L,R,Z) ⟨rfl,by show A.length+L.length=m;omega,hl,hr⟩ (by simp only [↓wR,RA,simprocAttr,TF,ae]<;>rfl) (by simp only [↓wR,RA,simprocAttr,TF,ae]<;>rfl) ?_
 rintro ⟨A',P,Q,Z'⟩ ⟨h1,h2,h3,h4⟩
 have h5:=congrArg List.length h1
 simp only [List.length_append] at h1 h2 h3 h4 h5
 simp only []
 simp only [↓wR,RA,simprocAttr,TF,ae]
 rw [c9];refine ⟨fun ⟨h,e⟩=>?_,fun ⟨h,e⟩=>?_⟩
 ·have hne:P.length≠Q.length:=by omega
  simp only [↓wR,RA,simprocAttr,TF,ae,h]
  have hi3:(m:Int) - P.length=((A'.length:Nat):Int):=by omega
  rw [aw];refine ⟨fun hg=>?_,fun hg=>?_⟩
  ·have hlt:Q.length<P.length:=by omega
   obtain ⟨P1,hP1⟩:∃ P1,P1=P.take Q.length:=⟨_,rfl⟩
   obtain ⟨P2,hP2⟩:∃ P2,P2=P.drop Q.length:=⟨_,rfl⟩
   have hp:P=P1++P2:=by rw [hP1,hP2,List.take_append_drop]
   have hl1:P1.length=Q.length:=by rw [hP1,List.length_take];omega
   have hl2:P2.length=P.length - Q.length:=by rw [hP2,List.length_drop]
   have hi4:(P.length:Int) - Q.length=((P2.length:Nat):Int):=by omega
   simp only [↓wR,RA,simprocAttr,TF,ae,hg,hi3];repeat (simp (disch:=omega) only [ag,bf,bg,be,bb];try simp only [↓wR,RA,simprocAttr,TF,ae,hg,hi3])
   refine fc (R0:=fun r st'=>r = .fo []∧st'=bj [some (.row (cellsOf ah true ((A'++Q++P2++P1++Z'))) 0 0 31)]) ?_ ?_
   ·have:=D2 N A'.length m Q.length A' P1 P2 Q Z' (by simp only [List.length_append];omega) hs rfl hl1.symm rfl (by omega)
    rw [show A'++P++Q++Z'=A'++P1++P2++Q++Z' by rw [hp];simp]
    exact this
   ·rintro _ _ ⟨rfl,rfl⟩
    simp only [↓wR,RA,simprocAttr,TF,ae,dv,hi4];repeat (simp (disch:=omega) only [ag,bf,bg,be,bb];try simp only [↓wR,RA,simprocAttr,TF,ae,dv,hi4])
    refine ⟨(A'++Q,P2,P1,Z'),⟨?_,?_,?_,?_⟩,?_,?_,?_⟩
    ·rw [← h1,hp];simp
    ·simp only [List.length_append];omega
    ·show 0<P2.length;omega
    ·show 0<P1.length;omega
    ·show P2.length+P1.length<P.length+Q.length;omega
    ·rw [hl1]
    ·simp only [List.append_assoc]
  ·have hlt:P.length<Q.length:=by omega
   obtain ⟨Q1,hQ1⟩:∃ Q1,Q1=Q.take (Q.length - P.length):=⟨_,rfl⟩
   obtain ⟨Q2,hQ2⟩:∃ Q2,Q2=Q.drop (Q.length - P.length):=⟨_,rfl⟩
   have hp:Q=Q1++Q2:=by rw [hQ1,hQ2,List.take_append_drop]
   have hl1:Q1.length=Q.length - P.length:=by rw [hQ1,List.length_take];omega
   have hl2:Q2.length=P.length:=by rw [hQ2,List.length_drop];omega
   have hi4:(Q.length:Int) - P.length=((Q1.length:Nat):Int):=by omega
   have hi5:(m:Int)+Q.length - P.length=((m+Q1.length:Nat):Int):=by omega
   simp only [↓wR,RA,simprocAttr,TF,ae,hg,hi3,hi5];repeat (simp (disch:=omega) only [ag,bf,bg,be,bb];try simp only [↓wR,RA,simprocAttr,TF,ae,hg,hi3,hi5])
   refine fc (R0:=fun r st'=>r = .fo []∧st'=bj [some (.row (cellsOf ah true ((A'++Q2++Q1++P++Z'))) 0 0 31)]) ?_ ?_
   ·have:=D2 N A'.length (m+Q1.length) P.length A' P Q1 Q2 Z' (by simp only [List.length_append];omega) hs rfl rfl hl2.symm (by omega)
    rw [show A'++P++Q++Z'=A'++P++Q1++Q2++Z' by rw [hp];simp]
    exact this
   ·rintro _ _ ⟨rfl,rfl⟩
    simp only [↓wR,RA,simprocAttr,TF,ae,dv,hi4];repeat (simp (disch:=omega) only [ag,bf,bg,be,bb];try simp only [↓wR,RA,simprocAttr,TF,ae,dv,hi4])
    refine ⟨(A',Q2,Q1,P++Z'),⟨?_,?_,?_,?_⟩,?_,?_,?_⟩
    ·rw [← h1,hp];simp
    ·show A'.length+Q2.length=m;omega
    ·show 0<Q2.length;omega
    ·show 0<Q1.length;omega
    ·show Q2.length+Q1.length<P.length+Q.length;omega
    ·rw [hl2]
    ·simp only [List.append_assoc]
 ·have hne:P.length=Q.length:=by omega
  simp only [↓wR,RA,simprocAttr,TF,ae,h]
  have hi3:(m:Int) - P.length=((A'.length:Nat):Int):=by omega
  simp only [↓wR,RA,simprocAttr,TF,ae,hi3];repeat (simp (disch:=omega) only [ag,bf,bg,be,bb];try simp only [↓wR,RA,simprocAttr,TF,ae,hi3])
  refine fc (R0:=fun r st'=>r = .fo []∧st'=bj [some (.row (cellsOf ah true ((A++R++L++Z))) 0 0 31)]) ?_ ?_
  ·have:=D2 N A'.length m P.length A' P [] Q Z' (by simp only [List.length_append,List.length_nil];omega) hs rfl rfl hne (by simp only [List.length_nil];omega)
   rw [List.append_nil,List.append_nil,List.append_assoc (A'++Q),← List.append_assoc (A'++Q),h1] at this
   exact this
  ·rintro _ _ ⟨rfl,rfl⟩
   simp only [↓wR,RA,simprocAttr,TF,ae,dv,g6,gv,gk]
theorem N6 (N a b:Nat) (A L Z:List az) (hN:N=(A++L++Z).length) (hs:N≤1048576) (ha:a=A.length) (hb:b=a+L.length) (hV:∀ x ∈ L,cd x) :
 ib PP 149 [.sl 0 0 N 5,.sc (.int .i64 (a)),.sc (.int .i64 (b)),(.sc (.func (.func 56) #[] #[]))] (bj [some (.row (cellsOf ah true ((A++L++Z))) 0 0 31)])
  (fun r st'=>r = .fo []∧st'=bj [some (.row (cellsOf ah true ((A++dg dy L++Z))) 0 0 31)]):=by
 have hc:∀ a b c d,dz a b c=d→dz a b c=d:=fun _ _ _ _ h=>h
 have hlen:N=A.length+L.length+Z.length:=by rw [hN];simp;omega
 refine dr _ rfl ?_ (fun r st' h=>h)
 refine ct (T:=[ab9]) (ar.cons (ak Kq) (ar.nil PP)) mixed Tryz.func149 rfl (by kernel_rfl) (by kernel_rfl) (by kernel_rfl) (by kernel_rfl) ?_;unfold Tryz.f149
 simp only [↓wR,RA,simprocAttr,TF,ae]
 refine c7 [0,1,2,3,8] (fun (i:Nat)=>[.sl 0 0 N 5,.sc (.int .i64 (a)),.sc (.int .i64 (b)),(.sc (.func (.func 56) #[] #[])),.sc (.int .i64 (i))]) (fun i=>[some (.row (cellsOf ah true ((A++dg dy (L.take (i - a))++L.drop (i - a)++Z))) 0 0 31)]) (fun i=>a<i∧(i≤b∨i=a+1)) (fun i=>b - i) (a+1) ⟨by omega,.inr rfl⟩ (by simp only [↓wR,RA,simprocAttr,TF,ae];repeat (simp (disch:=omega) only [ag,bf,bg,be,bb];try simp only [↓wR,RA,simprocAttr,TF,ae])<;>rfl) (by
  simp only [↓wR,RA,simprocAttr,TF,ae]
  cases L with
  |nil=>simp [dg]
  |cons x l=>simp [dg,j4]) ?_
 rintro i ⟨hi0,hi⟩
 simp only [↓wR,RA,simprocAttr,TF,ae]
 rw [aw];refine ⟨fun h=>?_,fun h=>?_⟩
 ·have hlt:i<b:=by omega
  obtain ⟨x,hx⟩:∃ x,L[i - a]? = some x:=⟨_,List.getElem?_eq_getElem (by omega)⟩
  have hxV:=hV x (List.mem_of_getElem? hx)
  obtain ⟨sp,hse⟩:∃ sp,sp=dg dy (L.take (i - a)):=⟨_,rfl⟩
  have hsl:sp.length=i - a:=by rw [hse,ed,List.length_take];omega
  have hsV:∀ y ∈ sp,cd y:=fun y hy=>hV y (List.mem_of_mem_take (ju.1 (by rw [← hse];exact hy)))
  have hsR:iz dy sp:=by rw [hse];exact lq oo _ (fun y hy=>hV y (List.mem_of_mem_take hy))
  have hnext:dg dy (L.take (i+1 - a))=j4 dy x sp:=by rw [show i+1 - a=i - a+1 by omega,iu hx,sk,← hse]
  obtain ⟨W,hW⟩:∃ W,W=L.drop (i+1 - a)++Z:=⟨_,rfl⟩
  have hcur:A++dg dy (L.take (i - a))++L.drop (i - a)++Z=A++sp++x::W:=by rw [← hse,mo hx,hW,show i+1 - a=i - a+1 by omega];simp
  rw [hcur]
  simp only [↓wR,RA,simprocAttr,TF,ae,h]
  refine c7 [0,1,2,3,8,9] (fun (j:Nat)=>[.sl 0 0 N 5,.sc (.int .i64 (a)),.sc (.int .i64 (b)),(.sc (.func (.func 56) #[] #[])),.sc (.int .i64 (i)),.sc (.int .i64 (j))]) (fun j=>[some (.row (cellsOf ah true ((A++sp.take (j - a)++x::(sp.drop (j - a)++W)))) 0 0 31)]) (fun j=>a≤j∧j≤i∧∀ y,sp[j - a]? = some y→dy x y=true) (fun j=>j - a) i ⟨by omega,Nat.le_refl _,fun y hy=>by rw [List.getElem?_eq_none (by omega)] at hy;cases hy⟩ (by simp only [↓wR,RA,simprocAttr,TF,ae]<;>rfl) (by
   simp only [↓wR,RA,simprocAttr,TF,ae]
   rw [show List.take (i - a) sp=sp from List.take_of_length_le (by omega),show List.drop (i - a) sp=[] from List.drop_eq_nil_of_le (by omega)];simp) ?_
  rintro j ⟨hj0,hj1,hj2⟩
  simp only [↓wR,RA,simprocAttr,TF,ae]
  by_cases hja:a<j
  ·obtain ⟨y,hy⟩:∃ y,sp[j - 1 - a]? = some y:=⟨_,List.getElem?_eq_getElem (by omega)⟩
   have hyV:=hsV y (List.mem_of_getElem? hy)
   have hdg:decide ((j:Int) > (a:Int))=true:=decide_eq_true (by omega)
   have hj3:(j:Int) - 1=((j - 1:Nat):Int):=by omega
   have hjj:j - a=j - 1 - a+1:=by omega
   have hc2:A++sp.take (j - a)++x::(sp.drop (j - a)++W)=A++sp.take (j - 1 - a)++y::(x::(sp.drop (j - a)++W)):=by rw [hjj,iu hy];simp
   obtain ⟨X,hX⟩:∃ X,X=A++sp.take (j - 1 - a):=⟨_,rfl⟩
   obtain ⟨Y,hY⟩:∃ Y,Y=sp.drop (j - a)++W:=⟨_,rfl⟩
   have hxl:X.length=j - 1:=by rw [hX,List.length_append,List.length_take];omega
   have g1:(X++y::x::Y)[j - 1]? = some y:=by rw [← hxl];exact get_at X _ y
   have g2:(X++y::x::Y)[j]? = some x:=by
    have:=get_at (X++[y]) Y x
    rw [show (X++[y]).length=j by rw [List.length_append,hxl,List.length_singleton];omega] at this
    rw [← this];simp
   have l1:=ll 0 0 31 g1
   have l2:=ll 0 0 31 g2
   rw [hc2,← hX,← hY]
   simp only [↓wR,RA,simprocAttr,TF,ae,hdg,hj3,↓l1,↓l2,l6,hxV,hyV];repeat (simp (disch:=omega) only [ag,bf,bg,be,bb];try simp only [↓wR,RA,simprocAttr,TF,ae,hdg,hj3,↓l1,↓l2,l6,hxV,hyV])
   refine ⟨by kernel_rfl,.inl ?_⟩
   (try simp only [↓wR,RA,simprocAttr,TF,ae,E7])
   refine ⟨by apply hc;kernel_rfl,?_⟩
   rw [aw];refine ⟨fun hl=>?_,fun hl=>?_⟩
   ·have hll:dy x y=true:=decide_eq_true hl
    have s1:(X++y::x::Y).set j y=X++y::y::Y:=by
     have:=qb (X++[y]) Y x y
     rw [show (X++[y]).length=j by rw [List.length_append,hxl,List.length_singleton];omega] at this
     simpa using this
    have s2:(X++y::y::Y).set (j - 1) x=X++x::y::Y:=by rw [← hxl];exact qb X _ y x
    have g3:(X++y::y::Y)[j - 1]? = some y:=by rw [← hxl];exact get_at X _ y
    have t1:=tv y 0 31 0 g2
    have t2:=tv x 0 31 0 g3
    rw [s1] at t1
    rw [s2] at t2
    simp only [↓wR,RA,simprocAttr,TF,ae,hl,hj3,↓l1,↓l2,↓t1,↓t2];repeat (simp (disch:=omega) only [ag,bf,bg,be,bb];try simp only [↓wR,RA,simprocAttr,TF,ae,hl,hj3,↓l1,↓l2,↓t1,↓t2])
    refine ⟨by kernel_rfl,.inl ?_⟩
    refine ⟨by apply hc;kernel_rfl,j - 1,⟨by omega,by omega,fun z hz=>?_⟩,by omega,by (first|rfl|trivial|omega|((try (simp (disch:=omega) only [ag]));(try (simp only [FB]));first|done|rfl|omega)),?_⟩
    ·rw [hy] at hz;cases hz;exact hll
    ·rw [hX,hY,hjj,mo hy];simp
   ·have hll:dy x y=false:=decide_eq_false hl
    have hA:∀ z ∈ sp.take (j - a),dy x z=false:=by
     refine G4 oo hsV hsR hxV (by omega) (fun c _ hcc=>?_)
     rw [show j - a - 1=j - 1 - a by omega,hy] at hcc;cases hcc;exact hll
    have hins:j4 dy x sp=sp.take (j - a)++x::sp.drop (j - a):=by
     have:=Fb (lt:=dy) (x:=x) (sp.take (j - a)) (sp.drop (j - a)) hA (fun z hz=>by rw [List.head?_drop] at hz;exact hj2 z hz)
     rw [List.take_append_drop] at this
     exact this
    simp only [↓wR,RA,simprocAttr,TF,ae,hl];repeat (simp (disch:=omega) only [ag,bf,bg,be,bb];try simp only [↓wR,RA,simprocAttr,TF,ae,hl])
    refine ⟨i+1,⟨by omega,by omega⟩,by omega,by (first|rfl|trivial|omega|((try (simp (disch:=omega) only [ag]));(try (simp only [FB]));first|done|rfl|omega)),?_⟩
    rw [hnext,hins,hX,hY,hW,hjj,iu hy];simp
  ·have hja':j=a:=by omega
   subst hja'
   have hins:j4 dy x sp=x::sp:=by
    have:=Fb (lt:=dy) (x:=x) [] sp (fun z hz=>by cases hz) (fun z hz=>by rw [Nat.sub_self] at hj2;rw [List.head?_eq_getElem?] at hz;exact hj2 z hz)
    exact this
   have hdg:decide ((j:Int) > (j:Int))=false:=decide_eq_false (by omega)
   simp only [↓wR,RA,simprocAttr,TF,ae,hdg];repeat (simp (disch:=omega) only [ag,bf,bg,be,bb];try simp only [↓wR,RA,simprocAttr,TF,ae,hdg])
   refine ⟨by kernel_rfl,.inl ?_⟩
   refine ⟨by apply hc;kernel_rfl,i+1,⟨by omega,by omega⟩,by omega,by (first|rfl|trivial|omega|((try (simp (disch:=omega) only [ag]));(try (simp only [FB]));first|done|rfl|omega)),?_⟩
   rw [hnext,hins,hW];simp
 ·have hin:L.length≤i - a:=by omega
  rw [List.take_of_length_le hin,List.drop_eq_nil_of_le hin]
  simp only [↓wR,RA,simprocAttr,TF,ae,h,g6,gv,gk,List.append_nil]
theorem axo (x:Int) (h0 : 0≤x) (h1:x<9223372036854775808):IntKind.u64.wrap x=x:=by
 simp only [IntKind.wrap,IntKind.bits]
 have h2:x % 18446744073709551616=x:=Int.emod_eq_of_lt h0 (by omega)
 first|(simp [IntKind.signed];omega)|(simp;omega)
theorem half (i j:Nat) (h:i+j≤4611686018427387904):IntKind.i64.wrap ((IntKind.u64.wrap ((i:Int)+j)).fdiv 2)=(((i+j) / 2:Nat):Int):=by
 rw [axo _ (by omega) (by omega),← Int.natCast_add,ay7,ag _ (by omega) (by omega)]
theorem xf (a b:Nat):decide ((a:Int)<(b:Int))=decide (a<b):=by simp
theorem If {p:Prop} [Decidable p]:(!decide p)=decide (¬ p):=by by_cases h:p<;>simp [h]
set_option maxHeartbeats 20000000 in
theorem M5 (d:Nat):∀ (N a m b:Nat) (A L R Z:List az),b - a≤d→N=(A++L++R++Z).length→N≤1048576→a=A.length→m=a+L.length→b=m+R.length→0<L.length→0<R.length→(∀ x ∈ L,cd x)→(∀ x ∈ R,cd x)→iz dy L→iz dy R →
 ib PP 150 [.sl 0 0 N 5,.sc (.int .i64 (a)),.sc (.int .i64 (m)),.sc (.int .i64 (b)),(.sc (.func (.func 56) #[] #[]))] (bj [some (.row (cellsOf ah true ((A++L++R++Z))) 0 0 31)])
  (fun r st'=>r = .fo []∧st'=bj [some (.row (cellsOf ah true ((A++eu dy L R++Z))) 0 0 31)]):=by
 induction d with
 |zero=>intro N a m b A L R Z hd hN hs ha hm hb hl hr;omega
 |succ d ih=>
 intro N a m b A L R Z hd hN hs ha hm hb hl hr hLV hRV hLR hRR
 have hc:∀ a b c d,dz a b c=d→dz a b c=d:=fun _ _ _ _ h=>h
 have hlen:N=A.length+L.length+R.length+Z.length:=by rw [hN];simp;omega
 refine dr _ rfl ?_ (fun r st' h=>h)
 refine ct (T:=[ab9]) (ar.cons (ak Kq) (ar.nil PP)) mixed Tryz.func150 rfl (by kernel_rfl) (by kernel_rfl) (by kernel_rfl) (by kernel_rfl) ?_;unfold Tryz.f150
 have hi1:(m:Int) - a=((L.length:Nat):Int):=by omega
 simp only [↓wR,RA,simprocAttr,TF,ae,hi1];repeat (simp (disch:=omega) only [ag,bf,bg,be,bb];try simp only [↓wR,RA,simprocAttr,TF,ae,hi1])
 rw [cp];refine ⟨fun ⟨h1,e1⟩=>?_,fun ⟨h1,e1⟩=>?_⟩
 ·have hL1:L.length=1:=by omega
  obtain ⟨x,rfl⟩:∃ x,L=[x]:=List.length_eq_one_iff.1 hL1
  have hxV:=hLV x (by simp)
  have hRb:∀ k c,R[k]? = some c→(A++[x]++R++Z)[m+k]? = some c:=fun k c hk=>by
   have hkl:=(List.getElem?_eq_some_iff.1 hk).1
   rw [List.append_assoc (A++[x]),List.getElem?_append_right (by simp at hm ⊢;omega),show m+k - (A++[x]).length=k by simp at hm ⊢;omega,List.getElem?_append_left hkl,hk]
  have gx:(A++[x]++R++Z)[a]? = some x:=by
   rw [List.append_assoc,List.append_assoc,ha];exact get_at A _ x
  simp only [↓wR,RA,simprocAttr,TF,ae,h1];repeat (simp (disch:=omega) only [ag,bf,bg,be,bb];try simp only [↓wR,RA,simprocAttr,TF,ae,h1])
  refine c7 [0,1,4,10,11] (fun (p:Nat × Nat)=>[.sl 0 0 N 5,.sc (.int .i64 (a)),(.sc (.func (.func 56) #[] #[])),.sc (.int .i64 (p.1)),.sc (.int .i64 (p.2))]) (fun _=>[some (.row (cellsOf ah true ((A++[x]++R++Z))) 0 0 31)]) (fun p=>m≤p.1∧p.1≤p.2∧p.2≤b∧(∀ c,0<p.1 - m→R[p.1 - m - 1]? = some c→dy c x=true)∧(∀ c,R[p.2 - m]? = some c→dy c x=false)) (fun p=>p.2 - p.1) (m,b) ⟨Nat.le_refl _,by show m≤b;omega,Nat.le_refl _,fun c hq=>by simp at hq,fun c hq=>by rw [List.getElem?_eq_none (by show R.length≤b - m;omega)] at hq;cases hq⟩ (by simp only [↓wR,RA,simprocAttr,TF,ae]<;>rfl) (by simp only [↓wR,RA,simprocAttr,TF,ae]<;>rfl) ?_
  rintro ⟨i,j⟩ ⟨p1,p2,p3,p4,p5⟩
  simp only [] at p1 p2 p3 p4 p5 ⊢
  simp only [↓wR,RA,simprocAttr,TF,ae]
  rw [aw];refine ⟨fun h=>?_,fun h=>?_⟩
  ·have hlt:i<j:=by omega
   obtain ⟨u,hu⟩:∃ u,u=(i+j) / 2:=⟨_,rfl⟩
   have hub:i≤u∧u<j:=by omega
   have hhalf:=half i j (by omega)
   rw [← hu] at hhalf
   obtain ⟨y,hy⟩:∃ y,R[u - m]? = some y:=⟨_,List.getElem?_eq_getElem (by omega)⟩
   have hyV:=hRV y (List.mem_of_getElem? hy)
   have gy:=hRb _ _ hy
   rw [show m+(u - m)=u by omega] at gy
   have l1:=ll 0 0 31 gx
   have l2:=ll 0 0 31 gy
   simp only [↓wR,RA,simprocAttr,TF,ae,h,hhalf,↓l1,↓l2,l6,hxV,hyV];repeat (simp (disch:=omega) only [ag,bf,bg,be,bb];try simp only [↓wR,RA,simprocAttr,TF,ae,h,hhalf,↓l1,↓l2,l6,hxV,hyV])
   refine ⟨by kernel_rfl,.inl ?_⟩
   (try simp only [↓wR,RA,simprocAttr,TF,ae,E7])
   refine ⟨by apply hc;kernel_rfl,?_⟩
   rw [aw];refine ⟨fun hl=>?_,fun hl=>?_⟩
   ·have hll:dy y x=true:=decide_eq_true hl
    simp only [↓wR,RA,simprocAttr,TF,ae,hl];repeat (simp (disch:=omega) only [ag,bf,bg,be,bb];try simp only [↓wR,RA,simprocAttr,TF,ae,hl])
    exact ⟨(u+1,j),⟨by show m≤u+1;omega,by show u+1≤j;omega,p3,fun c _ hcc=>by
     have hcc':R[u+1 - m - 1]? = some c:=hcc
     rw [show u+1 - m - 1=u - m by omega,hy] at hcc';cases hcc';exact hll,p5⟩,by show j - (u+1)<j - i;omega,by (first|rfl|trivial|omega|((try (simp (disch:=omega) only [ag]));(try (simp only [FB]));first|done|rfl|omega))⟩
   ·have hll:dy y x=false:=decide_eq_false hl
    simp only [↓wR,RA,simprocAttr,TF,ae,hl];repeat (simp (disch:=omega) only [ag,bf,bg,be,bb];try simp only [↓wR,RA,simprocAttr,TF,ae,hl])
    exact ⟨(i,u),⟨p1,by show i≤u;omega,by show u≤b;omega,p4,fun c hcc=>by
     have hcc':R[u - m]? = some c:=hcc
     rw [hy] at hcc';cases hcc';exact hll⟩,by show u - i<j - i;omega,by (first|rfl|trivial|omega|((try (simp (disch:=omega) only [ag]));(try (simp only [FB]));first|done|rfl|omega))⟩
  ·have hij:j=i:=by omega
   subst hij
   have hmo:=Zf (lt:=dy) (x:=x) (l:=R) (i:=j - m) (Xu oo hRV hRR hxV (by omega) p4) p5
   obtain ⟨R1,hR1⟩:∃ R1,R1=R.take (j - m):=⟨_,rfl⟩
   obtain ⟨R2,hR2⟩:∃ R2,R2=R.drop (j - m):=⟨_,rfl⟩
   have hRe:R=R1++R2:=by rw [hR1,hR2,List.take_append_drop]
   have hR1l:R1.length=j - m:=by rw [hR1,List.length_take];omega
   rw [← hR1,← hR2] at hmo
   rw [hmo]
   simp only [↓wR,RA,simprocAttr,TF,ae,h]
   refine c7 [0,10,13] (fun (k:Nat)=>[.sl 0 0 N 5,.sc (.int .i64 (j)),.sc (.int .i64 (k))]) (fun k=>[some (.row (cellsOf ah true ((A++R1.take (k - a)++x::(R1.drop (k - a)++R2++Z)))) 0 0 31)]) (fun k=>a≤k∧k+1≤j) (fun k=>j - k) a ⟨Nat.le_refl _,by omega⟩ (by simp only [↓wR,RA,simprocAttr,TF,ae]<;>rfl) (by simp only [↓wR,RA,simprocAttr,TF,ae];rw [hRe];simp) ?_
   rintro k ⟨k1,k2⟩
   simp only [↓wR,RA,simprocAttr,TF,ae];repeat (simp (disch:=omega) only [ag,bf,bg,be,bb];try simp only [↓wR,RA,simprocAttr,TF,ae])
   rw [aw];refine ⟨fun hk=>?_,fun hk=>?_⟩
   ·have hkl:k+1<j:=by omega
    obtain ⟨y,hy⟩:∃ y,R1[k - a]? = some y:=⟨_,List.getElem?_eq_getElem (by omega)⟩
    obtain ⟨X,hX⟩:∃ X,X=A++R1.take (k - a):=⟨_,rfl⟩
    obtain ⟨W,hW⟩:∃ W,W=R1.drop (k - a+1)++R2++Z:=⟨_,rfl⟩
    have hxl:X.length=k:=by rw [hX,List.length_append,List.length_take];omega
    have hcur:A++R1.take (k - a)++x::(R1.drop (k - a)++R2++Z)=X++x::y::W:=by rw [hX,hW,mo hy];simp
    have j3:A++R1.take (k+1 - a)++x::(R1.drop (k+1 - a)++R2++Z)=X++y::x::W:=by rw [hX,hW,show k+1 - a=k - a+1 by omega,iu hy];simp
    have g1:(X++x::y::W)[k]? = some x:=by rw [← hxl];exact get_at X _ x
    have hx1:(X++[x]).length=k+1:=by rw [List.length_append,hxl];rfl
    have hy1:(X++[y]).length=k+1:=by rw [List.length_append,hxl];rfl
    have g2:(X++x::y::W)[k+1]? = some y:=by
     have:=get_at (X++[x]) W y
     rw [hx1] at this
     rw [← this];simp
    have s1:(X++x::y::W).set k y=X++y::y::W:=by rw [← hxl];exact qb X _ x y
    have g3:(X++y::y::W)[k+1]? = some y:=by
     have:=get_at (X++[y]) W y
     rw [hy1] at this
     rw [← this];simp
    have s2:(X++y::y::W).set (k+1) x=X++y::x::W:=by
     have:=qb (X++[y]) W y x
     rw [hy1] at this
     simpa using this
    have l1:=ll 0 0 31 g1
    have l2:=ll 0 0 31 g2
    have t1:=tv y 0 31 0 g1
    have t2:=tv x 0 31 0 g3
    rw [s1] at t1
    rw [s2] at t2
    have hk1:(k:Int)+1=((k+1:Nat):Int):=by omega
    rw [hcur]
    simp only [↓wR,RA,simprocAttr,TF,ae,hk,hk1,↓l1,↓l2,↓t1,↓t2];repeat (simp (disch:=omega) only [ag,bf,bg,be,bb];try simp only [↓wR,RA,simprocAttr,TF,ae,hk,hk1,↓l1,↓l2,↓t1,↓t2])
    refine ⟨by kernel_rfl,.inl ?_⟩
    exact ⟨by apply hc;kernel_rfl,k+1,⟨by omega,by omega⟩,by omega,by (first|rfl|trivial|omega|((try (simp (disch:=omega) only [ag]));(try (simp only [FB]));first|done|rfl|omega)),by rw [j3]⟩
   ·have hkj:k - a=R1.length:=by omega
    rw [hkj,List.take_length,List.drop_length]
    simp only [↓wR,RA,simprocAttr,TF,ae,hk,g6,gv,gk,List.append_nil]
    simp
 ·have hL1:L.length≠1:=by omega
  have hi2:(b:Int) - m=((R.length:Nat):Int):=by omega
  simp only [↓wR,RA,simprocAttr,TF,ae,h1,hi2];repeat (simp (disch:=omega) only [ag,bf,bg,be,bb];try simp only [↓wR,RA,simprocAttr,TF,ae,h1,hi2])
  rw [cp];refine ⟨fun ⟨h2,e2⟩=>?_,fun ⟨h2,e2⟩=>?_⟩
  ·have hR1:R.length=1:=by omega
   obtain ⟨y,rfl⟩:∃ y,R=[y]:=List.length_eq_one_iff.1 hR1
   have hyV:=hRV y (by simp)
   have hLb:∀ k c,L[k]? = some c→(A++L++[y]++Z)[a+k]? = some c:=fun k c hk=>by
    have hkl:=(List.getElem?_eq_some_iff.1 hk).1
    rw [List.append_assoc,List.append_assoc,List.getElem?_append_right (by omega),show a+k - A.length=k by omega,List.getElem?_append_left hkl,hk]
   have gy:(A++L++[y]++Z)[m]? = some y:=by
    rw [List.append_assoc,show m=(A++L).length by rw [List.length_append];omega];exact get_at (A++L) _ y
   simp only [↓wR,RA,simprocAttr,TF,ae,h2];repeat (simp (disch:=omega) only [ag,bf,bg,be,bb];try simp only [↓wR,RA,simprocAttr,TF,ae,h2])
   refine c7 [0,2,4,14,15] (fun (p:Nat × Nat)=>[.sl 0 0 N 5,.sc (.int .i64 (m)),(.sc (.func (.func 56) #[] #[])),.sc (.int .i64 (p.1)),.sc (.int .i64 (p.2))]) (fun _=>[some (.row (cellsOf ah true ((A++L++[y]++Z))) 0 0 31)]) (fun p=>a≤p.1∧p.1≤p.2∧p.2≤m∧(∀ c,0<p.1 - a→L[p.1 - a - 1]? = some c→dy y c=false)∧(∀ c,L[p.2 - a]? = some c→dy y c=true)) (fun p=>p.2 - p.1) (a,m) ⟨Nat.le_refl _,by show a≤m;omega,Nat.le_refl _,fun c hq=>by simp at hq,fun c hq=>by rw [List.getElem?_eq_none (by show L.length≤m - a;omega)] at hq;cases hq⟩ (by simp only [↓wR,RA,simprocAttr,TF,ae]<;>rfl) (by simp only [↓wR,RA,simprocAttr,TF,ae]<;>rfl) ?_
   rintro ⟨i,j⟩ ⟨p1,p2,p3,p4,p5⟩
   simp only [] at p1 p2 p3 p4 p5 ⊢
   simp only [↓wR,RA,simprocAttr,TF,ae]
   rw [aw];refine ⟨fun h=>?_,fun h=>?_⟩
   ·have hlt:i<j:=by omega
    obtain ⟨u,hu⟩:∃ u,u=(i+j) / 2:=⟨_,rfl⟩
    have hub:i≤u∧u<j:=by omega
    have hhalf:=half i j (by omega)
    rw [← hu] at hhalf
    obtain ⟨x,hx⟩:∃ x,L[u - a]? = some x:=⟨_,List.getElem?_eq_getElem (by omega)⟩
    have hxV:=hLV x (List.mem_of_getElem? hx)
    have gx:=hLb _ _ hx
    rw [show a+(u - a)=u by omega] at gx
    have l1:=ll 0 0 31 gx
    have l2:=ll 0 0 31 gy
    simp only [↓wR,RA,simprocAttr,TF,ae,h,hhalf,↓l1,↓l2,l6,hxV,hyV];repeat (simp (disch:=omega) only [ag,bf,bg,be,bb];try simp only [↓wR,RA,simprocAttr,TF,ae,h,hhalf,↓l1,↓l2,l6,hxV,hyV])
    refine ⟨by kernel_rfl,.inl ?_⟩
    simp only [↓wR,RA,simprocAttr,TF,ae,E7,If]
    refine ⟨by apply hc;kernel_rfl,?_⟩
    rw [aw];refine ⟨fun hl=>?_,fun hl=>?_⟩
    ·have hll:dy y x=false:=decide_eq_false hl
     simp only [↓wR,RA,simprocAttr,TF,ae,hl];repeat (simp (disch:=omega) only [ag,bf,bg,be,bb];try simp only [↓wR,RA,simprocAttr,TF,ae,hl])
     exact ⟨(u+1,j),⟨by show a≤u+1;omega,by show u+1≤j;omega,p3,fun c _ hcc=>by
      have hcc':L[u+1 - a - 1]? = some c:=hcc
      rw [show u+1 - a - 1=u - a by omega,hx] at hcc';cases hcc';exact hll,p5⟩,by show j - (u+1)<j - i;omega,by (first|rfl|trivial|omega|((try (simp (disch:=omega) only [ag]));(try (simp only [FB]));first|done|rfl|omega))⟩
    ·have hll:dy y x=true:=decide_eq_true (Decidable.not_not.1 hl)
     simp only [↓wR,RA,simprocAttr,TF,ae,hl];repeat (simp (disch:=omega) only [ag,bf,bg,be,bb];try simp only [↓wR,RA,simprocAttr,TF,ae,hl])
     exact ⟨(i,u),⟨p1,by show i≤u;omega,by show u≤m;omega,p4,fun c hcc=>by
      have hcc':L[u - a]? = some c:=hcc
      rw [hx] at hcc';cases hcc';exact hll⟩,by show u - i<j - i;omega,by (first|rfl|trivial|omega|((try (simp (disch:=omega) only [ag]));(try (simp only [FB]));first|done|rfl|omega))⟩
   ·have hij:j=i:=by omega
    subst hij
    have hmo:=Sx (lt:=dy) (y:=y) (l:=L) (i:=j - a) (G4 oo hLV hLR hyV (by omega) p4) (Y7 oo hLV hLR hyV p5)
    obtain ⟨L1,hL1e⟩:∃ L1,L1=L.take (j - a):=⟨_,rfl⟩
    obtain ⟨L2,hL2e⟩:∃ L2,L2=L.drop (j - a):=⟨_,rfl⟩
    have hLe:L=L1++L2:=by rw [hL1e,hL2e,List.take_append_drop]
    have hl1:L1.length=j - a:=by rw [hL1e,List.length_take];omega
    have hl2:L2.length=m - j:=by rw [hL2e,List.length_drop];omega
    rw [← hL1e,← hL2e] at hmo
    rw [hmo]
    simp only [↓wR,RA,simprocAttr,TF,ae,h]
    refine c7 [0,14,17] (fun (k:Nat)=>[.sl 0 0 N 5,.sc (.int .i64 (j)),.sc (.int .i64 (k))]) (fun k=>[some (.row (cellsOf ah true ((A++L1++L2.take (k - j)++y::(L2.drop (k - j)++Z)))) 0 0 31)]) (fun k=>j≤k∧k≤m) (fun k=>k) m ⟨by omega,Nat.le_refl _⟩ (by simp only [↓wR,RA,simprocAttr,TF,ae]<;>rfl) (by simp only [↓wR,RA,simprocAttr,TF,ae];rw [← hl2,List.take_length,List.drop_length,hLe];simp) ?_
    rintro k ⟨k1,k2⟩
    simp only [↓wR,RA,simprocAttr,TF,ae];repeat (simp (disch:=omega) only [ag,bf,bg,be,bb];try simp only [↓wR,RA,simprocAttr,TF,ae])
    rw [aw];refine ⟨fun hk=>?_,fun hk=>?_⟩
    ·have hkl:j<k:=by omega
     obtain ⟨x,hx⟩:∃ x,L2[k - 1 - j]? = some x:=⟨_,List.getElem?_eq_getElem (by omega)⟩
     obtain ⟨X,hX⟩:∃ X,X=A++L1++L2.take (k - 1 - j):=⟨_,rfl⟩
     obtain ⟨W,hW⟩:∃ W,W=L2.drop (k - j)++Z:=⟨_,rfl⟩
     have hkk:k - j=k - 1 - j+1:=by omega
     have hxl:X.length=k - 1:=by rw [hX,List.length_append,List.length_append,List.length_take];omega
     have hcur:A++L1++L2.take (k - j)++y::(L2.drop (k - j)++Z)=X++x::y::W:=by rw [hX,hW,hkk,iu hx];simp
     have j3:A++L1++L2.take (k - 1 - j)++y::(L2.drop (k - 1 - j)++Z)=X++y::x::W:=by rw [hX,hW,mo hx,hkk];simp
     have g1:(X++x::y::W)[k - 1]? = some x:=by rw [← hxl];exact get_at X _ x
     have hx1:(X++[x]).length=k:=by rw [List.length_append,hxl,List.length_singleton];omega
     have g2:(X++x::y::W)[k]? = some y:=by
      have:=get_at (X++[x]) W y
      rw [hx1] at this
      rw [← this];simp
     have s1:(X++x::y::W).set k x=X++x::x::W:=by
      have:=qb (X++[x]) W y x
      rw [hx1] at this
      simpa using this
     have g3:(X++x::x::W)[k - 1]? = some x:=by rw [← hxl];exact get_at X _ x
     have s2:(X++x::x::W).set (k - 1) y=X++y::x::W:=by rw [← hxl];exact qb X _ x y
     have l1:=ll 0 0 31 g1
     have l2:=ll 0 0 31 g2
     have t1:=tv x 0 31 0 g2
     have t2:=tv y 0 31 0 g3
     rw [s1] at t1
     rw [s2] at t2
     have hk1:(k:Int) - 1=((k - 1:Nat):Int):=by omega
     rw [hcur]
     simp only [↓wR,RA,simprocAttr,TF,ae,hk,hk1,↓l1,↓l2,↓t1,↓t2];repeat (simp (disch:=omega) only [ag,bf,bg,be,bb];try simp only [↓wR,RA,simprocAttr,TF,ae,hk,hk1,↓l1,↓l2,↓t1,↓t2])
     refine ⟨by kernel_rfl,.inl ?_⟩
     exact ⟨by apply hc;kernel_rfl,k - 1,⟨by omega,by omega⟩,by omega,by (first|rfl|trivial|omega|((try (simp (disch:=omega) only [ag]));(try (simp only [FB]));first|done|rfl|omega)),by rw [j3]⟩
    ·have hkj:k - j=0:=by omega
     rw [hkj]
     simp only [↓wR,RA,simprocAttr,TF,ae,hk,g6,gv,gk,List.append_nil]
     simp
  ·have hR1:R.length≠1:=by omega
   obtain ⟨mid,hmid⟩:∃ mid,mid=(a+b) / 2:=⟨_,rfl⟩
   have hhalf:=half a b (by omega)
   rw [← hmid] at hhalf
   have hmm:(mid:Int)+m=((mid+m:Nat):Int):=by omega
   obtain ⟨n,hn⟩:∃ n,n=mid+m:=⟨_,rfl⟩
   rw [← hn] at hmm
   obtain ⟨s0,hs0⟩:∃ s0,s0=if mid<m then n - b else a:=⟨_,rfl⟩
   obtain ⟨r0,hr0⟩:∃ r0,r0=if mid<m then mid else m:=⟨_,rfl⟩
   have hp1:(n:Int) - 1=((n - 1:Nat):Int):=by omega
   have hsr:a≤s0∧s0≤r0∧r0≤m∧r0≤mid∧n - b≤s0:=by subst hs0 hr0;split<;>omega
   obtain ⟨X0,hX0⟩:∃ X0,X0=A++L++R++Z:=⟨_,rfl⟩
   have hXL:∀ k c,L[k]? = some c→X0[a+k]? = some c:=fun k c hk=>by
    have hkl:=(List.getElem?_eq_some_iff.1 hk).1
    rw [hX0,List.append_assoc,List.append_assoc,List.getElem?_append_right (by omega),show a+k - A.length=k by omega,List.getElem?_append_left hkl,hk]
   have hXR:∀ k c,R[k]? = some c→X0[m+k]? = some c:=fun k c hk=>by
    have hkl:=(List.getElem?_eq_some_iff.1 hk).1
    rw [hX0,List.append_assoc (A++L),List.getElem?_append_right (by rw [List.length_append];omega),List.length_append,show m+k - (A.length+L.length)=k by omega,List.getElem?_append_left hkl,hk]
   rw [← hX0]
   have hfin:∀ st,s0≤st→st≤r0→(∀ c e,s0<st→L[st - 1 - a]? = some c→R[n - st - m]? = some e→dy e c=false)→(∀ c e,st<r0→L[st - a]? = some c→R[n - 1 - st - m]? = some e→dy e c=true) →
    ∃ X1 X2,(st<m→m<n - st→ib PP 178 [.sl 0 0 N 5,.sc (.int .i64 (st)),.sc (.int .i64 (m)),.sc (.int .i64 ((n - st:Nat))),(.sc (.func (.func 56) #[] #[]))] (bj [some (.row (cellsOf ah true ((X0))) 0 0 31)]) (fun r st'=>r = .fo []∧st'=bj [some (.row (cellsOf ah true ((X1))) 0 0 31)]))∧(¬ (st<m∧m<n - st)→X0=X1) ∧
     (a<st→st<mid→ib PP 150 [.sl 0 0 N 5,.sc (.int .i64 (a)),.sc (.int .i64 (st)),.sc (.int .i64 (mid)),(.sc (.func (.func 56) #[] #[]))] (bj [some (.row (cellsOf ah true ((X1))) 0 0 31)]) (fun r st'=>r = .fo []∧st'=bj [some (.row (cellsOf ah true ((X2))) 0 0 31)]))∧(¬ (a<st∧st<mid)→X1=X2) ∧
     (mid<n - st→n - st<b→ib PP 150 [.sl 0 0 N 5,.sc (.int .i64 (mid)),.sc (.int .i64 ((n - st:Nat))),.sc (.int .i64 (b)),(.sc (.func (.func 56) #[] #[]))] (bj [some (.row (cellsOf ah true ((X2))) 0 0 31)]) (fun r st'=>r = .fo []∧st'=bj [some (.row (cellsOf ah true ((A++eu dy L R++Z))) 0 0 31)]))∧(¬ (mid<n - st∧n - st<b)→X2=A++eu dy L R++Z):=by
    intro st q1 q2 q3 q4
    obtain ⟨L1,hL1e⟩:∃ L1,L1=L.take (st - a):=⟨_,rfl⟩
    obtain ⟨L2,hL2e⟩:∃ L2,L2=L.drop (st - a):=⟨_,rfl⟩
    obtain ⟨R1,hR1e⟩:∃ R1,R1=R.take (mid - st):=⟨_,rfl⟩
    obtain ⟨R2,hR2e⟩:∃ R2,R2=R.drop (mid - st):=⟨_,rfl⟩
    have hLe:L=L1++L2:=by rw [hL1e,hL2e,List.take_append_drop]
    have hRe:R=R1++R2:=by rw [hR1e,hR2e,List.take_append_drop]
    have n1:L1.length=st - a:=by rw [hL1e,List.length_take];omega
    have n2:L2.length=m - st:=by rw [hL2e,List.length_drop];omega
    have n3:R1.length=mid - st:=by rw [hR1e,List.length_take];omega
    have n4:R2.length=b - (n - st):=by rw [hR2e,List.length_drop];omega
    have r1:iz dy L1:=by rw [hL1e];exact hLR.take _
    have r2:iz dy L2:=by rw [hL2e];exact hLR.drop _
    have r3:iz dy R1:=by rw [hR1e];exact hRR.take _
    have r4:iz dy R2:=by rw [hR2e];exact hRR.drop _
    have v1:∀ x ∈ L1,cd x:=fun x hx=>hLV x (by rw [hLe];simp [hx])
    have v2:∀ x ∈ L2,cd x:=fun x hx=>hLV x (by rw [hLe];simp [hx])
    have v3:∀ x ∈ R1,cd x:=fun x hx=>hRV x (by rw [hRe];simp [hx])
    have v4:∀ x ∈ R2,cd x:=fun x hx=>hRV x (by rw [hRe];simp [hx])
    have f1:∀ x ∈ L1,∀ y ∈ R2,dy y x=false:=by
     by_cases k1:a<st
     ·by_cases k2:n - st<b
      ·obtain ⟨c,hcc⟩:∃ c,L[st - 1 - a]? = some c:=⟨_,List.getElem?_eq_getElem (by omega)⟩
       obtain ⟨e,hee⟩:∃ e,R[n - st - m]? = some e:=⟨_,List.getElem?_eq_getElem (by omega)⟩
       have hlt:=q3 c e (by subst hs0;split<;>omega) hcc hee
       have t1:L1=L.take (st - 1 - a)++[c]:=by rw [hL1e,show st - a=st - 1 - a+1 by omega,iu hcc]
       have t2:R2=e::R.drop (n - st - m+1):=by rw [hR2e,show mid - st=n - st - m by omega,mo hee]
       rw [t1,t2]
       exact Nu oo (fun z hz=>v1 z (by rw [t1];exact hz)) (fun z hz=>v4 z (by rw [t2];exact hz)) (by rw [← t1];exact r1) (by rw [← t2];exact r4) hlt
      ·have:R2=[]:=List.eq_nil_of_length_eq_zero (by omega)
       rw [this];intro x _ y hy;cases hy
     ·have:L1=[]:=List.eq_nil_of_length_eq_zero (by omega)
      rw [this];intro x hx;cases hx
    have f2:∀ x ∈ L2,∀ y ∈ R1,dy y x=true:=by
     by_cases k1:st<m
     ·by_cases k2:st<mid
      ·obtain ⟨c,hcc⟩:∃ c,L[st - a]? = some c:=⟨_,List.getElem?_eq_getElem (by omega)⟩
       obtain ⟨e,hee⟩:∃ e,R[n - 1 - st - m]? = some e:=⟨_,List.getElem?_eq_getElem (by omega)⟩
       have hlt:=q4 c e (by subst hr0;split<;>omega) hcc hee
       have t1:L2=c::L.drop (st - a+1):=by rw [hL2e,mo hcc]
       have t2:R1=R.take (n - 1 - st - m)++[e]:=by rw [hR1e,show mid - st=n - 1 - st - m+1 by omega,iu hee]
       rw [t1,t2]
       exact Kc oo (fun z hz=>v2 z (by rw [t1];exact hz)) (fun z hz=>v3 z (by rw [t2];exact hz)) (by rw [← t1];exact r2) (by rw [← t2];exact r3) hlt
      ·have:R1=[]:=List.eq_nil_of_length_eq_zero (by omega)
       rw [this];intro x _ y hy;cases hy
     ·have:L2=[]:=List.eq_nil_of_length_eq_zero (by omega)
      rw [this];intro x hx;cases hx
    have hmg:eu dy L R=eu dy L1 R1++eu dy L2 R2:=by rw [hLe,hRe];exact ot L1 L2 R1 R2 f1 f2
    have m1:(eu dy L1 R1).length=mid - a:=by rw [Vp];omega
    have hNa:N=A.length+L1.length+L2.length+R1.length+R2.length+Z.length:=by omega
    refine ⟨A++L1++R1++(L2++R2++Z),A++eu dy L1 R1++(L2++R2++Z),fun k1 k2=>?_,fun k=>?_,fun k1 k2=>?_,fun k=>?_,fun k1 k2=>?_,fun k=>?_⟩
    ·have:=acn N st m (n - st) (A++L1) L2 R1 (R2++Z) (by simp only [List.length_append];omega) hs (by rw [List.length_append];omega) (by omega) (by omega) (by omega) (by omega)
     rw [show A++L1++L2++R1++(R2++Z)=X0 by rw [hX0,hLe,hRe];simp,show A++L1++R1++L2++(R2++Z)=A++L1++R1++(L2++R2++Z) by simp] at this
     exact this
    ·rw [hX0,hLe,hRe]
     by_cases k1:st<m
     ·have:R1=[]:=List.eq_nil_of_length_eq_zero (by omega)
      rw [this];simp
     ·have:L2=[]:=List.eq_nil_of_length_eq_zero (by omega)
      rw [this];simp
    ·exact ih N a st mid A L1 R1 (L2++R2++Z) (by omega) (by simp only [List.length_append];omega) hs ha (by omega) (by omega) (by omega) (by omega) v1 v3 r1 r3
    ·by_cases k1:a<st
     ·have:R1=[]:=List.eq_nil_of_length_eq_zero (by omega)
      rw [this,jl];simp
     ·have:L1=[]:=List.eq_nil_of_length_eq_zero (by omega)
      rw [this,j6];simp
    ·have:=ih N mid (n - st) b (A++eu dy L1 R1) L2 R2 Z (by omega) (by simp only [List.length_append,m1];omega) hs (by rw [List.length_append,m1];omega) (by omega) (by omega) (by omega) (by omega) v2 v4 r2 r4
     rw [hmg]
     rw [show A++eu dy L1 R1++L2++R2++Z=A++eu dy L1 R1++(L2++R2++Z) by simp,show A++eu dy L1 R1++eu dy L2 R2++Z=A++(eu dy L1 R1++eu dy L2 R2)++Z by simp] at this
     exact this
    ·rw [hmg]
     by_cases k1:mid<n - st
     ·have:R2=[]:=List.eq_nil_of_length_eq_zero (by omega)
      rw [this,jl];simp
     ·have:L2=[]:=List.eq_nil_of_length_eq_zero (by omega)
      rw [this,j6];simp
   simp only [↓wR,RA,simprocAttr,TF,ae,h2,hhalf,hmm];repeat (simp (disch:=omega) only [ag,bf,bg,be,bb];try simp only [↓wR,RA,simprocAttr,TF,ae,h2,hhalf,hmm])
   rw [aw];refine ⟨fun hg=>?_,fun hg=>?_⟩
   ·have e3:(n:Int) - b=((s0:Nat):Int):=by rw [hs0,if_pos (by omega)];omega
    have e4:((mid:Nat):Int)=((r0:Nat):Int):=by rw [hr0,if_pos (by omega)]
    simp only [↓wR,RA,simprocAttr,TF,ae,hg,e3,hp1];repeat (simp (disch:=omega) only [ag,bf,bg,be,bb];try simp only [↓wR,RA,simprocAttr,TF,ae,hg,e3,hp1])
    refine c7 [0,1,2,3,4,18,19,20,21,22] (fun (p:Nat × Nat)=>[.sl 0 0 N 5,.sc (.int .i64 (a)),.sc (.int .i64 (m)),.sc (.int .i64 (b)),(.sc (.func (.func 56) #[] #[])),.sc (.int .i64 (mid)),.sc (.int .i64 (n)),.sc (.int .i64 (p.1)),.sc (.int .i64 (p.2)),.sc (.int .i64 (((n - 1:Nat):Int)))]) (fun _=>[some (.row (cellsOf ah true ((X0))) 0 0 31)]) (fun p=>s0≤p.1∧p.1≤p.2∧p.2≤r0∧(∀ c e,s0<p.1→L[p.1 - 1 - a]? = some c→R[n - p.1 - m]? = some e→dy e c=false)∧(∀ c e,p.2<r0→L[p.2 - a]? = some c→R[n - 1 - p.2 - m]? = some e→dy e c=true)) (fun p=>p.2 - p.1) (s0,r0) ⟨Nat.le_refl _,hsr.2.1,Nat.le_refl _,fun _ _ q=>absurd q (Nat.lt_irrefl _),fun _ _ q=>absurd q (Nat.lt_irrefl _)⟩ (by simp only [↓wR,RA,simprocAttr,TF,ae];rw [e4]) (by simp only [↓wR,RA,simprocAttr,TF,ae]<;>rfl) ?_
    rintro ⟨i,j⟩ ⟨p1,p2,p3,p4,p5⟩
    simp only [] at p1 p2 p3 p4 p5 ⊢
    simp only [↓wR,RA,simprocAttr,TF,ae]
    rw [aw];refine ⟨fun h=>?_,fun h=>?_⟩
    ·have hlt:i<j:=by omega
     obtain ⟨u,hu⟩:∃ u,u=(i+j) / 2:=⟨_,rfl⟩
     have hub:i≤u∧u<j:=by omega
     have hhalf2:=half i j (by omega)
     rw [← hu] at hhalf2
     obtain ⟨x,hx⟩:∃ x,L[u - a]? = some x:=⟨_,List.getElem?_eq_getElem (by omega)⟩
     obtain ⟨y,hy⟩:∃ y,R[n - 1 - u - m]? = some y:=⟨_,List.getElem?_eq_getElem (by omega)⟩
     have hxV:=hLV x (List.mem_of_getElem? hx)
     have hyV:=hRV y (List.mem_of_getElem? hy)
     have gx:=hXL _ _ hx
     rw [show a+(u - a)=u by omega] at gx
     have gy:=hXR _ _ hy
     rw [show m+(n - 1 - u - m)=n - 1 - u by omega] at gy
     have hpu:((n - 1:Nat):Int) - u=((n - 1 - u:Nat):Int):=by omega
     have l1:=ll 0 0 31 gx
     have l2:=ll 0 0 31 gy
     simp only [↓wR,RA,simprocAttr,TF,ae,h,hhalf2,hpu,↓l1,↓l2,l6,hxV,hyV];repeat (simp (disch:=omega) only [ag,bf,bg,be,bb];try simp only [↓wR,RA,simprocAttr,TF,ae,h,hhalf2,hpu,↓l1,↓l2,l6,hxV,hyV])
     refine ⟨by kernel_rfl,.inl ?_⟩
     simp only [↓wR,RA,simprocAttr,TF,ae,E7,If]
     refine ⟨by apply hc;kernel_rfl,?_⟩
     rw [aw];refine ⟨fun hl=>?_,fun hl=>?_⟩
     ·have hll:dy y x=false:=decide_eq_false hl
      simp only [↓wR,RA,simprocAttr,TF,ae,hl];repeat (simp (disch:=omega) only [ag,bf,bg,be,bb];try simp only [↓wR,RA,simprocAttr,TF,ae,hl])
      exact ⟨(u+1,j),⟨by show s0≤u+1;omega,by show u+1≤j;omega,p3,fun c e _ hcc hee=>by
       have hcc':L[u+1 - 1 - a]? = some c:=hcc
       have hee':R[n - (u+1) - m]? = some e:=hee
       rw [show u+1 - 1 - a=u - a by omega,hx] at hcc'
       rw [show n - (u+1) - m=n - 1 - u - m by omega,hy] at hee'
       cases hcc';cases hee';exact hll,p5⟩,by show j - (u+1)<j - i;omega,by (first|rfl|trivial|omega|((try (simp (disch:=omega) only [ag]));(try (simp only [FB]));first|done|rfl|omega))⟩
     ·have hll:dy y x=true:=decide_eq_true (Decidable.not_not.1 hl)
      simp only [↓wR,RA,simprocAttr,TF,ae,hl];repeat (simp (disch:=omega) only [ag,bf,bg,be,bb];try simp only [↓wR,RA,simprocAttr,TF,ae,hl])
      exact ⟨(i,u),⟨p1,by show i≤u;omega,by show u≤r0;omega,p4,fun c e _ hcc hee=>by
       have hcc':L[u - a]? = some c:=hcc
       have hee':R[n - 1 - u - m]? = some e:=hee
       rw [hx] at hcc';rw [hy] at hee'
       cases hcc';cases hee';exact hll⟩,by show u - i<j - i;omega,by (first|rfl|trivial|omega|((try (simp (disch:=omega) only [ag]));(try (simp only [FB]));first|done|rfl|omega))⟩
    ·have hij:j=i:=by omega
     subst hij
     obtain ⟨X1,X2,c1,c2,c3,c4,c5,c6⟩:=hfin j p1 p3 p4 p5
     have hen:(n:Int) - j=((n - j:Nat):Int):=by omega
     obtain ⟨en,hen2⟩:∃ en,en=n - j:=⟨_,rfl⟩
     rw [← hen2] at c1 c2 c5 c6 hen
     obtain ⟨X3,hX3⟩:∃ X3,X3=A++eu dy L R++Z:=⟨_,rfl⟩
     rw [← hX3] at c5 c6 ⊢
     have b1:m<en↔j<mid:=by omega
     have b2:mid<en↔j<m:=by omega
     by_cases k1:a<j<;>by_cases k2:j<m<;>by_cases k3:j<mid<;>by_cases k4:en<b<;>first
      |(exfalso;omega)
      |(
       have d1:=k1
       have d2:=k2
       have d3:=k3
       have d4:=k4
       have hwr:IntKind.i64.wrap (en:Int)=en:=ag _ (by omega) (by omega)
       have d5:decide (m<en)=decide (j<mid):=decide_eq_decide.2 b1
       have d6:decide (mid<en)=decide (j<m):=decide_eq_decide.2 b2
       (try rw [c2 (by omega)])
       simp only [↓wR,RA,simprocAttr,TF,ae,h,hen,hwr,xf,d1,d2,d3,d4,d5,d6]
       (try (refine fc (c1 (by omega) (by omega)) ?_;rintro _ _ ⟨rfl,rfl⟩;simp only [↓wR,RA,simprocAttr,TF,ae,dv,h,hen,hwr,xf,d1,d2,d3,d4,d5,d6]))
       (try rw [c4 (by omega)])
       (try (refine fc (c3 (by omega) (by omega)) ?_;rintro _ _ ⟨rfl,rfl⟩;simp only [↓wR,RA,simprocAttr,TF,ae,dv,h,hen,hwr,xf,d1,d2,d3,d4,d5,d6]))
       (try rw [c6 (by omega)])
       (try (refine fc (c5 (by omega) (by omega)) ?_;rintro _ _ ⟨rfl,rfl⟩;simp only [↓wR,RA,simprocAttr,TF,ae,dv,h,hen,hwr,xf,d1,d2,d3,d4,d5,d6]))
       simp only [↓wR,RA,simprocAttr,TF,ae,g6,gv,gk])
   ·have e3:((a:Nat):Int)=((s0:Nat):Int):=by rw [hs0,if_neg (by omega)]
    have e4:((m:Nat):Int)=((r0:Nat):Int):=by rw [hr0,if_neg (by omega)]
    simp only [↓wR,RA,simprocAttr,TF,ae,hg,hp1];repeat (simp (disch:=omega) only [ag,bf,bg,be,bb];try simp only [↓wR,RA,simprocAttr,TF,ae,hg,hp1])
    refine c7 [0,1,2,3,4,18,19,20,21,22] (fun (p:Nat × Nat)=>[.sl 0 0 N 5,.sc (.int .i64 (a)),.sc (.int .i64 (m)),.sc (.int .i64 (b)),(.sc (.func (.func 56) #[] #[])),.sc (.int .i64 (mid)),.sc (.int .i64 (n)),.sc (.int .i64 (p.1)),.sc (.int .i64 (p.2)),.sc (.int .i64 (((n - 1:Nat):Int)))]) (fun _=>[some (.row (cellsOf ah true ((X0))) 0 0 31)]) (fun p=>s0≤p.1∧p.1≤p.2∧p.2≤r0∧(∀ c e,s0<p.1→L[p.1 - 1 - a]? = some c→R[n - p.1 - m]? = some e→dy e c=false)∧(∀ c e,p.2<r0→L[p.2 - a]? = some c→R[n - 1 - p.2 - m]? = some e→dy e c=true)) (fun p=>p.2 - p.1) (s0,r0) ⟨Nat.le_refl _,hsr.2.1,Nat.le_refl _,fun _ _ q=>absurd q (Nat.lt_irrefl _),fun _ _ q=>absurd q (Nat.lt_irrefl _)⟩ (by simp only [↓wR,RA,simprocAttr,TF,ae];rw [← e3,← e4]) (by simp only [↓wR,RA,simprocAttr,TF,ae]<;>rfl) ?_
    rintro ⟨i,j⟩ ⟨p1,p2,p3,p4,p5⟩
    simp only [] at p1 p2 p3 p4 p5 ⊢
    simp only [↓wR,RA,simprocAttr,TF,ae]
    rw [aw];refine ⟨fun h=>?_,fun h=>?_⟩
    ·have hlt:i<j:=by omega
     obtain ⟨u,hu⟩:∃ u,u=(i+j) / 2:=⟨_,rfl⟩
     have hub:i≤u∧u<j:=by omega
     have hhalf2:=half i j (by omega)
     rw [← hu] at hhalf2
     obtain ⟨x,hx⟩:∃ x,L[u - a]? = some x:=⟨_,List.getElem?_eq_getElem (by omega)⟩
     obtain ⟨y,hy⟩:∃ y,R[n - 1 - u - m]? = some y:=⟨_,List.getElem?_eq_getElem (by omega)⟩
     have hxV:=hLV x (List.mem_of_getElem? hx)
     have hyV:=hRV y (List.mem_of_getElem? hy)
     have gx:=hXL _ _ hx
     rw [show a+(u - a)=u by omega] at gx
     have gy:=hXR _ _ hy
     rw [show m+(n - 1 - u - m)=n - 1 - u by omega] at gy
     have hpu:((n - 1:Nat):Int) - u=((n - 1 - u:Nat):Int):=by omega
     have l1:=ll 0 0 31 gx
     have l2:=ll 0 0 31 gy
     simp only [↓wR,RA,simprocAttr,TF,ae,h,hhalf2,hpu,↓l1,↓l2,l6,hxV,hyV];repeat (simp (disch:=omega) only [ag,bf,bg,be,bb];try simp only [↓wR,RA,simprocAttr,TF,ae,h,hhalf2,hpu,↓l1,↓l2,l6,hxV,hyV])
     refine ⟨by kernel_rfl,.inl ?_⟩
     simp only [↓wR,RA,simprocAttr,TF,ae,E7,If]
     refine ⟨by apply hc;kernel_rfl,?_⟩
     rw [aw];refine ⟨fun hl=>?_,fun hl=>?_⟩
     ·have hll:dy y x=false:=decide_eq_false hl
      simp only [↓wR,RA,simprocAttr,TF,ae,hl];repeat (simp (disch:=omega) only [ag,bf,bg,be,bb];try simp only [↓wR,RA,simprocAttr,TF,ae,hl])
      exact ⟨(u+1,j),⟨by show s0≤u+1;omega,by show u+1≤j;omega,p3,fun c e _ hcc hee=>by
       have hcc':L[u+1 - 1 - a]? = some c:=hcc
       have hee':R[n - (u+1) - m]? = some e:=hee
       rw [show u+1 - 1 - a=u - a by omega,hx] at hcc'
       rw [show n - (u+1) - m=n - 1 - u - m by omega,hy] at hee'
       cases hcc';cases hee';exact hll,p5⟩,by show j - (u+1)<j - i;omega,by (first|rfl|trivial|omega|((try (simp (disch:=omega) only [ag]));(try (simp only [FB]));first|done|rfl|omega))⟩
     ·have hll:dy y x=true:=decide_eq_true (Decidable.not_not.1 hl)
      simp only [↓wR,RA,simprocAttr,TF,ae,hl];repeat (simp (disch:=omega) only [ag,bf,bg,be,bb];try simp only [↓wR,RA,simprocAttr,TF,ae,hl])
      exact ⟨(i,u),⟨p1,by show i≤u;omega,by show u≤r0;omega,p4,fun c e _ hcc hee=>by
       have hcc':L[u - a]? = some c:=hcc
       have hee':R[n - 1 - u - m]? = some e:=hee
       rw [hx] at hcc';rw [hy] at hee'
       cases hcc';cases hee';exact hll⟩,by show u - i<j - i;omega,by (first|rfl|trivial|omega|((try (simp (disch:=omega) only [ag]));(try (simp only [FB]));first|done|rfl|omega))⟩
    ·have hij:j=i:=by omega
     subst hij
     obtain ⟨X1,X2,c1,c2,c3,c4,c5,c6⟩:=hfin j p1 p3 p4 p5
     have hen:(n:Int) - j=((n - j:Nat):Int):=by omega
     obtain ⟨en,hen2⟩:∃ en,en=n - j:=⟨_,rfl⟩
     rw [← hen2] at c1 c2 c5 c6 hen
     obtain ⟨X3,hX3⟩:∃ X3,X3=A++eu dy L R++Z:=⟨_,rfl⟩
     rw [← hX3] at c5 c6 ⊢
     have b1:m<en↔j<mid:=by omega
     have b2:mid<en↔j<m:=by omega
     by_cases k1:a<j<;>by_cases k2:j<m<;>by_cases k3:j<mid<;>by_cases k4:en<b<;>first
      |(exfalso;omega)
      |(
       have d1:=k1
       have d2:=k2
       have d3:=k3
       have d4:=k4
       have hwr:IntKind.i64.wrap (en:Int)=en:=ag _ (by omega) (by omega)
       have d5:decide (m<en)=decide (j<mid):=decide_eq_decide.2 b1
       have d6:decide (mid<en)=decide (j<m):=decide_eq_decide.2 b2
       (try rw [c2 (by omega)])
       simp only [↓wR,RA,simprocAttr,TF,ae,h,hen,hwr,xf,d1,d2,d3,d4,d5,d6]
       (try (refine fc (c1 (by omega) (by omega)) ?_;rintro _ _ ⟨rfl,rfl⟩;simp only [↓wR,RA,simprocAttr,TF,ae,dv,h,hen,hwr,xf,d1,d2,d3,d4,d5,d6]))
       (try rw [c4 (by omega)])
       (try (refine fc (c3 (by omega) (by omega)) ?_;rintro _ _ ⟨rfl,rfl⟩;simp only [↓wR,RA,simprocAttr,TF,ae,dv,h,hen,hwr,xf,d1,d2,d3,d4,d5,d6]))
       (try rw [c6 (by omega)])
       (try (refine fc (c5 (by omega) (by omega)) ?_;rintro _ _ ⟨rfl,rfl⟩;simp only [↓wR,RA,simprocAttr,TF,ae,dv,h,hen,hwr,xf,d1,d2,d3,d4,d5,d6]))
       simp only [↓wR,RA,simprocAttr,TF,ae,g6,gv,gk])
theorem aa4 (N:Nat) (X:List az) (hN:N=X.length) (hs:N≤1048576) (hV:∀ x ∈ X,cd x) :
 ib PP 108 [.sl 0 0 N 5,.sc (.int .i64 (N)),(.sc (.func (.func 56) #[] #[]))] (bj [some (.row (cellsOf ah true ((X))) 0 0 31)])
  (fun r st'=>r = .fo []∧st'=bj [some (.row (cellsOf ah true ((dg dy X))) 0 0 31)]):=by
 refine dr _ rfl ?_ (fun r st' h=>h)
 refine ct (T:=[]) (ar.nil PP) mixed Tryz.func108 rfl (by kernel_rfl) (by kernel_rfl) (by kernel_rfl) (by kernel_rfl) ?_;unfold Tryz.f108
 simp only [↓wR,RA,simprocAttr,TF,ae]
 refine c7 [0,1,2,6,7,8] (fun (x:List az × List az)=>[.sl 0 0 N 5,.sc (.int .i64 (N)),(.sc (.func (.func 56) #[] #[])),.sc (.int .i64 (20)),.sc (.int .i64 (x.1.length)),.sc (.int .i64 (((x.1.length+20:Nat):Int)))]) (fun x=>[some (.row (cellsOf ah true ((x.1++x.2))) 0 0 31)]) (fun x=>x.1++jb dy 20 x.2=jb dy 20 X∧x.1.length+x.2.length=N∧∀ y ∈ x.2,cd y) (fun x=>x.2.length) ([],X) ⟨rfl,by rw [hN];simp,hV⟩ (by simp only [↓wR,RA,simprocAttr,TF,ae]<;>rfl) (by simp only [↓wR,RA,simprocAttr,TF,ae]<;>rfl) ?_
 rintro ⟨D,Y⟩ ⟨h1,h2,h3⟩
 simp only [] at h1 h2 h3 ⊢
 simp only [↓wR,RA,simprocAttr,TF,ae]
 rw [aw];refine ⟨fun h=>?_,fun h=>?_⟩
 ·have hle : 20≤Y.length:=by omega
  have hY:Y=Y.take 20++Y.drop 20:=(List.take_append_drop 20 Y).symm
  have hl1:(Y.take 20).length=20:=by rw [List.length_take];omega
  have hins:=N6 N D.length (D.length+20) D (Y.take 20) (Y.drop 20) (by simp only [List.length_append,List.length_take,List.length_drop];omega) hs rfl (by omega) (fun x hx=>h3 x (List.mem_of_mem_take hx))
  rw [show D++Y.take 20++Y.drop 20=D++Y by rw [List.append_assoc,List.take_append_drop]] at hins
  have hb1:((D.length+20:Nat):Int)+20=((D.length+20+20:Nat):Int):=by omega
  simp only [↓wR,RA,simprocAttr,TF,ae,h];repeat (simp (disch:=omega) only [ag,bf,bg,be,bb];try simp only [↓wR,RA,simprocAttr,TF,ae,h])
  refine fc hins ?_
  rintro _ _ ⟨rfl,rfl⟩
  simp only [↓wR,RA,simprocAttr,TF,ae,dv,hb1];repeat (simp (disch:=omega) only [ag,bf,bg,be,bb];try simp only [↓wR,RA,simprocAttr,TF,ae,dv,hb1])
  refine ⟨(D++dg dy (Y.take 20),Y.drop 20),⟨?_,?_,fun y hy=>h3 y (List.mem_of_mem_drop hy)⟩,?_,?_,?_⟩
  ·rw [← h1,A2 (l:=Y) (by decide) hle,List.append_assoc]
  ·simp only [List.length_append,ed,List.length_drop,hl1];omega
  ·simp only [List.length_drop];omega
  ·simp only [List.length_append,ed,hl1]<;>rfl
  ·rfl
 ·have hle:Y.length<20:=by omega
  have hins:=N6 N D.length N D Y [] (by simp only [List.length_append,List.length_nil];omega) hs rfl (by omega) h3
  rw [List.append_nil,List.append_nil,show D++dg dy Y=jb dy 20 X by rw [← h1,pg (by omega)]] at hins
  simp only [↓wR,RA,simprocAttr,TF,ae,h];repeat (simp (disch:=omega) only [ag,bf,bg,be,bb];try simp only [↓wR,RA,simprocAttr,TF,ae,h])
  refine fc hins ?_
  rintro _ _ ⟨rfl,rfl⟩
  simp only [↓wR,RA,simprocAttr,TF,ae,dv];repeat (simp (disch:=omega) only [ag,bf,bg,be,bb];try simp only [↓wR,RA,simprocAttr,TF,ae,dv])
  refine c7 [0,1,2,6] (fun (k:Nat)=>[.sl 0 0 N 5,.sc (.int .i64 (N)),(.sc (.func (.func 56) #[] #[])),.sc (.int .i64 (k))]) (fun k=>[some (.row (cellsOf ah true ((jb dy k X))) 0 0 31)]) (fun k=>0<k∧k≤2 * N+40) (fun k=>N - k) 20 ⟨by decide,by omega⟩ (by simp only [↓wR,RA,simprocAttr,TF,ae]<;>rfl) (by simp only [↓wR,RA,simprocAttr,TF,ae]<;>rfl) ?_
  clear h1 h2 h3 h hle hins D Y
  rintro k ⟨hk0,hk1⟩
  simp only [↓wR,RA,simprocAttr,TF,ae]
  rw [aw];refine ⟨fun h=>?_,fun h=>?_⟩
  ·have e2:(2:Int) * k=((k+k:Nat):Int):=by omega
   simp only [↓wR,RA,simprocAttr,TF,ae,h,e2];repeat (simp (disch:=omega) only [ag,bf,bg,be,bb];try simp only [↓wR,RA,simprocAttr,TF,ae,h,e2])
   refine c7 [0,1,2,6,7,8] (fun (x:List az × List az)=>[.sl 0 0 N 5,.sc (.int .i64 (N)),(.sc (.func (.func 56) #[] #[])),.sc (.int .i64 (k)),.sc (.int .i64 (x.1.length)),.sc (.int .i64 (((x.1.length+(k+k):Nat):Int)))]) (fun x=>[some (.row (cellsOf ah true ((x.1++jb dy k x.2))) 0 0 31)]) (fun x=>x.1++jb dy (k+k) x.2=jb dy (k+k) X∧x.1.length+x.2.length=N∧∀ y ∈ x.2,cd y) (fun x=>x.2.length) ([],X) ⟨rfl,by rw [hN];simp,hV⟩ (by simp only [↓wR,RA,simprocAttr,TF,ae]<;>simp) (by simp only [↓wR,RA,simprocAttr,TF,ae]<;>rfl) ?_
   rintro ⟨D,Y⟩ ⟨h1,h2,h3⟩
   simp only [] at h1 h2 h3 ⊢
   have hm1:(D.length:Int)+k=((D.length+k:Nat):Int):=by omega
   simp only [↓wR,RA,simprocAttr,TF,ae]
   rw [aw];refine ⟨fun h4=>?_,fun h4=>?_⟩
   ·have hle:k+k≤Y.length:=by omega
    have hb1:((D.length+(k+k):Nat):Int)+((k+k:Nat):Int)=((D.length+(k+k)+(k+k):Nat):Int):=by omega
    have l1:(Y.take k).length=k:=by rw [List.length_take];omega
    have l2:((Y.drop k).take k).length=k:=by rw [List.length_take,List.length_drop];omega
    have hsym:=M5 (k+k) N D.length (D.length+k) (D.length+(k+k)) D (dg dy (Y.take k)) (dg dy ((Y.drop k).take k)) (jb dy k (Y.drop (k+k))) (by omega) (by simp only [List.length_append,ed,l1,l2,aka hk0 _ _ (Nat.le_refl _),List.length_drop];omega) hs rfl (by rw [ed,l1]) (by rw [ed,l2];omega) (by rw [ed,l1];exact hk0) (by rw [ed,l2];exact hk0) (fun x hx=>h3 x (List.mem_of_mem_take (ju.1 hx))) (fun x hx=>h3 x (List.mem_of_mem_drop (List.mem_of_mem_take (ju.1 hx)))) (lq oo _ (fun y hy=>h3 y (List.mem_of_mem_take hy))) (lq oo _ (fun y hy=>h3 y (List.mem_of_mem_drop (List.mem_of_mem_take hy))))
    rw [Ec oo _ _ (fun y hy=>h3 y (List.mem_of_mem_take hy)) (fun y hy=>h3 y (List.mem_of_mem_drop (List.mem_of_mem_take hy))),acu,show D++dg dy (Y.take k)++dg dy ((Y.drop k).take k)++jb dy k (Y.drop (k+k))=D++jb dy k Y by rw [ajz hk0 hle];simp] at hsym
    simp only [↓wR,RA,simprocAttr,TF,ae,h4,hm1];repeat (simp (disch:=omega) only [ag,bf,bg,be,bb];try simp only [↓wR,RA,simprocAttr,TF,ae,h4,hm1])
    refine fc hsym ?_
    rintro _ _ ⟨rfl,rfl⟩
    simp only [↓wR,RA,simprocAttr,TF,ae,dv,e2,hb1];repeat (simp (disch:=omega) only [ag,bf,bg,be,bb];try simp only [↓wR,RA,simprocAttr,TF,ae,dv,e2,hb1])
    refine ⟨(D++dg dy (Y.take (k+k)),Y.drop (k+k)),⟨?_,?_,fun y hy=>h3 y (List.mem_of_mem_drop hy)⟩,?_,?_,?_⟩
    ·rw [← h1,A2 (l:=Y) (by omega) hle,List.append_assoc]
    ·simp only [List.length_append,ed,List.length_drop,List.length_take];omega
    ·simp only [List.length_drop];omega
    ·have:(D++dg dy (Y.take (k+k))).length=D.length+(k+k):=by simp only [List.length_append,ed,List.length_take];omega
     simp only [this]
    ·rfl
   ·have hle:Y.length<k+k:=by omega
    have e3:(k:Int) * 2=((k+k:Nat):Int):=by omega
    simp only [↓wR,RA,simprocAttr,TF,ae,h4,hm1];repeat (simp (disch:=omega) only [ag,bf,bg,be,bb];try simp only [↓wR,RA,simprocAttr,TF,ae,h4,hm1])
    rw [aw];refine ⟨fun h5=>?_,fun h5=>?_⟩
    ·have hlt:k<Y.length:=by omega
     have l1:(Y.take k).length=k:=by rw [List.length_take];omega
     have hsym:=M5 (k+k) N D.length (D.length+k) N D (dg dy (Y.take k)) (dg dy (Y.drop k)) [] (by omega) (by simp only [List.length_append,ed,l1,List.length_drop,List.length_nil];omega) hs rfl (by rw [ed,l1]) (by rw [ed,List.length_drop];omega) (by rw [ed,l1];exact hk0) (by rw [ed,List.length_drop];omega) (fun x hx=>h3 x (List.mem_of_mem_take (ju.1 hx))) (fun x hx=>h3 x (List.mem_of_mem_drop (ju.1 hx))) (lq oo _ (fun y hy=>h3 y (List.mem_of_mem_take hy))) (lq oo _ (fun y hy=>h3 y (List.mem_of_mem_drop hy)))
     rw [Ec oo _ _ (fun y hy=>h3 y (List.mem_of_mem_take hy)) (fun y hy=>h3 y (List.mem_of_mem_drop hy)),List.take_append_drop,List.append_nil,List.append_nil,show D++dg dy (Y.take k)++dg dy (Y.drop k)=D++jb dy k Y by rw [ae7 hk0 hlt (by omega)];simp,show D++dg dy Y=jb dy (k+k) X by rw [← h1,pg (by omega)]] at hsym
     simp only [↓wR,RA,simprocAttr,TF,ae,h5];repeat (simp (disch:=omega) only [ag,bf,bg,be,bb];try simp only [↓wR,RA,simprocAttr,TF,ae,h5])
     refine fc hsym ?_
     rintro _ _ ⟨rfl,rfl⟩
     simp only [↓wR,RA,simprocAttr,TF,ae,dv,e3];repeat (simp (disch:=omega) only [ag,bf,bg,be,bb];try simp only [↓wR,RA,simprocAttr,TF,ae,dv,e3])
     exact ⟨k+k,⟨by omega,by omega⟩,by omega,by (first|rfl|trivial|omega|((try (simp (disch:=omega) only [ag]));(try (simp only [FB]));first|done|rfl|omega)),by (first|rfl|trivial|omega|((try (simp (disch:=omega) only [ag]));(try (simp only [FB]));first|done|rfl|omega))⟩
    ·have hlt:Y.length≤k:=by omega
     rw [show D++jb dy k Y=jb dy (k+k) X by rw [← h1,pg hlt,pg (by omega)]]
     simp only [↓wR,RA,simprocAttr,TF,ae,h5,e3];repeat (simp (disch:=omega) only [ag,bf,bg,be,bb];try simp only [↓wR,RA,simprocAttr,TF,ae,h5,e3])
     exact ⟨k+k,⟨by omega,by omega⟩,by omega,by (first|rfl|trivial|omega|((try (simp (disch:=omega) only [ag]));(try (simp only [FB]));first|done|rfl|omega)),by (first|rfl|trivial|omega|((try (simp (disch:=omega) only [ag]));(try (simp only [FB]));first|done|rfl|omega))⟩
  ·have hle:X.length≤k:=by omega
   rw [pg hle]
   simp only [↓wR,RA,simprocAttr,TF,ae,h,g6,gv,gk]
theorem aat (N:Nat) (X:List az) (hN:N=X.length) (hs:N≤1048576) (hV:∀ x ∈ X,cd x) :
 ib PP 55 [.sl 0 0 N 5,(.sc (.func (.func 56) #[] #[]))] (bj [some (.row (cellsOf ah true ((X))) 0 0 31)])
  (fun r st'=>r = .fo []∧st'=bj [some (.row (cellsOf ah true ((dg dy X))) 0 0 31)]):=by
 refine dr _ rfl ?_ (fun r st' h=>h)
 refine ct (T:=[]) (ar.nil PP) mixed Tryz.func55 rfl (by kernel_rfl) (by kernel_rfl) (by kernel_rfl) (by kernel_rfl) ?_;unfold Tryz.f55
 simp only [↓wR,RA,simprocAttr,TF,ae]
 refine fc (aa4 N X hN hs hV) ?_
 rintro _ _ ⟨rfl,rfl⟩
 simp only [↓wR,RA,simprocAttr,TF,ae,dv,g6,gv,gk]
theorem apo (l:List az) (hl:qd l) (hl2:l.length≤1048576):wl PP [axz] 0 (Tryz.f11.body.getD .skip) (da PP Tryz.f11.results.toList (fun r st=>(r1 (cq ah)).get true st.h r=some (dg dy l))) (cj 0 [(cq ah).val false l]) (bj []):=by
 have hlen:=hl.1
 unfold Tryz.f11
 simp only [↓wR,RA,simprocAttr,TF,ae]
 refine fj [6,7,8,3] (fun (x:List az)=>[.vl false 5 (l.map (ah.val false)),.sc (.int .i64 (l.length)),.sc (.int .i64 (x.length)),.sl 0 0 x.length 5]) (fun x=>[some (.row (cellsOf ah true ((x))) 0 0 31)]) (fun x=>x.length≤l.length∧x++l.drop x.length=l) (fun x=>l.length - x.length) [] ⟨Nat.zero_le _,rfl⟩ (by simp only [↓wR,RA,simprocAttr,TF,ae];(refine ji.lax [] (by first|exact Nat.le_of_ble_eq_true rfl|(simp [dk];omega)) ?_ ?_<;>repeat' first|exact ef.nil|exact b9.nil|exact fe.same _|exact fe.nil _ _ _|exact fe.lu _ _|exact b9.refl _ _|apply ef.cons|apply b9.ghost|apply b9.same|apply b9.row)) ?_
 rintro x ⟨hi,hx⟩
 simp only [↓wR,RA,simprocAttr,TF,ae]
 rw [aw];refine ⟨fun h=>?_,fun h=>?_⟩
 ·obtain ⟨c,hc,hd1,hlt⟩:=dx (decide_eq_true h)
  rw [hd1] at hx
  have hcs:=hl.2 c (List.mem_of_getElem? hc)
  have hlim:(x.length * 5+5) * 64≤140737488355328:=by omega
  simp only [↓wR,RA,simprocAttr,TF,ae,h,hc,Ch,hcs,hlim];repeat (simp (disch:=omega) only [ag,bf,bg,be,bb];try simp only [↓wR,RA,simprocAttr,TF,ae,h,hc,Ch,hcs,hlim])
  refine ⟨x++[c],⟨by simp;omega,by simpa using hx⟩,by simp;omega,by (first|rfl|trivial|omega|((try (simp (disch:=omega) only [ag]));(try (simp only [FB]));first|done|rfl|omega)),?_⟩
  rw [gh]
 ·rw [fl (decide_eq_false h),List.append_nil] at hx
  subst hx
  simp only [↓wR,RA,simprocAttr,TF,ae,h]
  refine fc (aat x.length x rfl hl2 hl.2) ?_
  rintro _ _ ⟨rfl,rfl⟩
  simp only [↓wR,RA,simprocAttr,TF,ae,dv]
  exact ku ah true _ true (dg dy x) 0 0 _ x.length (by rw [ed]) rfl (by kernel_rfl)
noncomputable def Ht (x:List az × Unit):Option AV:=if qd x.1∧x.1.length≤1048576 then some ((r1 (cq ah)).E true (dg dy x.1)) else none
set_option maxRecDepth 2000000 in
theorem ahl (x:List az × Unit) (r:AV) (h:Ht x=some r):bk PP 11 ((aC (cq ah) a0).E x) r:=by
 by_cases hc:qd x.1∧x.1.length≤1048576
 case neg=>simp only [Ht,if_neg hc] at h;cases h
 simp only [Ht,if_pos hc] at h
 cases h
 exact ay (ar.cons (ak adx) (ar.nil PP)) Tryz.func11 (by kernel_rfl) (by kernel_rfl) (by kernel_rfl) (Nat.le_of_ble_eq_true (by kernel_rfl)) (r1 (cq ah)) true (dg dy x.1) (apo x.1 hc.1 hc.2)
noncomputable abbrev aAg:Nat × Bool × (List AV→M AV):=(11,true,c8 (aC (cq ah) a0) Ht)
theorem az5 {l:List az} {x:az} {k:Nat} (hr:iz dy l) (hk:k≤l.length) (h1:∀ y,l[k]? = some y→dy x y=true) (h2:∀ y,0<k→l[k - 1]? = some y→dy x y=false):j4 dy x l=l.take k++x::l.drop k:=by
 have:=Fb (lt:=dy) (x:=x) (l.take k) (l.drop k) (fun y hy=>?_) (fun y hy=>?_)
 ·rwa [List.take_append_drop] at this
 ·obtain ⟨i,hi,hy⟩:=List.getElem_of_mem hy
  have hi':i<k:=by simp at hi;omega
  have hz:l[k - 1]? = some (l[k - 1]'(by omega)):=List.getElem?_eq_getElem (by omega)
  have hxz:=h2 _ (by omega) hz
  rw [List.getElem_take] at hy
  subst hy
  by_cases e:i=k - 1
  ·subst e;exact hxz
  ·have:=List.pairwise_iff_getElem.1 hr i (k - 1) (by omega) (by omega) (by omega)
   exact O2.trans _ _ _ trivial trivial trivial this hxz
 ·rw [List.head?_drop] at hy
  exact h1 y hy
set_option maxHeartbeats 4000000 in
theorem avp (l:List az) (hl:qd l) (hl2:l.length≤1048576):wl PP [azu,wz] 0 (Tryz.f18.body.getD .skip) (da PP Tryz.f18.results.toList (fun r st=>(r1 (cq ah)).get true st.h r=some (dg dy l))) (cj 0 [(cq ah).val false l]) (bj []):=by
 unfold Tryz.f18
 simp only [↓wR,RA,simprocAttr,TF,ae]
 refine fj [0,4,3] (fun (i:Nat)=>[.vl false 5 (l.map (ah.val false)),.sc (.int .i64 (i)),.sl 0 0 (dg dy (l.take i)).length 5]) (fun i=>[some (.row (cellsOf ah true (dg dy (l.take i))) 0 0 31)]) (fun i=>i≤l.length) (fun i=>l.length - i) 0 (Nat.zero_le _) (by simp only [↓wR,RA,simprocAttr,TF,ae];(refine ji.lax [] (by first|exact Nat.le_of_ble_eq_true rfl|(simp [dk];omega)) ?_ ?_<;>repeat' first|exact ef.nil|exact b9.nil|exact fe.same _|exact fe.nil _ _ _|exact fe.lu _ _|exact b9.refl _ _|apply ef.cons|apply b9.ghost|apply b9.same|apply b9.row)) ?_
 intro i hi
 obtain ⟨x,hx⟩:∃ x,x=dg dy (l.take i):=⟨_,rfl⟩
 rw [← hx]
 have hxl:x.length=i:=by rw [hx,ed,List.length_take];omega
 have hxm:∀ s ∈ x,cd s:=fun s hs=>hl.2 s (List.mem_of_mem_take (ju.1 (hx ▸ hs)))
 have hxr:iz dy x:=by rw [hx];exact lq O2 _ (fun _ _=>trivial)
 simp only [↓wR,RA,simprocAttr,TF,ae]
 rw [aw];refine ⟨fun h=>?_,fun h=>?_⟩
 ·obtain ⟨c,hc,hd1,hlt⟩:=dx (decide_eq_true h)
  have hcs:=hl.2 c (List.mem_of_getElem? hc)
  have hsn:dg dy (l.take (i+1))=j4 dy c x:=by
   obtain ⟨hk,rfl⟩:=List.getElem?_eq_some_iff.1 hc
   rw [List.take_succ_eq_append_getElem hk,sk,← hx]
  simp only [↓wR,RA,simprocAttr,TF,ae,h]
  refine c7 [0,3,4,5] (fun (k:Nat)=>[.vl false 5 (l.map (ah.val false)),.sl 0 0 x.length 5,.sc (.int .i64 (i)),.sc (.int .i64 (k))]) (fun _=>[some (.row (cellsOf ah true (x)) 0 0 31)]) (fun k=>k≤x.length∧∀ y,x[k]? = some y→dy c y=true) (fun k=>k) x.length ⟨Nat.le_refl _,fun y hy=>by rw [List.getElem?_eq_none (Nat.le_refl _)] at hy;cases hy⟩ (by simp only [↓wR,RA,simprocAttr,TF,ae]<;>rfl) (by simp only [↓wR,RA,simprocAttr,TF,ae]<;>rfl) ?_
  rintro k ⟨hk,hky⟩
  simp only [↓wR,RA,simprocAttr,TF,ae]
  refine ⟨by kernel_rfl,.inl ?_⟩
  have hT:(cellsOf ah true x).take ((k - 0) * 5)=cellsOf ah true (x.take k):=by rw [Nat.sub_zero];exact F2 ah true x k
  have hTl:(cellsOf ah true (x.take k)).length=k * 5:=by rw [jv,List.length_take,Nat.min_eq_left hk];rfl
  have hD:(cellsOf ah true x).drop (k * 5)=cellsOf ah true (x.drop k):=Aw ah true x k
  have hDl:(cellsOf ah true (x.drop k)).length=(x.length - k) * 5:=by rw [jv,List.length_drop];rfl
  have hDt:(cellsOf ah true (x.drop k)).take ((x.length - k) * 5)=cellsOf ah true (x.drop k):=by rw [← hDl];exact List.take_length
  have hb5:(k - 0) * 5≤x.length * 5:=by omega
  have hins:=fun h=>az5 (x:=c) (k:=k) hxr hk hky h
  rw [aw];refine ⟨fun h2=>?_,fun h2=>?_⟩
  ·obtain ⟨y,hy⟩:∃ y,x[k - 1]? = some y:=⟨_,List.getElem?_eq_getElem (by omega)⟩
   have hys:=hxm y (List.mem_of_getElem? hy)
   have e1:((k:Int) - 1).toNat=k - 1:=by omega
   have hld:=fun k st et=>ll k st et hy
   simp only [↓wR,RA,simprocAttr,TF,ae,h2,hc,e1,hld,E0,hcs,hys];repeat (simp (disch:=omega) only [ag,bf,bg,be,bb];try simp only [↓wR,RA,simprocAttr,TF,ae,h2,hc,e1,hld,E0,hcs,hys])
   refine ⟨by kernel_rfl,?_⟩
   rw [di];refine ⟨fun h3=>?_,fun h3=>?_⟩
   ·simp only [↓wR,RA,simprocAttr,TF,ae,h3];repeat (simp (disch:=omega) only [ag,bf,bg,be,bb];try simp only [↓wR,RA,simprocAttr,TF,ae,h3])
    exact ⟨k - 1,⟨by omega,fun z hz=>by rw [hy] at hz;cases hz;exact h3⟩,by omega,by (first|rfl|trivial|omega|((try (simp (disch:=omega) only [ag]));(try (simp only [FB]));first|done|rfl|omega))⟩
   ·have hin:=hins (fun z _ hz=>by rw [hy] at hz;cases hz;exact h3)
    rw [hin] at hsn
    clear hins
    have hTe:(cellsOf ah true (x.take k)).isEmpty=false:=by rw [List.isEmpty_eq_false_iff_exists_mem];exact ⟨_,List.getElem_mem (n:=0) (by omega)⟩
    have hl1:k * 5 * 56≤140737488355328:=by omega
    have hcc:=(gh true (x.take k) c).symm
    have hcl:(cellsOf ah true (x.take k++[c])).length=(k+1) * 5:=by rw [jv,List.length_append,List.length_take,Nat.min_eq_left hk];rfl
    have hct:(cellsOf ah true (x.take k++[c])).take ((k+1) * 5)=cellsOf ah true (x.take k++[c]):=by rw [← hcl];exact List.take_length
    have hj:cellsOf ah true (x.take k++[c])++cellsOf ah true (x.drop k)=cellsOf ah true (dg dy (l.take (i+1))):=by rw [hsn,← xk,List.append_assoc];rfl
    have hl3:((k+1) * 5+(x.length - k) * 5) * 56≤140737488355328:=by omega
    have hsl:(dg dy (l.take (i+1))).length=x.length+1:=by rw [hsn];simp;omega
    have hs5:k+1+(x.length - k) * 5 / 5=x.length+1:=by omega
    simp only [↓wR,RA,simprocAttr,TF,ae,h3,hk,hT,hTl,hTe,hb5,hl1,hc,g8,hcs,hD,hDl,hDt,hcc,hcl,hct,hj,hl3,hs5];repeat (simp (disch:=omega) only [ag,bf,bg,be,bb];try simp only [↓wR,RA,simprocAttr,TF,ae,h3,hk,hT,hTl,hTe,hb5,hl1,hc,g8,hcs,hD,hDl,hDt,hcc,hcl,hct,hj,hl3,hs5])
    exact ⟨i+1,hlt,by omega,by rw [hsl,show k+1+(x.length - k)=x.length+1 by omega];rfl,rfl⟩
  ·have hin:=hins (fun z hz=>by omega)
   rw [hin] at hsn
   clear hins
   simp only [↓wR,RA,simprocAttr,TF,ae,h2]
   refine ⟨by kernel_rfl,?_⟩
   have hk0:k=0:=by omega
   subst hk0
   have hX0:(cellsOf ah true x).take ((x.length - 0) * 5)=cellsOf ah true x:=by rw [Nat.sub_zero,← show (cellsOf ah true x).length=x.length * 5 from jv ah true x];exact List.take_length
   have hXl:(cellsOf ah true x).length=x.length * 5:=jv ah true x
   have hj:AV.vl true 1 (c.owner.map (aj.val false))::AV.sc (.int .u16 c.type.toNat)::AV.sc (.int .u16 c.cls.toNat)::AV.sc (.int .u32 c.ey.toNat)::AV.vl true 4 (c.data.map (aq.val true))::cellsOf ah true x=cellsOf ah true (dg dy (l.take (i+1))):=by rw [hsn,List.take_zero,List.nil_append,List.drop_zero,zx];rfl
   have hl3:(5+x.length * 5) * 56≤140737488355328:=by omega
   have hsl:(dg dy (l.take (i+1))).length=x.length+1:=by rw [hsn];simp
   have hs5 : 1+x.length * 5 / 5=x.length+1:=by omega
   simp only [↓wR,RA,simprocAttr,TF,ae,hk,hc,g8,hcs,hX0,hXl,hj,hl3,hs5];repeat (simp (disch:=omega) only [ag,bf,bg,be,bb];try simp only [↓wR,RA,simprocAttr,TF,ae,hk,hc,g8,hcs,hX0,hXl,hj,hl3,hs5])
   exact ⟨i+1,hlt,by omega,by rw [hsl,Nat.add_comm 1];rfl,rfl⟩
 ·have hil:l.take i=l:=List.take_of_length_le (by omega)
  rw [hil] at hx
  have hd:∀ fr h k st et,A9 fr st 5 ah.kd et=true→kj ah fr h 0 x.length (.row (cellsOf ah true x) k st et)=some x:=fun fr h k st et hro=>ku ah fr h true x k st et x.length rfl (by cases fr<;>rfl) hro
  rw [← hx]
  simp only [↓wR,RA,simprocAttr,TF,ae,h]
noncomputable def Lo (x:List az × Unit):Option AV:=if qd x.1∧x.1.length≤1048576 then some ((r1 (cq ah)).E true (dg dy x.1)) else none
set_option maxRecDepth 2000000 in
theorem amt (x:List az × Unit) (r:AV) (h:Lo x=some r):bk PP 18 ((aC (cq ah) a0).E x) r:=by
 by_cases hc:qd x.1∧x.1.length≤1048576
 case neg=>simp only [Lo,if_neg hc] at h;cases h
 simp only [Lo,if_pos hc] at h
 cases h
 exact ay (ar.cons (ak ahd) (ar.cons (ak ou) (ar.nil PP))) Tryz.func18 (by kernel_rfl) (by kernel_rfl) (by kernel_rfl) (Nat.le_of_ble_eq_true (by kernel_rfl)) (r1 (cq ah)) true (dg dy x.1) (avp x.1 hc.1 hc.2)
noncomputable abbrev aBf:Nat × Bool × (List AV→M AV):=(18,true,c8 (aC (cq ah) a0) Lo)
theorem abm (s:az) (hs:cd s):wl PP [Td,D8,rIn] 0 (Tryz.f86.body.getD .skip) (da PP Tryz.f86.results.toList (fun r st=>(r1 (bh .i64)).get true st.h r=some (py s))) (cj 0 [ah.val false s]) (bj []):=by
 have ho:=hs.owner
 have hd:=hs.data
 have hn:=hd.len
 unfold Tryz.f86
 simp only [fu]
 simp only [↓wR,RA,simprocAttr,TF,ae,zg,ho.fit]
 unfold py
 rw [c9];refine ⟨fun ⟨h,he⟩=>?_,fun ⟨h,he⟩=>?_⟩
 ·rw [if_pos he]
  simp only [↓wR,RA,simprocAttr,TF,ae,h]
 rw [if_neg (by omega)]
 simp only [↓wR,RA,simprocAttr,TF,ae,h]
 rw [cp];refine ⟨fun ⟨h1,e1⟩=>?_,fun ⟨h1,e1⟩=>?_⟩
 ·rw [if_pos (by omega)]
  simp only [↓wR,RA,simprocAttr,TF,ae,h1]
 rw [if_neg (by omega)]
 simp only [↓wR,RA,simprocAttr,TF,ae,h1]
 rw [aw];refine ⟨fun h2=>?_,fun h2=>?_⟩
 ·rw [if_pos (by omega)]
  simp only [↓wR,RA,simprocAttr,TF,ae,h2]
 rw [if_neg (by omega)]
 simp only [↓wR,RA,simprocAttr,TF,ae,h2]
 refine c7 [1,4] (fun (i:Nat)=>[.ptr 0 0,.sc (.int .i64 (i))]) (fun _=>[some (.row [.vl false 1 (s.owner.map (aj.val false)),.sc (.int .u16 s.type.toNat),.sc (.int .u16 s.cls.toNat),.sc (.int .u32 s.ey.toNat),.vl false 4 (s.data.map (aq.val false))] 0 2 31)]) (fun i=>i≤s.data.length∧qv s.type [] s.data=qv s.type (s.data.take i) (s.data.drop i)) (fun i=>s.data.length - i) 0 ⟨Nat.zero_le _,rfl⟩ (by simp only [↓wR,RA,simprocAttr,TF,ae]<;>rfl) (by simp only [↓wR,RA,simprocAttr,TF,ae]<;>rfl) ?_
 rintro i ⟨hi,hx⟩
 simp only [↓wR,RA,simprocAttr,TF,ae]
 rw [aw];refine ⟨fun h3=>?_,fun h3=>?_⟩
 ·obtain ⟨c,hc,hd1,hlt⟩:=dx (decide_eq_true h3)
  rw [Qw _ hc] at hx
  have hcs:=hd.mem c (List.mem_of_getElem? hc)
  simp only [↓wR,RA,simprocAttr,TF,ae,h3]
  refine ⟨by kernel_rfl,.inl ?_⟩
  simp only [↓wR,RA,simprocAttr,TF,ae,hc,m6,hcs]
  refine ⟨by kernel_rfl,?_⟩
  rw [c9];refine ⟨fun ⟨h4,he4⟩=>?_,fun ⟨h4,he4⟩=>?_⟩
  ·rw [if_pos he4] at hx
   rw [hx]
   simp only [↓wR,RA,simprocAttr,TF,ae,h4]
  ·rw [if_neg (by omega)] at hx
   simp only [↓wR,RA,simprocAttr,TF,ae,h4]
   refine ⟨by kernel_rfl,.inl ?_⟩
   simp only [↓wR,RA,simprocAttr,TF,ae,hi,hc,ace,hd.take i,hcs]
   refine ⟨by kernel_rfl,?_⟩
   rw [di];refine ⟨fun h5=>?_,fun h5=>?_⟩
   ·rw [if_pos h5] at hx
    rw [hx]
    simp only [↓wR,RA,simprocAttr,TF,ae,h5]
   ·rw [if_neg (by rw [h5];decide)] at hx
    simp only [↓wR,RA,simprocAttr,TF,ae,h5];repeat (simp (disch:=omega) only [ag,bf,bg,be,bb];try simp only [↓wR,RA,simprocAttr,TF,ae,h5])
    exact ⟨i+1,⟨hlt,hx⟩,by omega,by (first|rfl|trivial|omega|((try (simp (disch:=omega) only [ag]));(try (simp only [FB]));first|done|rfl|omega))⟩
 ·rw [fl (decide_eq_false h3)] at hx
  rw [hx]
  simp only [↓wR,RA,simprocAttr,TF,ae,h3]
  try rfl
noncomputable def z7 (x:az × Unit):Option AV:=if cd x.1 then some ((r1 (bh .i64)).E true (py x.1)) else none
set_option maxRecDepth 2000000 in
theorem Xc (x:az × Unit) (r:AV) (h:z7 x=some r):bk PP 86 ((aC ah a0).E x) r:=by
 by_cases hc:cd x.1
 case neg=>simp only [z7,if_neg hc] at h;cases h
 simp only [z7,if_pos hc] at h
 cases h
 exact ay (ar.cons (ak Cu) (ar.cons (ak vm) (ar.cons (ak auq) (ar.nil PP)))) Tryz.func86 (by kernel_rfl) (by kernel_rfl) (by kernel_rfl) (Nat.le_of_ble_eq_true (by kernel_rfl)) (r1 (bh .i64)) true (py x.1) (abm x.1 hc)
noncomputable abbrev aqk:Nat × Bool × (List AV→M AV):=(86,true,c8 (aC ah a0) z7)
theorem D1 (s:az) (N a b n:Nat) (A P M Q Z:List bt) (hN:N=(A++P++M++Q++Z).length) (hs:N≤1048576) (ha:a=A.length) (hp:n=P.length) (hq:n=Q.length) (hb:b=a+n+M.length) :
 ib PP 206 [.sl 0 0 N 4,.sc (.int .i64 (a)),.sc (.int .i64 (b)),.sc (.int .i64 (n)),(.fn (.func 176) [] [.ptr 1 0])] (bj [some (.row (cellsOf aq true ((A++P++M++Q++Z))) 0 0 101),some (.row [.vl false 1 (s.owner.map (aj.val false)),.sc (.int .u16 s.type.toNat),.sc (.int .u16 s.cls.toNat),.sc (.int .u32 s.ey.toNat),.vl false 4 (s.data.map (aq.val false))] 0 2 31)])
  (fun r st'=>r = .fo []∧st'=bj [some (.row (cellsOf aq true ((A++Q++M++P++Z))) 0 0 101),some (.row [.vl false 1 (s.owner.map (aj.val false)),.sc (.int .u16 s.type.toNat),.sc (.int .u16 s.cls.toNat),.sc (.int .u32 s.ey.toNat),.vl false 4 (s.data.map (aq.val false))] 0 2 31)]):=by
 have hc:∀ a b c d,dz a b c=d→dz a b c=d:=fun _ _ _ _ h=>h
 have hlen:N=A.length+P.length+M.length+Q.length+Z.length:=by rw [hN];simp;omega
 refine dr _ rfl ?_ (fun r st' h=>h)
 refine ct (T:=[]) (ar.nil PP) mixed Tryz.func206 rfl (by kernel_rfl) (by kernel_rfl) (by kernel_rfl) (by kernel_rfl) ?_;unfold Tryz.f206
 simp only [↓wR,RA,simprocAttr,TF,ae]
 refine c7 [0,1,2,3,10] (fun (i:Nat)=>[.sl 0 0 N 4,.sc (.int .i64 (a)),.sc (.int .i64 (b)),.sc (.int .i64 (n)),.sc (.int .i64 (i))]) (fun i=>[some (.row (cellsOf aq true ((A++Q.take i++P.drop i++M++P.take i++Q.drop i++Z))) 0 0 101),some (.row [.vl false 1 (s.owner.map (aj.val false)),.sc (.int .u16 s.type.toNat),.sc (.int .u16 s.cls.toNat),.sc (.int .u32 s.ey.toNat),.vl false 4 (s.data.map (aq.val false))] 0 2 31)]) (fun i=>i≤n) (fun i=>n - i) 0 (Nat.zero_le _) (by simp only [↓wR,RA,simprocAttr,TF,ae]<;>simp) (by simp only [↓wR,RA,simprocAttr,TF,ae]<;>simp) ?_
 intro i hi
 simp only [↓wR,RA,simprocAttr,TF,ae]
 rw [aw];refine ⟨fun h=>?_,fun h=>?_⟩
 ·have hlt:i<n:=by omega
  obtain ⟨p,hpp⟩:∃ p,P[i]? = some p:=⟨_,List.getElem?_eq_getElem (by omega)⟩
  obtain ⟨q,hqq⟩:∃ q,Q[i]? = some q:=⟨_,List.getElem?_eq_getElem (by omega)⟩
  obtain ⟨X,hX⟩:∃ X,X=A++Q.take i:=⟨_,rfl⟩
  obtain ⟨Y,hY⟩:∃ Y,Y=P.drop (i+1)++M++P.take i:=⟨_,rfl⟩
  obtain ⟨W,hW⟩:∃ W,W=Q.drop (i+1)++Z:=⟨_,rfl⟩
  have hx1:X.length=a+i:=by rw [hX,List.length_append,List.length_take];omega
  have hy1:Y.length=n - 1+M.length:=by rw [hY];simp;omega
  have hpd:P.drop i=p::P.drop (i+1):=by obtain ⟨_,rfl⟩:=List.getElem?_eq_some_iff.1 hpp;exact List.drop_eq_getElem_cons _
  have hqd:Q.drop i=q::Q.drop (i+1):=by obtain ⟨_,rfl⟩:=List.getElem?_eq_some_iff.1 hqq;exact List.drop_eq_getElem_cons _
  have hpt:P.take (i+1)=P.take i++[p]:=by rw [List.take_add_one,hpp];rfl
  have hqt:Q.take (i+1)=Q.take i++[q]:=by rw [List.take_add_one,hqq];rfl
  have hcur:A++Q.take i++P.drop i++M++P.take i++Q.drop i++Z=X++p::(Y++q::W):=by rw [hX,hY,hW,hpd,hqd];simp
  have j3:A++Q.take (i+1)++P.drop (i+1)++M++P.take (i+1)++Q.drop (i+1)++Z=X++q::(Y++p::W):=by rw [hX,hY,hW,hpt,hqt];simp
  have hi1:(a:Int)+i=((a+i:Nat):Int):=by omega
  have hi2:(b:Int)+i=((b+i:Nat):Int):=by omega
  have g1:(X++p::(Y++q::W))[a+i]? = some p:=by rw [← hx1];exact get_at X _ p
  have hxy:(X++p::Y).length=b+i:=by rw [List.length_append,List.length_cons,hx1,hy1];omega
  have g2:(X++p::(Y++q::W))[b+i]? = some q:=by
   have:=get_at (X++p::Y) W q
   rw [hxy] at this
   rw [← this];simp
  have s1:(X++p::(Y++q::W)).set (a+i) q=X++q::(Y++q::W):=by rw [← hx1];exact qb X _ p q
  have g3:(X++q::(Y++q::W))[b+i]? = some q:=by
   have:=get_at (X++q::Y) W q
   rw [show (X++q::Y).length=b+i by rw [← hxy];simp] at this
   rw [← this];simp
  have s2:(X++q::(Y++q::W)).set (b+i) p=X++q::(Y++p::W):=by
   have:=qb (X++q::Y) W q p
   rw [show (X++q::Y).length=b+i by rw [← hxy];simp] at this
   simpa using this
  have l1:=ki 0 0 101 g1
  have l2:=ki 0 0 101 g2
  have t1:=sg q 0 101 0 g1
  have t2:=sg p 0 101 0 g3
  rw [s1] at t1
  rw [s2] at t2
  rw [hcur]
  simp only [↓wR,RA,simprocAttr,TF,ae,h,hi1,hi2,↓l1,↓l2,↓t1,↓t2];repeat (simp (disch:=omega) only [ag,bf,bg,be,bb];try simp only [↓wR,RA,simprocAttr,TF,ae,h,hi1,hi2,↓l1,↓l2,↓t1,↓t2])
  refine ⟨by kernel_rfl,.inl ?_⟩
  exact ⟨by apply hc;kernel_rfl,i+1,hlt,by omega,by (first|rfl|trivial|omega|((try (simp (disch:=omega) only [ag]));(try (simp only [FB]));first|done|rfl|omega)),by rw [j3]⟩
 ·have hin:i=n:=by omega
  subst hin
  have e1:Q.take i=Q:=by rw [hq,List.take_length]
  have e2:P.drop i=[]:=by rw [hp,List.drop_length]
  have e3:P.take i=P:=by rw [hp,List.take_length]
  have e4:Q.drop i=[]:=by rw [hq,List.drop_length]
  rw [e1,e2,e3,e4]
  simp only [↓wR,RA,simprocAttr,TF,ae,h,g6,gv,gk,List.append_nil]
theorem ad0 (s:az) (N a m b:Nat) (A L R Z:List bt) (hN:N=(A++L++R++Z).length) (hs:N≤1048576) (ha:a=A.length) (hm:m=a+L.length) (hb:b=m+R.length) (hl : 0<L.length) (hr : 0<R.length) :
 ib PP 205 [.sl 0 0 N 4,.sc (.int .i64 (a)),.sc (.int .i64 (m)),.sc (.int .i64 (b)),(.fn (.func 176) [] [.ptr 1 0])] (bj [some (.row (cellsOf aq true ((A++L++R++Z))) 0 0 101),some (.row [.vl false 1 (s.owner.map (aj.val false)),.sc (.int .u16 s.type.toNat),.sc (.int .u16 s.cls.toNat),.sc (.int .u32 s.ey.toNat),.vl false 4 (s.data.map (aq.val false))] 0 2 31)])
  (fun r st'=>r = .fo []∧st'=bj [some (.row (cellsOf aq true ((A++R++L++Z))) 0 0 101),some (.row [.vl false 1 (s.owner.map (aj.val false)),.sc (.int .u16 s.type.toNat),.sc (.int .u16 s.cls.toNat),.sc (.int .u32 s.ey.toNat),.vl false 4 (s.data.map (aq.val false))] 0 2 31)]):=by
 have hlen:N=A.length+L.length+R.length+Z.length:=by rw [hN];simp;omega
 refine dr _ rfl ?_ (fun r st' h=>h)
 refine ct (T:=[]) (ar.nil PP) mixed Tryz.func205 rfl (by kernel_rfl) (by kernel_rfl) (by kernel_rfl) (by kernel_rfl) ?_;unfold Tryz.f205
 have hi1:(m:Int) - a=((L.length:Nat):Int):=by omega
 have hi2:(b:Int) - m=((R.length:Nat):Int):=by omega
 simp only [↓wR,RA,simprocAttr,TF,ae,hi1,hi2];repeat (simp (disch:=omega) only [ag,bf,bg,be,bb];try simp only [↓wR,RA,simprocAttr,TF,ae,hi1,hi2])
 refine c7 [0,2,4,10,11] (fun (x:List bt × List bt × List bt × List bt)=>[.sl 0 0 N 4,.sc (.int .i64 (m)),(.fn (.func 176) [] [.ptr 1 0]),.sc (.int .i64 (x.2.1.length)),.sc (.int .i64 (x.2.2.1.length))]) (fun x=>[some (.row (cellsOf aq true ((x.1++x.2.1++x.2.2.1++x.2.2.2))) 0 0 101),some (.row [.vl false 1 (s.owner.map (aj.val false)),.sc (.int .u16 s.type.toNat),.sc (.int .u16 s.cls.toNat),.sc (.int .u32 s.ey.toNat),.vl false 4 (s.data.map (aq.val false))] 0 2 31)]) (fun x=>x.1++x.2.2.1++x.2.1++x.2.2.2=A++R++L++Z∧x.1.length+x.2.1.length=m∧0<x.2.1.length∧0<x.2.2.1.length) (fun x=>x.2.1.length+x.2.2.1.length) (A,L,R,Z) ⟨rfl,by show A.length+L.length=m;omega,hl,hr⟩ (by simp only [↓wR,RA,simprocAttr,TF,ae]<;>rfl) (by simp only [↓wR,RA,simprocAttr,TF,ae]<;>rfl) ?_
 rintro ⟨A',P,Q,Z'⟩ ⟨h1,h2,h3,h4⟩
 have h5:=congrArg List.length h1
 simp only [List.length_append] at h1 h2 h3 h4 h5
 simp only []
 simp only [↓wR,RA,simprocAttr,TF,ae]
 rw [c9];refine ⟨fun ⟨h,e⟩=>?_,fun ⟨h,e⟩=>?_⟩
 ·have hne:P.length≠Q.length:=by omega
  simp only [↓wR,RA,simprocAttr,TF,ae,h]
  have hi3:(m:Int) - P.length=((A'.length:Nat):Int):=by omega
  rw [aw];refine ⟨fun hg=>?_,fun hg=>?_⟩
  ·have hlt:Q.length<P.length:=by omega
   obtain ⟨P1,hP1⟩:∃ P1,P1=P.take Q.length:=⟨_,rfl⟩
   obtain ⟨P2,hP2⟩:∃ P2,P2=P.drop Q.length:=⟨_,rfl⟩
   have hp:P=P1++P2:=by rw [hP1,hP2,List.take_append_drop]
   have hl1:P1.length=Q.length:=by rw [hP1,List.length_take];omega
   have hl2:P2.length=P.length - Q.length:=by rw [hP2,List.length_drop]
   have hi4:(P.length:Int) - Q.length=((P2.length:Nat):Int):=by omega
   simp only [↓wR,RA,simprocAttr,TF,ae,hg,hi3];repeat (simp (disch:=omega) only [ag,bf,bg,be,bb];try simp only [↓wR,RA,simprocAttr,TF,ae,hg,hi3])
   refine fc (R0:=fun r st'=>r = .fo []∧st'=bj [some (.row (cellsOf aq true ((A'++Q++P2++P1++Z'))) 0 0 101),some (.row [.vl false 1 (s.owner.map (aj.val false)),.sc (.int .u16 s.type.toNat),.sc (.int .u16 s.cls.toNat),.sc (.int .u32 s.ey.toNat),.vl false 4 (s.data.map (aq.val false))] 0 2 31)]) ?_ ?_
   ·have:=D1 s N A'.length m Q.length A' P1 P2 Q Z' (by simp only [List.length_append];omega) hs rfl hl1.symm rfl (by omega)
    rw [show A'++P++Q++Z'=A'++P1++P2++Q++Z' by rw [hp];simp]
    exact this
   ·rintro _ _ ⟨rfl,rfl⟩
    simp only [↓wR,RA,simprocAttr,TF,ae,dv,hi4];repeat (simp (disch:=omega) only [ag,bf,bg,be,bb];try simp only [↓wR,RA,simprocAttr,TF,ae,dv,hi4])
    refine ⟨(A'++Q,P2,P1,Z'),⟨?_,?_,?_,?_⟩,?_,?_,?_⟩
    ·rw [← h1,hp];simp
    ·simp only [List.length_append];omega
    ·show 0<P2.length;omega
    ·show 0<P1.length;omega
    ·show P2.length+P1.length<P.length+Q.length;omega
    ·rw [hl1]
    ·simp only [List.append_assoc]
  ·have hlt:P.length<Q.length:=by omega
   obtain ⟨Q1,hQ1⟩:∃ Q1,Q1=Q.take (Q.length - P.length):=⟨_,rfl⟩
   obtain ⟨Q2,hQ2⟩:∃ Q2,Q2=Q.drop (Q.length - P.length):=⟨_,rfl⟩
   have hp:Q=Q1++Q2:=by rw [hQ1,hQ2,List.take_append_drop]
   have hl1:Q1.length=Q.length - P.length:=by rw [hQ1,List.length_take];omega
   have hl2:Q2.length=P.length:=by rw [hQ2,List.length_drop];omega
   have hi4:(Q.length:Int) - P.length=((Q1.length:Nat):Int):=by omega
   have hi5:(m:Int)+Q.length - P.length=((m+Q1.length:Nat):Int):=by omega
   simp only [↓wR,RA,simprocAttr,TF,ae,hg,hi3,hi5];repeat (simp (disch:=omega) only [ag,bf,bg,be,bb];try simp only [↓wR,RA,simprocAttr,TF,ae,hg,hi3,hi5])
   refine fc (R0:=fun r st'=>r = .fo []∧st'=bj [some (.row (cellsOf aq true ((A'++Q2++Q1++P++Z'))) 0 0 101),some (.row [.vl false 1 (s.owner.map (aj.val false)),.sc (.int .u16 s.type.toNat),.sc (.int .u16 s.cls.toNat),.sc (.int .u32 s.ey.toNat),.vl false 4 (s.data.map (aq.val false))] 0 2 31)]) ?_ ?_
   ·have:=D1 s N A'.length (m+Q1.length) P.length A' P Q1 Q2 Z' (by simp only [List.length_append];omega) hs rfl rfl hl2.symm (by omega)
    rw [show A'++P++Q++Z'=A'++P++Q1++Q2++Z' by rw [hp];simp]
    exact this
   ·rintro _ _ ⟨rfl,rfl⟩
    simp only [↓wR,RA,simprocAttr,TF,ae,dv,hi4];repeat (simp (disch:=omega) only [ag,bf,bg,be,bb];try simp only [↓wR,RA,simprocAttr,TF,ae,dv,hi4])
    refine ⟨(A',Q2,Q1,P++Z'),⟨?_,?_,?_,?_⟩,?_,?_,?_⟩
    ·rw [← h1,hp];simp
    ·show A'.length+Q2.length=m;omega
    ·show 0<Q2.length;omega
    ·show 0<Q1.length;omega
    ·show Q2.length+Q1.length<P.length+Q.length;omega
    ·rw [hl2]
    ·simp only [List.append_assoc]
 ·have hne:P.length=Q.length:=by omega
  simp only [↓wR,RA,simprocAttr,TF,ae,h]
  have hi3:(m:Int) - P.length=((A'.length:Nat):Int):=by omega
  simp only [↓wR,RA,simprocAttr,TF,ae,hi3];repeat (simp (disch:=omega) only [ag,bf,bg,be,bb];try simp only [↓wR,RA,simprocAttr,TF,ae,hi3])
  refine fc (R0:=fun r st'=>r = .fo []∧st'=bj [some (.row (cellsOf aq true ((A++R++L++Z))) 0 0 101),some (.row [.vl false 1 (s.owner.map (aj.val false)),.sc (.int .u16 s.type.toNat),.sc (.int .u16 s.cls.toNat),.sc (.int .u32 s.ey.toNat),.vl false 4 (s.data.map (aq.val false))] 0 2 31)]) ?_ ?_
  ·have:=D1 s N A'.length m P.length A' P [] Q Z' (by simp only [List.length_append,List.length_nil];omega) hs rfl rfl hne (by simp only [List.length_nil];omega)
   rw [List.append_nil,List.append_nil,List.append_assoc (A'++Q),← List.append_assoc (A'++Q),h1] at this
   exact this
  ·rintro _ _ ⟨rfl,rfl⟩
   simp only [↓wR,RA,simprocAttr,TF,ae,dv,g6,gv,gk]
theorem Mk (s:az) (N a b:Nat) (A L Z:List bt) (hN:N=(A++L++Z).length) (hs:N≤1048576) (ha:a=A.length) (hb:b=a+L.length) (hV:∀ x ∈ L,rh s.type x) :
 ib PP 201 [.sl 0 0 N 4,.sc (.int .i64 (a)),.sc (.int .i64 (b)),(.fn (.func 176) [] [.ptr 1 0])] (bj [some (.row (cellsOf aq true ((A++L++Z))) 0 0 101),some (.row [.vl false 1 (s.owner.map (aj.val false)),.sc (.int .u16 s.type.toNat),.sc (.int .u16 s.cls.toNat),.sc (.int .u32 s.ey.toNat),.vl false 4 (s.data.map (aq.val false))] 0 2 31)])
  (fun r st'=>r = .fo []∧st'=bj [some (.row (cellsOf aq true ((A++dg (eh s.type) L++Z))) 0 0 101),some (.row [.vl false 1 (s.owner.map (aj.val false)),.sc (.int .u16 s.type.toNat),.sc (.int .u16 s.cls.toNat),.sc (.int .u32 s.ey.toNat),.vl false 4 (s.data.map (aq.val false))] 0 2 31)]):=by
 have hc:∀ a b c d,dz a b c=d→dz a b c=d:=fun _ _ _ _ h=>h
 have hlen:N=A.length+L.length+Z.length:=by rw [hN];simp;omega
 refine dr _ rfl ?_ (fun r st' h=>h)
 refine ct (T:=[ado]) (ar.cons (ak Ks) (ar.nil PP)) mixed Tryz.func201 rfl (by kernel_rfl) (by kernel_rfl) (by kernel_rfl) (by kernel_rfl) ?_;unfold Tryz.f201
 simp only [↓wR,RA,simprocAttr,TF,ae]
 refine c7 [0,1,2,3,8] (fun (i:Nat)=>[.sl 0 0 N 4,.sc (.int .i64 (a)),.sc (.int .i64 (b)),(.fn (.func 176) [] [.ptr 1 0]),.sc (.int .i64 (i))]) (fun i=>[some (.row (cellsOf aq true ((A++dg (eh s.type) (L.take (i - a))++L.drop (i - a)++Z))) 0 0 101),some (.row [.vl false 1 (s.owner.map (aj.val false)),.sc (.int .u16 s.type.toNat),.sc (.int .u16 s.cls.toNat),.sc (.int .u32 s.ey.toNat),.vl false 4 (s.data.map (aq.val false))] 0 2 31)]) (fun i=>a<i∧(i≤b∨i=a+1)) (fun i=>b - i) (a+1) ⟨by omega,.inr rfl⟩ (by simp only [↓wR,RA,simprocAttr,TF,ae];repeat (simp (disch:=omega) only [ag,bf,bg,be,bb];try simp only [↓wR,RA,simprocAttr,TF,ae])<;>rfl) (by
  simp only [↓wR,RA,simprocAttr,TF,ae]
  cases L with
  |nil=>simp [dg]
  |cons x l=>simp [dg,j4]) ?_
 rintro i ⟨hi0,hi⟩
 simp only [↓wR,RA,simprocAttr,TF,ae]
 rw [aw];refine ⟨fun h=>?_,fun h=>?_⟩
 ·have hlt:i<b:=by omega
  obtain ⟨x,hx⟩:∃ x,L[i - a]? = some x:=⟨_,List.getElem?_eq_getElem (by omega)⟩
  have hxV:=hV x (List.mem_of_getElem? hx)
  obtain ⟨sp,hse⟩:∃ sp,sp=dg (eh s.type) (L.take (i - a)):=⟨_,rfl⟩
  have hsl:sp.length=i - a:=by rw [hse,ed,List.length_take];omega
  have hsV:∀ y ∈ sp,rh s.type y:=fun y hy=>hV y (List.mem_of_mem_take (ju.1 (by rw [← hse];exact hy)))
  have hsR:iz (eh s.type) sp:=by rw [hse];exact lq (oh s.type) _ (fun y hy=>hV y (List.mem_of_mem_take hy))
  have hnext:dg (eh s.type) (L.take (i+1 - a))=j4 (eh s.type) x sp:=by rw [show i+1 - a=i - a+1 by omega,iu hx,sk,← hse]
  obtain ⟨W,hW⟩:∃ W,W=L.drop (i+1 - a)++Z:=⟨_,rfl⟩
  have hcur:A++dg (eh s.type) (L.take (i - a))++L.drop (i - a)++Z=A++sp++x::W:=by rw [← hse,mo hx,hW,show i+1 - a=i - a+1 by omega];simp
  rw [hcur]
  simp only [↓wR,RA,simprocAttr,TF,ae,h]
  refine c7 [0,1,2,3,8,9] (fun (j:Nat)=>[.sl 0 0 N 4,.sc (.int .i64 (a)),.sc (.int .i64 (b)),(.fn (.func 176) [] [.ptr 1 0]),.sc (.int .i64 (i)),.sc (.int .i64 (j))]) (fun j=>[some (.row (cellsOf aq true ((A++sp.take (j - a)++x::(sp.drop (j - a)++W)))) 0 0 101),some (.row [.vl false 1 (s.owner.map (aj.val false)),.sc (.int .u16 s.type.toNat),.sc (.int .u16 s.cls.toNat),.sc (.int .u32 s.ey.toNat),.vl false 4 (s.data.map (aq.val false))] 0 2 31)]) (fun j=>a≤j∧j≤i∧∀ y,sp[j - a]? = some y→(eh s.type) x y=true) (fun j=>j - a) i ⟨by omega,Nat.le_refl _,fun y hy=>by rw [List.getElem?_eq_none (by omega)] at hy;cases hy⟩ (by simp only [↓wR,RA,simprocAttr,TF,ae]<;>rfl) (by
   simp only [↓wR,RA,simprocAttr,TF,ae]
   rw [show List.take (i - a) sp=sp from List.take_of_length_le (by omega),show List.drop (i - a) sp=[] from List.drop_eq_nil_of_le (by omega)];simp) ?_
  rintro j ⟨hj0,hj1,hj2⟩
  simp only [↓wR,RA,simprocAttr,TF,ae]
  by_cases hja:a<j
  ·obtain ⟨y,hy⟩:∃ y,sp[j - 1 - a]? = some y:=⟨_,List.getElem?_eq_getElem (by omega)⟩
   have hyV:=hsV y (List.mem_of_getElem? hy)
   have hdg:decide ((j:Int) > (a:Int))=true:=decide_eq_true (by omega)
   have hj3:(j:Int) - 1=((j - 1:Nat):Int):=by omega
   have hjj:j - a=j - 1 - a+1:=by omega
   have hc2:A++sp.take (j - a)++x::(sp.drop (j - a)++W)=A++sp.take (j - 1 - a)++y::(x::(sp.drop (j - a)++W)):=by rw [hjj,iu hy];simp
   obtain ⟨X,hX⟩:∃ X,X=A++sp.take (j - 1 - a):=⟨_,rfl⟩
   obtain ⟨Y,hY⟩:∃ Y,Y=sp.drop (j - a)++W:=⟨_,rfl⟩
   have hxl:X.length=j - 1:=by rw [hX,List.length_append,List.length_take];omega
   have g1:(X++y::x::Y)[j - 1]? = some y:=by rw [← hxl];exact get_at X _ y
   have g2:(X++y::x::Y)[j]? = some x:=by
    have:=get_at (X++[y]) Y x
    rw [show (X++[y]).length=j by rw [List.length_append,hxl,List.length_singleton];omega] at this
    rw [← this];simp
   have l1:=ki 0 0 101 g1
   have l2:=ki 0 0 101 g2
   rw [hc2,← hX,← hY]
   simp only [↓wR,RA,simprocAttr,TF,ae,hdg,hj3,↓l1,↓l2,l0,hxV.1,hyV.1];repeat (simp (disch:=omega) only [ag,bf,bg,be,bb];try simp only [↓wR,RA,simprocAttr,TF,ae,hdg,hj3,↓l1,↓l2,l0,hxV.1,hyV.1])
   refine ⟨by kernel_rfl,.inl ?_⟩
   rw [wc (g:=176) (a:=[]) (b:=[.ptr 1 0])]
   rotate_left
   ·rfl
   simp only [↓wR,RA,simprocAttr,TF,ae]
   refine ⟨by apply hc;kernel_rfl,?_⟩
   rw [aw];refine ⟨fun hl=>?_,fun hl=>?_⟩
   ·have hll:(eh s.type) x y=true:=decide_eq_true hl
    have s1:(X++y::x::Y).set j y=X++y::y::Y:=by
     have:=qb (X++[y]) Y x y
     rw [show (X++[y]).length=j by rw [List.length_append,hxl,List.length_singleton];omega] at this
     simpa using this
    have s2:(X++y::y::Y).set (j - 1) x=X++x::y::Y:=by rw [← hxl];exact qb X _ y x
    have g3:(X++y::y::Y)[j - 1]? = some y:=by rw [← hxl];exact get_at X _ y
    have t1:=sg y 0 101 0 g2
    have t2:=sg x 0 101 0 g3
    rw [s1] at t1
    rw [s2] at t2
    simp only [↓wR,RA,simprocAttr,TF,ae,hl,hj3,↓l1,↓l2,↓t1,↓t2];repeat (simp (disch:=omega) only [ag,bf,bg,be,bb];try simp only [↓wR,RA,simprocAttr,TF,ae,hl,hj3,↓l1,↓l2,↓t1,↓t2])
    refine ⟨by kernel_rfl,.inl ?_⟩
    refine ⟨by apply hc;kernel_rfl,j - 1,⟨by omega,by omega,fun z hz=>?_⟩,by omega,by (first|rfl|trivial|omega|((try (simp (disch:=omega) only [ag]));(try (simp only [FB]));first|done|rfl|omega)),?_⟩
    ·rw [hy] at hz;cases hz;exact hll
    ·rw [hX,hY,hjj,mo hy];simp
   ·have hll:(eh s.type) x y=false:=decide_eq_false hl
    have hA:∀ z ∈ sp.take (j - a),(eh s.type) x z=false:=by
     refine G4 (oh s.type) hsV hsR hxV (by omega) (fun c _ hcc=>?_)
     rw [show j - a - 1=j - 1 - a by omega,hy] at hcc;cases hcc;exact hll
    have hins:j4 (eh s.type) x sp=sp.take (j - a)++x::sp.drop (j - a):=by
     have:=Fb (lt:=(eh s.type)) (x:=x) (sp.take (j - a)) (sp.drop (j - a)) hA (fun z hz=>by rw [List.head?_drop] at hz;exact hj2 z hz)
     rw [List.take_append_drop] at this
     exact this
    simp only [↓wR,RA,simprocAttr,TF,ae,hl];repeat (simp (disch:=omega) only [ag,bf,bg,be,bb];try simp only [↓wR,RA,simprocAttr,TF,ae,hl])
    refine ⟨i+1,⟨by omega,by omega⟩,by omega,by (first|rfl|trivial|omega|((try (simp (disch:=omega) only [ag]));(try (simp only [FB]));first|done|rfl|omega)),?_⟩
    rw [hnext,hins,hX,hY,hW,hjj,iu hy];simp
  ·have hja':j=a:=by omega
   subst hja'
   have hins:j4 (eh s.type) x sp=x::sp:=by
    have:=Fb (lt:=(eh s.type)) (x:=x) [] sp (fun z hz=>by cases hz) (fun z hz=>by rw [Nat.sub_self] at hj2;rw [List.head?_eq_getElem?] at hz;exact hj2 z hz)
    exact this
   have hdg:decide ((j:Int) > (j:Int))=false:=decide_eq_false (by omega)
   simp only [↓wR,RA,simprocAttr,TF,ae,hdg];repeat (simp (disch:=omega) only [ag,bf,bg,be,bb];try simp only [↓wR,RA,simprocAttr,TF,ae,hdg])
   refine ⟨by kernel_rfl,.inl ?_⟩
   refine ⟨by apply hc;kernel_rfl,i+1,⟨by omega,by omega⟩,by omega,by (first|rfl|trivial|omega|((try (simp (disch:=omega) only [ag]));(try (simp only [FB]));first|done|rfl|omega)),?_⟩
   rw [hnext,hins,hW];simp
 ·have hin:L.length≤i - a:=by omega
  rw [List.take_of_length_le hin,List.drop_eq_nil_of_le hin]
  simp only [↓wR,RA,simprocAttr,TF,ae,h,g6,gv,gk,List.append_nil]
set_option maxHeartbeats 20000000 in
theorem Ny (s:az) (d:Nat):∀ (N a m b:Nat) (A L R Z:List bt),b - a≤d→N=(A++L++R++Z).length→N≤1048576→a=A.length→m=a+L.length→b=m+R.length→0<L.length→0<R.length→(∀ x ∈ L,rh s.type x)→(∀ x ∈ R,rh s.type x)→iz (eh s.type) L→iz (eh s.type) R →
 ib PP 202 [.sl 0 0 N 4,.sc (.int .i64 (a)),.sc (.int .i64 (m)),.sc (.int .i64 (b)),(.fn (.func 176) [] [.ptr 1 0])] (bj [some (.row (cellsOf aq true ((A++L++R++Z))) 0 0 101),some (.row [.vl false 1 (s.owner.map (aj.val false)),.sc (.int .u16 s.type.toNat),.sc (.int .u16 s.cls.toNat),.sc (.int .u32 s.ey.toNat),.vl false 4 (s.data.map (aq.val false))] 0 2 31)])
  (fun r st'=>r = .fo []∧st'=bj [some (.row (cellsOf aq true ((A++eu (eh s.type) L R++Z))) 0 0 101),some (.row [.vl false 1 (s.owner.map (aj.val false)),.sc (.int .u16 s.type.toNat),.sc (.int .u16 s.cls.toNat),.sc (.int .u32 s.ey.toNat),.vl false 4 (s.data.map (aq.val false))] 0 2 31)]):=by
 induction d with
 |zero=>intro N a m b A L R Z hd hN hs ha hm hb hl hr;omega
 |succ d ih=>
 intro N a m b A L R Z hd hN hs ha hm hb hl hr hLV hRV hLR hRR
 have hc:∀ a b c d,dz a b c=d→dz a b c=d:=fun _ _ _ _ h=>h
 have hlen:N=A.length+L.length+R.length+Z.length:=by rw [hN];simp;omega
 refine dr _ rfl ?_ (fun r st' h=>h)
 refine ct (T:=[ado]) (ar.cons (ak Ks) (ar.nil PP)) mixed Tryz.func202 rfl (by kernel_rfl) (by kernel_rfl) (by kernel_rfl) (by kernel_rfl) ?_;unfold Tryz.f202
 have hi1:(m:Int) - a=((L.length:Nat):Int):=by omega
 simp only [↓wR,RA,simprocAttr,TF,ae,hi1];repeat (simp (disch:=omega) only [ag,bf,bg,be,bb];try simp only [↓wR,RA,simprocAttr,TF,ae,hi1])
 rw [cp];refine ⟨fun ⟨h1,e1⟩=>?_,fun ⟨h1,e1⟩=>?_⟩
 ·have hL1:L.length=1:=by omega
  obtain ⟨x,rfl⟩:∃ x,L=[x]:=List.length_eq_one_iff.1 hL1
  have hxV:=hLV x (by simp)
  have hRb:∀ k c,R[k]? = some c→(A++[x]++R++Z)[m+k]? = some c:=fun k c hk=>by
   have hkl:=(List.getElem?_eq_some_iff.1 hk).1
   rw [List.append_assoc (A++[x]),List.getElem?_append_right (by simp at hm ⊢;omega),show m+k - (A++[x]).length=k by simp at hm ⊢;omega,List.getElem?_append_left hkl,hk]
  have gx:(A++[x]++R++Z)[a]? = some x:=by
   rw [List.append_assoc,List.append_assoc,ha];exact get_at A _ x
  simp only [↓wR,RA,simprocAttr,TF,ae,h1];repeat (simp (disch:=omega) only [ag,bf,bg,be,bb];try simp only [↓wR,RA,simprocAttr,TF,ae,h1])
  refine c7 [0,1,4,10,11] (fun (p:Nat × Nat)=>[.sl 0 0 N 4,.sc (.int .i64 (a)),(.fn (.func 176) [] [.ptr 1 0]),.sc (.int .i64 (p.1)),.sc (.int .i64 (p.2))]) (fun _=>[some (.row (cellsOf aq true ((A++[x]++R++Z))) 0 0 101),some (.row [.vl false 1 (s.owner.map (aj.val false)),.sc (.int .u16 s.type.toNat),.sc (.int .u16 s.cls.toNat),.sc (.int .u32 s.ey.toNat),.vl false 4 (s.data.map (aq.val false))] 0 2 31)]) (fun p=>m≤p.1∧p.1≤p.2∧p.2≤b∧(∀ c,0<p.1 - m→R[p.1 - m - 1]? = some c→(eh s.type) c x=true)∧(∀ c,R[p.2 - m]? = some c→(eh s.type) c x=false)) (fun p=>p.2 - p.1) (m,b) ⟨Nat.le_refl _,by show m≤b;omega,Nat.le_refl _,fun c hq=>by simp at hq,fun c hq=>by rw [List.getElem?_eq_none (by show R.length≤b - m;omega)] at hq;cases hq⟩ (by simp only [↓wR,RA,simprocAttr,TF,ae]<;>rfl) (by simp only [↓wR,RA,simprocAttr,TF,ae]<;>rfl) ?_
  rintro ⟨i,j⟩ ⟨p1,p2,p3,p4,p5⟩
  simp only [] at p1 p2 p3 p4 p5 ⊢
  simp only [↓wR,RA,simprocAttr,TF,ae]
  rw [aw];refine ⟨fun h=>?_,fun h=>?_⟩
  ·have hlt:i<j:=by omega
   obtain ⟨u,hu⟩:∃ u,u=(i+j) / 2:=⟨_,rfl⟩
   have hub:i≤u∧u<j:=by omega
   have hhalf:=half i j (by omega)
   rw [← hu] at hhalf
   obtain ⟨y,hy⟩:∃ y,R[u - m]? = some y:=⟨_,List.getElem?_eq_getElem (by omega)⟩
   have hyV:=hRV y (List.mem_of_getElem? hy)
   have gy:=hRb _ _ hy
   rw [show m+(u - m)=u by omega] at gy
   have l1:=ki 0 0 101 gx
   have l2:=ki 0 0 101 gy
   simp only [↓wR,RA,simprocAttr,TF,ae,h,hhalf,↓l1,↓l2,l0,hxV.1,hyV.1];repeat (simp (disch:=omega) only [ag,bf,bg,be,bb];try simp only [↓wR,RA,simprocAttr,TF,ae,h,hhalf,↓l1,↓l2,l0,hxV.1,hyV.1])
   refine ⟨by kernel_rfl,.inl ?_⟩
   rw [wc (g:=176) (a:=[]) (b:=[.ptr 1 0])]
   rotate_left
   ·rfl
   simp only [↓wR,RA,simprocAttr,TF,ae]
   refine ⟨by apply hc;kernel_rfl,?_⟩
   rw [aw];refine ⟨fun hl=>?_,fun hl=>?_⟩
   ·have hll:(eh s.type) y x=true:=decide_eq_true hl
    simp only [↓wR,RA,simprocAttr,TF,ae,hl];repeat (simp (disch:=omega) only [ag,bf,bg,be,bb];try simp only [↓wR,RA,simprocAttr,TF,ae,hl])
    exact ⟨(u+1,j),⟨by show m≤u+1;omega,by show u+1≤j;omega,p3,fun c _ hcc=>by
     have hcc':R[u+1 - m - 1]? = some c:=hcc
     rw [show u+1 - m - 1=u - m by omega,hy] at hcc';cases hcc';exact hll,p5⟩,by show j - (u+1)<j - i;omega,by (first|rfl|trivial|omega|((try (simp (disch:=omega) only [ag]));(try (simp only [FB]));first|done|rfl|omega))⟩
   ·have hll:(eh s.type) y x=false:=decide_eq_false hl
    simp only [↓wR,RA,simprocAttr,TF,ae,hl];repeat (simp (disch:=omega) only [ag,bf,bg,be,bb];try simp only [↓wR,RA,simprocAttr,TF,ae,hl])
    exact ⟨(i,u),⟨p1,by show i≤u;omega,by show u≤b;omega,p4,fun c hcc=>by
     have hcc':R[u - m]? = some c:=hcc
     rw [hy] at hcc';cases hcc';exact hll⟩,by show u - i<j - i;omega,by (first|rfl|trivial|omega|((try (simp (disch:=omega) only [ag]));(try (simp only [FB]));first|done|rfl|omega))⟩
  ·have hij:j=i:=by omega
   subst hij
   have hmo:=Zf (lt:=(eh s.type)) (x:=x) (l:=R) (i:=j - m) (Xu (oh s.type) hRV hRR hxV (by omega) p4) p5
   obtain ⟨R1,hR1⟩:∃ R1,R1=R.take (j - m):=⟨_,rfl⟩
   obtain ⟨R2,hR2⟩:∃ R2,R2=R.drop (j - m):=⟨_,rfl⟩
   have hRe:R=R1++R2:=by rw [hR1,hR2,List.take_append_drop]
   have hR1l:R1.length=j - m:=by rw [hR1,List.length_take];omega
   rw [← hR1,← hR2] at hmo
   rw [hmo]
   simp only [↓wR,RA,simprocAttr,TF,ae,h]
   refine c7 [0,10,13] (fun (k:Nat)=>[.sl 0 0 N 4,.sc (.int .i64 (j)),.sc (.int .i64 (k))]) (fun k=>[some (.row (cellsOf aq true ((A++R1.take (k - a)++x::(R1.drop (k - a)++R2++Z)))) 0 0 101),some (.row [.vl false 1 (s.owner.map (aj.val false)),.sc (.int .u16 s.type.toNat),.sc (.int .u16 s.cls.toNat),.sc (.int .u32 s.ey.toNat),.vl false 4 (s.data.map (aq.val false))] 0 2 31)]) (fun k=>a≤k∧k+1≤j) (fun k=>j - k) a ⟨Nat.le_refl _,by omega⟩ (by simp only [↓wR,RA,simprocAttr,TF,ae]<;>rfl) (by simp only [↓wR,RA,simprocAttr,TF,ae];rw [hRe];simp) ?_
   rintro k ⟨k1,k2⟩
   simp only [↓wR,RA,simprocAttr,TF,ae];repeat (simp (disch:=omega) only [ag,bf,bg,be,bb];try simp only [↓wR,RA,simprocAttr,TF,ae])
   rw [aw];refine ⟨fun hk=>?_,fun hk=>?_⟩
   ·have hkl:k+1<j:=by omega
    obtain ⟨y,hy⟩:∃ y,R1[k - a]? = some y:=⟨_,List.getElem?_eq_getElem (by omega)⟩
    obtain ⟨X,hX⟩:∃ X,X=A++R1.take (k - a):=⟨_,rfl⟩
    obtain ⟨W,hW⟩:∃ W,W=R1.drop (k - a+1)++R2++Z:=⟨_,rfl⟩
    have hxl:X.length=k:=by rw [hX,List.length_append,List.length_take];omega
    have hcur:A++R1.take (k - a)++x::(R1.drop (k - a)++R2++Z)=X++x::y::W:=by rw [hX,hW,mo hy];simp
    have j3:A++R1.take (k+1 - a)++x::(R1.drop (k+1 - a)++R2++Z)=X++y::x::W:=by rw [hX,hW,show k+1 - a=k - a+1 by omega,iu hy];simp
    have g1:(X++x::y::W)[k]? = some x:=by rw [← hxl];exact get_at X _ x
    have hx1:(X++[x]).length=k+1:=by rw [List.length_append,hxl];rfl
    have hy1:(X++[y]).length=k+1:=by rw [List.length_append,hxl];rfl
    have g2:(X++x::y::W)[k+1]? = some y:=by
     have:=get_at (X++[x]) W y
     rw [hx1] at this
     rw [← this];simp
    have s1:(X++x::y::W).set k y=X++y::y::W:=by rw [← hxl];exact qb X _ x y
    have g3:(X++y::y::W)[k+1]? = some y:=by
     have:=get_at (X++[y]) W y
     rw [hy1] at this
     rw [← this];simp
    have s2:(X++y::y::W).set (k+1) x=X++y::x::W:=by
     have:=qb (X++[y]) W y x
     rw [hy1] at this
     simpa using this
    have l1:=ki 0 0 101 g1
    have l2:=ki 0 0 101 g2
    have t1:=sg y 0 101 0 g1
    have t2:=sg x 0 101 0 g3
    rw [s1] at t1
    rw [s2] at t2
    have hk1:(k:Int)+1=((k+1:Nat):Int):=by omega
    rw [hcur]
    simp only [↓wR,RA,simprocAttr,TF,ae,hk,hk1,↓l1,↓l2,↓t1,↓t2];repeat (simp (disch:=omega) only [ag,bf,bg,be,bb];try simp only [↓wR,RA,simprocAttr,TF,ae,hk,hk1,↓l1,↓l2,↓t1,↓t2])
    refine ⟨by kernel_rfl,.inl ?_⟩
    exact ⟨by apply hc;kernel_rfl,k+1,⟨by omega,by omega⟩,by omega,by (first|rfl|trivial|omega|((try (simp (disch:=omega) only [ag]));(try (simp only [FB]));first|done|rfl|omega)),by rw [j3]⟩
   ·have hkj:k - a=R1.length:=by omega
    rw [hkj,List.take_length,List.drop_length]
    simp only [↓wR,RA,simprocAttr,TF,ae,hk,g6,gv,gk,List.append_nil]
    simp
 ·have hL1:L.length≠1:=by omega
  have hi2:(b:Int) - m=((R.length:Nat):Int):=by omega
  simp only [↓wR,RA,simprocAttr,TF,ae,h1,hi2];repeat (simp (disch:=omega) only [ag,bf,bg,be,bb];try simp only [↓wR,RA,simprocAttr,TF,ae,h1,hi2])
  rw [cp];refine ⟨fun ⟨h2,e2⟩=>?_,fun ⟨h2,e2⟩=>?_⟩
  ·have hR1:R.length=1:=by omega
   obtain ⟨y,rfl⟩:∃ y,R=[y]:=List.length_eq_one_iff.1 hR1
   have hyV:=hRV y (by simp)
   have hLb:∀ k c,L[k]? = some c→(A++L++[y]++Z)[a+k]? = some c:=fun k c hk=>by
    have hkl:=(List.getElem?_eq_some_iff.1 hk).1
    rw [List.append_assoc,List.append_assoc,List.getElem?_append_right (by omega),show a+k - A.length=k by omega,List.getElem?_append_left hkl,hk]
   have gy:(A++L++[y]++Z)[m]? = some y:=by
    rw [List.append_assoc,show m=(A++L).length by rw [List.length_append];omega];exact get_at (A++L) _ y
   simp only [↓wR,RA,simprocAttr,TF,ae,h2];repeat (simp (disch:=omega) only [ag,bf,bg,be,bb];try simp only [↓wR,RA,simprocAttr,TF,ae,h2])
   refine c7 [0,2,4,14,15] (fun (p:Nat × Nat)=>[.sl 0 0 N 4,.sc (.int .i64 (m)),(.fn (.func 176) [] [.ptr 1 0]),.sc (.int .i64 (p.1)),.sc (.int .i64 (p.2))]) (fun _=>[some (.row (cellsOf aq true ((A++L++[y]++Z))) 0 0 101),some (.row [.vl false 1 (s.owner.map (aj.val false)),.sc (.int .u16 s.type.toNat),.sc (.int .u16 s.cls.toNat),.sc (.int .u32 s.ey.toNat),.vl false 4 (s.data.map (aq.val false))] 0 2 31)]) (fun p=>a≤p.1∧p.1≤p.2∧p.2≤m∧(∀ c,0<p.1 - a→L[p.1 - a - 1]? = some c→(eh s.type) y c=false)∧(∀ c,L[p.2 - a]? = some c→(eh s.type) y c=true)) (fun p=>p.2 - p.1) (a,m) ⟨Nat.le_refl _,by show a≤m;omega,Nat.le_refl _,fun c hq=>by simp at hq,fun c hq=>by rw [List.getElem?_eq_none (by show L.length≤m - a;omega)] at hq;cases hq⟩ (by simp only [↓wR,RA,simprocAttr,TF,ae]<;>rfl) (by simp only [↓wR,RA,simprocAttr,TF,ae]<;>rfl) ?_
   rintro ⟨i,j⟩ ⟨p1,p2,p3,p4,p5⟩
   simp only [] at p1 p2 p3 p4 p5 ⊢
   simp only [↓wR,RA,simprocAttr,TF,ae]
   rw [aw];refine ⟨fun h=>?_,fun h=>?_⟩
   ·have hlt:i<j:=by omega
    obtain ⟨u,hu⟩:∃ u,u=(i+j) / 2:=⟨_,rfl⟩
    have hub:i≤u∧u<j:=by omega
    have hhalf:=half i j (by omega)
    rw [← hu] at hhalf
    obtain ⟨x,hx⟩:∃ x,L[u - a]? = some x:=⟨_,List.getElem?_eq_getElem (by omega)⟩
    have hxV:=hLV x (List.mem_of_getElem? hx)
    have gx:=hLb _ _ hx
    rw [show a+(u - a)=u by omega] at gx
    have l1:=ki 0 0 101 gx
    have l2:=ki 0 0 101 gy
    simp only [↓wR,RA,simprocAttr,TF,ae,h,hhalf,↓l1,↓l2,l0,hxV.1,hyV.1];repeat (simp (disch:=omega) only [ag,bf,bg,be,bb];try simp only [↓wR,RA,simprocAttr,TF,ae,h,hhalf,↓l1,↓l2,l0,hxV.1,hyV.1])
    refine ⟨by kernel_rfl,.inl ?_⟩
    rw [wc (g:=176) (a:=[]) (b:=[.ptr 1 0])]
    rotate_left
    ·rfl
    simp only [↓wR,RA,simprocAttr,TF,ae,If]
    refine ⟨by apply hc;kernel_rfl,?_⟩
    rw [aw];refine ⟨fun hl=>?_,fun hl=>?_⟩
    ·have hll:(eh s.type) y x=false:=decide_eq_false hl
     simp only [↓wR,RA,simprocAttr,TF,ae,hl];repeat (simp (disch:=omega) only [ag,bf,bg,be,bb];try simp only [↓wR,RA,simprocAttr,TF,ae,hl])
     exact ⟨(u+1,j),⟨by show a≤u+1;omega,by show u+1≤j;omega,p3,fun c _ hcc=>by
      have hcc':L[u+1 - a - 1]? = some c:=hcc
      rw [show u+1 - a - 1=u - a by omega,hx] at hcc';cases hcc';exact hll,p5⟩,by show j - (u+1)<j - i;omega,by (first|rfl|trivial|omega|((try (simp (disch:=omega) only [ag]));(try (simp only [FB]));first|done|rfl|omega))⟩
    ·have hll:(eh s.type) y x=true:=decide_eq_true (Decidable.not_not.1 hl)
     simp only [↓wR,RA,simprocAttr,TF,ae,hl];repeat (simp (disch:=omega) only [ag,bf,bg,be,bb];try simp only [↓wR,RA,simprocAttr,TF,ae,hl])
     exact ⟨(i,u),⟨p1,by show i≤u;omega,by show u≤m;omega,p4,fun c hcc=>by
      have hcc':L[u - a]? = some c:=hcc
      rw [hx] at hcc';cases hcc';exact hll⟩,by show u - i<j - i;omega,by (first|rfl|trivial|omega|((try (simp (disch:=omega) only [ag]));(try (simp only [FB]));first|done|rfl|omega))⟩
   ·have hij:j=i:=by omega
    subst hij
    have hmo:=Sx (lt:=(eh s.type)) (y:=y) (l:=L) (i:=j - a) (G4 (oh s.type) hLV hLR hyV (by omega) p4) (Y7 (oh s.type) hLV hLR hyV p5)
    obtain ⟨L1,hL1e⟩:∃ L1,L1=L.take (j - a):=⟨_,rfl⟩
    obtain ⟨L2,hL2e⟩:∃ L2,L2=L.drop (j - a):=⟨_,rfl⟩
    have hLe:L=L1++L2:=by rw [hL1e,hL2e,List.take_append_drop]
    have hl1:L1.length=j - a:=by rw [hL1e,List.length_take];omega
    have hl2:L2.length=m - j:=by rw [hL2e,List.length_drop];omega
    rw [← hL1e,← hL2e] at hmo
    rw [hmo]
    simp only [↓wR,RA,simprocAttr,TF,ae,h]
    refine c7 [0,14,17] (fun (k:Nat)=>[.sl 0 0 N 4,.sc (.int .i64 (j)),.sc (.int .i64 (k))]) (fun k=>[some (.row (cellsOf aq true ((A++L1++L2.take (k - j)++y::(L2.drop (k - j)++Z)))) 0 0 101),some (.row [.vl false 1 (s.owner.map (aj.val false)),.sc (.int .u16 s.type.toNat),.sc (.int .u16 s.cls.toNat),.sc (.int .u32 s.ey.toNat),.vl false 4 (s.data.map (aq.val false))] 0 2 31)]) (fun k=>j≤k∧k≤m) (fun k=>k) m ⟨by omega,Nat.le_refl _⟩ (by simp only [↓wR,RA,simprocAttr,TF,ae]<;>rfl) (by simp only [↓wR,RA,simprocAttr,TF,ae];rw [← hl2,List.take_length,List.drop_length,hLe];simp) ?_
    rintro k ⟨k1,k2⟩
    simp only [↓wR,RA,simprocAttr,TF,ae];repeat (simp (disch:=omega) only [ag,bf,bg,be,bb];try simp only [↓wR,RA,simprocAttr,TF,ae])
    rw [aw];refine ⟨fun hk=>?_,fun hk=>?_⟩
    ·have hkl:j<k:=by omega
     obtain ⟨x,hx⟩:∃ x,L2[k - 1 - j]? = some x:=⟨_,List.getElem?_eq_getElem (by omega)⟩
     obtain ⟨X,hX⟩:∃ X,X=A++L1++L2.take (k - 1 - j):=⟨_,rfl⟩
     obtain ⟨W,hW⟩:∃ W,W=L2.drop (k - j)++Z:=⟨_,rfl⟩
     have hkk:k - j=k - 1 - j+1:=by omega
     have hxl:X.length=k - 1:=by rw [hX,List.length_append,List.length_append,List.length_take];omega
     have hcur:A++L1++L2.take (k - j)++y::(L2.drop (k - j)++Z)=X++x::y::W:=by rw [hX,hW,hkk,iu hx];simp
     have j3:A++L1++L2.take (k - 1 - j)++y::(L2.drop (k - 1 - j)++Z)=X++y::x::W:=by rw [hX,hW,mo hx,hkk];simp
     have g1:(X++x::y::W)[k - 1]? = some x:=by rw [← hxl];exact get_at X _ x
     have hx1:(X++[x]).length=k:=by rw [List.length_append,hxl,List.length_singleton];omega
     have g2:(X++x::y::W)[k]? = some y:=by
      have:=get_at (X++[x]) W y
      rw [hx1] at this
      rw [← this];simp
     have s1:(X++x::y::W).set k x=X++x::x::W:=by
      have:=qb (X++[x]) W y x
      rw [hx1] at this
      simpa using this
     have g3:(X++x::x::W)[k - 1]? = some x:=by rw [← hxl];exact get_at X _ x
     have s2:(X++x::x::W).set (k - 1) y=X++y::x::W:=by rw [← hxl];exact qb X _ x y
     have l1:=ki 0 0 101 g1
     have l2:=ki 0 0 101 g2
     have t1:=sg x 0 101 0 g2
     have t2:=sg y 0 101 0 g3
     rw [s1] at t1
     rw [s2] at t2
     have hk1:(k:Int) - 1=((k - 1:Nat):Int):=by omega
     rw [hcur]
     simp only [↓wR,RA,simprocAttr,TF,ae,hk,hk1,↓l1,↓l2,↓t1,↓t2];repeat (simp (disch:=omega) only [ag,bf,bg,be,bb];try simp only [↓wR,RA,simprocAttr,TF,ae,hk,hk1,↓l1,↓l2,↓t1,↓t2])
     refine ⟨by kernel_rfl,.inl ?_⟩
     exact ⟨by apply hc;kernel_rfl,k - 1,⟨by omega,by omega⟩,by omega,by (first|rfl|trivial|omega|((try (simp (disch:=omega) only [ag]));(try (simp only [FB]));first|done|rfl|omega)),by rw [j3]⟩
    ·have hkj:k - j=0:=by omega
     rw [hkj]
     simp only [↓wR,RA,simprocAttr,TF,ae,hk,g6,gv,gk,List.append_nil]
     simp
  ·have hR1:R.length≠1:=by omega
   obtain ⟨mid,hmid⟩:∃ mid,mid=(a+b) / 2:=⟨_,rfl⟩
   have hhalf:=half a b (by omega)
   rw [← hmid] at hhalf
   have hmm:(mid:Int)+m=((mid+m:Nat):Int):=by omega
   obtain ⟨n,hn⟩:∃ n,n=mid+m:=⟨_,rfl⟩
   rw [← hn] at hmm
   obtain ⟨s0,hs0⟩:∃ s0,s0=if mid<m then n - b else a:=⟨_,rfl⟩
   obtain ⟨r0,hr0⟩:∃ r0,r0=if mid<m then mid else m:=⟨_,rfl⟩
   have hp1:(n:Int) - 1=((n - 1:Nat):Int):=by omega
   have hsr:a≤s0∧s0≤r0∧r0≤m∧r0≤mid∧n - b≤s0:=by subst hs0 hr0;split<;>omega
   obtain ⟨X0,hX0⟩:∃ X0,X0=A++L++R++Z:=⟨_,rfl⟩
   have hXL:∀ k c,L[k]? = some c→X0[a+k]? = some c:=fun k c hk=>by
    have hkl:=(List.getElem?_eq_some_iff.1 hk).1
    rw [hX0,List.append_assoc,List.append_assoc,List.getElem?_append_right (by omega),show a+k - A.length=k by omega,List.getElem?_append_left hkl,hk]
   have hXR:∀ k c,R[k]? = some c→X0[m+k]? = some c:=fun k c hk=>by
    have hkl:=(List.getElem?_eq_some_iff.1 hk).1
    rw [hX0,List.append_assoc (A++L),List.getElem?_append_right (by rw [List.length_append];omega),List.length_append,show m+k - (A.length+L.length)=k by omega,List.getElem?_append_left hkl,hk]
   rw [← hX0]
   have hfin:∀ st,s0≤st→st≤r0→(∀ c e,s0<st→L[st - 1 - a]? = some c→R[n - st - m]? = some e→(eh s.type) e c=false)→(∀ c e,st<r0→L[st - a]? = some c→R[n - 1 - st - m]? = some e→(eh s.type) e c=true) →
    ∃ X1 X2,(st<m→m<n - st→ib PP 205 [.sl 0 0 N 4,.sc (.int .i64 (st)),.sc (.int .i64 (m)),.sc (.int .i64 ((n - st:Nat))),(.fn (.func 176) [] [.ptr 1 0])] (bj [some (.row (cellsOf aq true ((X0))) 0 0 101),some (.row [.vl false 1 (s.owner.map (aj.val false)),.sc (.int .u16 s.type.toNat),.sc (.int .u16 s.cls.toNat),.sc (.int .u32 s.ey.toNat),.vl false 4 (s.data.map (aq.val false))] 0 2 31)]) (fun r st'=>r = .fo []∧st'=bj [some (.row (cellsOf aq true ((X1))) 0 0 101),some (.row [.vl false 1 (s.owner.map (aj.val false)),.sc (.int .u16 s.type.toNat),.sc (.int .u16 s.cls.toNat),.sc (.int .u32 s.ey.toNat),.vl false 4 (s.data.map (aq.val false))] 0 2 31)]))∧(¬ (st<m∧m<n - st)→X0=X1) ∧
     (a<st→st<mid→ib PP 202 [.sl 0 0 N 4,.sc (.int .i64 (a)),.sc (.int .i64 (st)),.sc (.int .i64 (mid)),(.fn (.func 176) [] [.ptr 1 0])] (bj [some (.row (cellsOf aq true ((X1))) 0 0 101),some (.row [.vl false 1 (s.owner.map (aj.val false)),.sc (.int .u16 s.type.toNat),.sc (.int .u16 s.cls.toNat),.sc (.int .u32 s.ey.toNat),.vl false 4 (s.data.map (aq.val false))] 0 2 31)]) (fun r st'=>r = .fo []∧st'=bj [some (.row (cellsOf aq true ((X2))) 0 0 101),some (.row [.vl false 1 (s.owner.map (aj.val false)),.sc (.int .u16 s.type.toNat),.sc (.int .u16 s.cls.toNat),.sc (.int .u32 s.ey.toNat),.vl false 4 (s.data.map (aq.val false))] 0 2 31)]))∧(¬ (a<st∧st<mid)→X1=X2) ∧
     (mid<n - st→n - st<b→ib PP 202 [.sl 0 0 N 4,.sc (.int .i64 (mid)),.sc (.int .i64 ((n - st:Nat))),.sc (.int .i64 (b)),(.fn (.func 176) [] [.ptr 1 0])] (bj [some (.row (cellsOf aq true ((X2))) 0 0 101),some (.row [.vl false 1 (s.owner.map (aj.val false)),.sc (.int .u16 s.type.toNat),.sc (.int .u16 s.cls.toNat),.sc (.int .u32 s.ey.toNat),.vl false 4 (s.data.map (aq.val false))] 0 2 31)]) (fun r st'=>r = .fo []∧st'=bj [some (.row (cellsOf aq true ((A++eu (eh s.type) L R++Z))) 0 0 101),some (.row [.vl false 1 (s.owner.map (aj.val false)),.sc (.int .u16 s.type.toNat),.sc (.int .u16 s.cls.toNat),.sc (.int .u32 s.ey.toNat),.vl false 4 (s.data.map (aq.val false))] 0 2 31)]))∧(¬ (mid<n - st∧n - st<b)→X2=A++eu (eh s.type) L R++Z):=by
    intro st q1 q2 q3 q4
    obtain ⟨L1,hL1e⟩:∃ L1,L1=L.take (st - a):=⟨_,rfl⟩
    obtain ⟨L2,hL2e⟩:∃ L2,L2=L.drop (st - a):=⟨_,rfl⟩
    obtain ⟨R1,hR1e⟩:∃ R1,R1=R.take (mid - st):=⟨_,rfl⟩
    obtain ⟨R2,hR2e⟩:∃ R2,R2=R.drop (mid - st):=⟨_,rfl⟩
    have hLe:L=L1++L2:=by rw [hL1e,hL2e,List.take_append_drop]
    have hRe:R=R1++R2:=by rw [hR1e,hR2e,List.take_append_drop]
    have n1:L1.length=st - a:=by rw [hL1e,List.length_take];omega
    have n2:L2.length=m - st:=by rw [hL2e,List.length_drop];omega
    have n3:R1.length=mid - st:=by rw [hR1e,List.length_take];omega
    have n4:R2.length=b - (n - st):=by rw [hR2e,List.length_drop];omega
    have r1:iz (eh s.type) L1:=by rw [hL1e];exact hLR.take _
    have r2:iz (eh s.type) L2:=by rw [hL2e];exact hLR.drop _
    have r3:iz (eh s.type) R1:=by rw [hR1e];exact hRR.take _
    have r4:iz (eh s.type) R2:=by rw [hR2e];exact hRR.drop _
    have v1:∀ x ∈ L1,rh s.type x:=fun x hx=>hLV x (by rw [hLe];simp [hx])
    have v2:∀ x ∈ L2,rh s.type x:=fun x hx=>hLV x (by rw [hLe];simp [hx])
    have v3:∀ x ∈ R1,rh s.type x:=fun x hx=>hRV x (by rw [hRe];simp [hx])
    have v4:∀ x ∈ R2,rh s.type x:=fun x hx=>hRV x (by rw [hRe];simp [hx])
    have f1:∀ x ∈ L1,∀ y ∈ R2,(eh s.type) y x=false:=by
     by_cases k1:a<st
     ·by_cases k2:n - st<b
      ·obtain ⟨c,hcc⟩:∃ c,L[st - 1 - a]? = some c:=⟨_,List.getElem?_eq_getElem (by omega)⟩
       obtain ⟨e,hee⟩:∃ e,R[n - st - m]? = some e:=⟨_,List.getElem?_eq_getElem (by omega)⟩
       have hlt:=q3 c e (by subst hs0;split<;>omega) hcc hee
       have t1:L1=L.take (st - 1 - a)++[c]:=by rw [hL1e,show st - a=st - 1 - a+1 by omega,iu hcc]
       have t2:R2=e::R.drop (n - st - m+1):=by rw [hR2e,show mid - st=n - st - m by omega,mo hee]
       rw [t1,t2]
       exact Nu (oh s.type) (fun z hz=>v1 z (by rw [t1];exact hz)) (fun z hz=>v4 z (by rw [t2];exact hz)) (by rw [← t1];exact r1) (by rw [← t2];exact r4) hlt
      ·have:R2=[]:=List.eq_nil_of_length_eq_zero (by omega)
       rw [this];intro x _ y hy;cases hy
     ·have:L1=[]:=List.eq_nil_of_length_eq_zero (by omega)
      rw [this];intro x hx;cases hx
    have f2:∀ x ∈ L2,∀ y ∈ R1,(eh s.type) y x=true:=by
     by_cases k1:st<m
     ·by_cases k2:st<mid
      ·obtain ⟨c,hcc⟩:∃ c,L[st - a]? = some c:=⟨_,List.getElem?_eq_getElem (by omega)⟩
       obtain ⟨e,hee⟩:∃ e,R[n - 1 - st - m]? = some e:=⟨_,List.getElem?_eq_getElem (by omega)⟩
       have hlt:=q4 c e (by subst hr0;split<;>omega) hcc hee
       have t1:L2=c::L.drop (st - a+1):=by rw [hL2e,mo hcc]
       have t2:R1=R.take (n - 1 - st - m)++[e]:=by rw [hR1e,show mid - st=n - 1 - st - m+1 by omega,iu hee]
       rw [t1,t2]
       exact Kc (oh s.type) (fun z hz=>v2 z (by rw [t1];exact hz)) (fun z hz=>v3 z (by rw [t2];exact hz)) (by rw [← t1];exact r2) (by rw [← t2];exact r3) hlt
      ·have:R1=[]:=List.eq_nil_of_length_eq_zero (by omega)
       rw [this];intro x _ y hy;cases hy
     ·have:L2=[]:=List.eq_nil_of_length_eq_zero (by omega)
      rw [this];intro x hx;cases hx
    have hmg:eu (eh s.type) L R=eu (eh s.type) L1 R1++eu (eh s.type) L2 R2:=by rw [hLe,hRe];exact ot L1 L2 R1 R2 f1 f2
    have m1:(eu (eh s.type) L1 R1).length=mid - a:=by rw [Vp];omega
    have hNa:N=A.length+L1.length+L2.length+R1.length+R2.length+Z.length:=by omega
    refine ⟨A++L1++R1++(L2++R2++Z),A++eu (eh s.type) L1 R1++(L2++R2++Z),fun k1 k2=>?_,fun k=>?_,fun k1 k2=>?_,fun k=>?_,fun k1 k2=>?_,fun k=>?_⟩
    ·have:=ad0 s N st m (n - st) (A++L1) L2 R1 (R2++Z) (by simp only [List.length_append];omega) hs (by rw [List.length_append];omega) (by omega) (by omega) (by omega) (by omega)
     rw [show A++L1++L2++R1++(R2++Z)=X0 by rw [hX0,hLe,hRe];simp,show A++L1++R1++L2++(R2++Z)=A++L1++R1++(L2++R2++Z) by simp] at this
     exact this
    ·rw [hX0,hLe,hRe]
     by_cases k1:st<m
     ·have:R1=[]:=List.eq_nil_of_length_eq_zero (by omega)
      rw [this];simp
     ·have:L2=[]:=List.eq_nil_of_length_eq_zero (by omega)
      rw [this];simp
    ·exact ih N a st mid A L1 R1 (L2++R2++Z) (by omega) (by simp only [List.length_append];omega) hs ha (by omega) (by omega) (by omega) (by omega) v1 v3 r1 r3
    ·by_cases k1:a<st
     ·have:R1=[]:=List.eq_nil_of_length_eq_zero (by omega)
      rw [this,jl];simp
     ·have:L1=[]:=List.eq_nil_of_length_eq_zero (by omega)
      rw [this,j6];simp
    ·have:=ih N mid (n - st) b (A++eu (eh s.type) L1 R1) L2 R2 Z (by omega) (by simp only [List.length_append,m1];omega) hs (by rw [List.length_append,m1];omega) (by omega) (by omega) (by omega) (by omega) v2 v4 r2 r4
     rw [hmg]
     rw [show A++eu (eh s.type) L1 R1++L2++R2++Z=A++eu (eh s.type) L1 R1++(L2++R2++Z) by simp,show A++eu (eh s.type) L1 R1++eu (eh s.type) L2 R2++Z=A++(eu (eh s.type) L1 R1++eu (eh s.type) L2 R2)++Z by simp] at this
     exact this
    ·rw [hmg]
     by_cases k1:mid<n - st
     ·have:R2=[]:=List.eq_nil_of_length_eq_zero (by omega)
      rw [this,jl];simp
     ·have:L2=[]:=List.eq_nil_of_length_eq_zero (by omega)
      rw [this,j6];simp
   simp only [↓wR,RA,simprocAttr,TF,ae,h2,hhalf,hmm];repeat (simp (disch:=omega) only [ag,bf,bg,be,bb];try simp only [↓wR,RA,simprocAttr,TF,ae,h2,hhalf,hmm])
   rw [aw];refine ⟨fun hg=>?_,fun hg=>?_⟩
   ·have e3:(n:Int) - b=((s0:Nat):Int):=by rw [hs0,if_pos (by omega)];omega
    have e4:((mid:Nat):Int)=((r0:Nat):Int):=by rw [hr0,if_pos (by omega)]
    simp only [↓wR,RA,simprocAttr,TF,ae,hg,e3,hp1];repeat (simp (disch:=omega) only [ag,bf,bg,be,bb];try simp only [↓wR,RA,simprocAttr,TF,ae,hg,e3,hp1])
    refine c7 [0,1,2,3,4,18,19,20,21,22] (fun (p:Nat × Nat)=>[.sl 0 0 N 4,.sc (.int .i64 (a)),.sc (.int .i64 (m)),.sc (.int .i64 (b)),(.fn (.func 176) [] [.ptr 1 0]),.sc (.int .i64 (mid)),.sc (.int .i64 (n)),.sc (.int .i64 (p.1)),.sc (.int .i64 (p.2)),.sc (.int .i64 (((n - 1:Nat):Int)))]) (fun _=>[some (.row (cellsOf aq true ((X0))) 0 0 101),some (.row [.vl false 1 (s.owner.map (aj.val false)),.sc (.int .u16 s.type.toNat),.sc (.int .u16 s.cls.toNat),.sc (.int .u32 s.ey.toNat),.vl false 4 (s.data.map (aq.val false))] 0 2 31)]) (fun p=>s0≤p.1∧p.1≤p.2∧p.2≤r0∧(∀ c e,s0<p.1→L[p.1 - 1 - a]? = some c→R[n - p.1 - m]? = some e→(eh s.type) e c=false)∧(∀ c e,p.2<r0→L[p.2 - a]? = some c→R[n - 1 - p.2 - m]? = some e→(eh s.type) e c=true)) (fun p=>p.2 - p.1) (s0,r0) ⟨Nat.le_refl _,hsr.2.1,Nat.le_refl _,fun _ _ q=>absurd q (Nat.lt_irrefl _),fun _ _ q=>absurd q (Nat.lt_irrefl _)⟩ (by simp only [↓wR,RA,simprocAttr,TF,ae];rw [e4]) (by simp only [↓wR,RA,simprocAttr,TF,ae]<;>rfl) ?_
    rintro ⟨i,j⟩ ⟨p1,p2,p3,p4,p5⟩
    simp only [] at p1 p2 p3 p4 p5 ⊢
    simp only [↓wR,RA,simprocAttr,TF,ae]
    rw [aw];refine ⟨fun h=>?_,fun h=>?_⟩
    ·have hlt:i<j:=by omega
     obtain ⟨u,hu⟩:∃ u,u=(i+j) / 2:=⟨_,rfl⟩
     have hub:i≤u∧u<j:=by omega
     have hhalf2:=half i j (by omega)
     rw [← hu] at hhalf2
     obtain ⟨x,hx⟩:∃ x,L[u - a]? = some x:=⟨_,List.getElem?_eq_getElem (by omega)⟩
     obtain ⟨y,hy⟩:∃ y,R[n - 1 - u - m]? = some y:=⟨_,List.getElem?_eq_getElem (by omega)⟩
     have hxV:=hLV x (List.mem_of_getElem? hx)
     have hyV:=hRV y (List.mem_of_getElem? hy)
     have gx:=hXL _ _ hx
     rw [show a+(u - a)=u by omega] at gx
     have gy:=hXR _ _ hy
     rw [show m+(n - 1 - u - m)=n - 1 - u by omega] at gy
     have hpu:((n - 1:Nat):Int) - u=((n - 1 - u:Nat):Int):=by omega
     have l1:=ki 0 0 101 gx
     have l2:=ki 0 0 101 gy
     simp only [↓wR,RA,simprocAttr,TF,ae,h,hhalf2,hpu,↓l1,↓l2,l0,hxV.1,hyV.1];repeat (simp (disch:=omega) only [ag,bf,bg,be,bb];try simp only [↓wR,RA,simprocAttr,TF,ae,h,hhalf2,hpu,↓l1,↓l2,l0,hxV.1,hyV.1])
     refine ⟨by kernel_rfl,.inl ?_⟩
     rw [wc (g:=176) (a:=[]) (b:=[.ptr 1 0])]
     rotate_left
     ·rfl
     simp only [↓wR,RA,simprocAttr,TF,ae,If]
     refine ⟨by apply hc;kernel_rfl,?_⟩
     rw [aw];refine ⟨fun hl=>?_,fun hl=>?_⟩
     ·have hll:(eh s.type) y x=false:=decide_eq_false hl
      simp only [↓wR,RA,simprocAttr,TF,ae,hl];repeat (simp (disch:=omega) only [ag,bf,bg,be,bb];try simp only [↓wR,RA,simprocAttr,TF,ae,hl])
      exact ⟨(u+1,j),⟨by show s0≤u+1;omega,by show u+1≤j;omega,p3,fun c e _ hcc hee=>by
       have hcc':L[u+1 - 1 - a]? = some c:=hcc
       have hee':R[n - (u+1) - m]? = some e:=hee
       rw [show u+1 - 1 - a=u - a by omega,hx] at hcc'
       rw [show n - (u+1) - m=n - 1 - u - m by omega,hy] at hee'
       cases hcc';cases hee';exact hll,p5⟩,by show j - (u+1)<j - i;omega,by (first|rfl|trivial|omega|((try (simp (disch:=omega) only [ag]));(try (simp only [FB]));first|done|rfl|omega))⟩
     ·have hll:(eh s.type) y x=true:=decide_eq_true (Decidable.not_not.1 hl)
      simp only [↓wR,RA,simprocAttr,TF,ae,hl];repeat (simp (disch:=omega) only [ag,bf,bg,be,bb];try simp only [↓wR,RA,simprocAttr,TF,ae,hl])
      exact ⟨(i,u),⟨p1,by show i≤u;omega,by show u≤r0;omega,p4,fun c e _ hcc hee=>by
       have hcc':L[u - a]? = some c:=hcc
       have hee':R[n - 1 - u - m]? = some e:=hee
       rw [hx] at hcc';rw [hy] at hee'
       cases hcc';cases hee';exact hll⟩,by show u - i<j - i;omega,by (first|rfl|trivial|omega|((try (simp (disch:=omega) only [ag]));(try (simp only [FB]));first|done|rfl|omega))⟩
    ·have hij:j=i:=by omega
     subst hij
     obtain ⟨X1,X2,c1,c2,c3,c4,c5,c6⟩:=hfin j p1 p3 p4 p5
     have hen:(n:Int) - j=((n - j:Nat):Int):=by omega
     obtain ⟨en,hen2⟩:∃ en,en=n - j:=⟨_,rfl⟩
     rw [← hen2] at c1 c2 c5 c6 hen
     obtain ⟨X3,hX3⟩:∃ X3,X3=A++eu (eh s.type) L R++Z:=⟨_,rfl⟩
     rw [← hX3] at c5 c6 ⊢
     have b1:m<en↔j<mid:=by omega
     have b2:mid<en↔j<m:=by omega
     by_cases k1:a<j<;>by_cases k2:j<m<;>by_cases k3:j<mid<;>by_cases k4:en<b<;>first
      |(exfalso;omega)
      |(
       have d1:=k1
       have d2:=k2
       have d3:=k3
       have d4:=k4
       have hwr:IntKind.i64.wrap (en:Int)=en:=ag _ (by omega) (by omega)
       have d5:decide (m<en)=decide (j<mid):=decide_eq_decide.2 b1
       have d6:decide (mid<en)=decide (j<m):=decide_eq_decide.2 b2
       (try rw [c2 (by omega)])
       simp only [↓wR,RA,simprocAttr,TF,ae,h,hen,hwr,xf,d1,d2,d3,d4,d5,d6]
       (try (refine fc (c1 (by omega) (by omega)) ?_;rintro _ _ ⟨rfl,rfl⟩;simp only [↓wR,RA,simprocAttr,TF,ae,dv,h,hen,hwr,xf,d1,d2,d3,d4,d5,d6]))
       (try rw [c4 (by omega)])
       (try (refine fc (c3 (by omega) (by omega)) ?_;rintro _ _ ⟨rfl,rfl⟩;simp only [↓wR,RA,simprocAttr,TF,ae,dv,h,hen,hwr,xf,d1,d2,d3,d4,d5,d6]))
       (try rw [c6 (by omega)])
       (try (refine fc (c5 (by omega) (by omega)) ?_;rintro _ _ ⟨rfl,rfl⟩;simp only [↓wR,RA,simprocAttr,TF,ae,dv,h,hen,hwr,xf,d1,d2,d3,d4,d5,d6]))
       simp only [↓wR,RA,simprocAttr,TF,ae,g6,gv,gk])
   ·have e3:((a:Nat):Int)=((s0:Nat):Int):=by rw [hs0,if_neg (by omega)]
    have e4:((m:Nat):Int)=((r0:Nat):Int):=by rw [hr0,if_neg (by omega)]
    simp only [↓wR,RA,simprocAttr,TF,ae,hg,hp1];repeat (simp (disch:=omega) only [ag,bf,bg,be,bb];try simp only [↓wR,RA,simprocAttr,TF,ae,hg,hp1])
    refine c7 [0,1,2,3,4,18,19,20,21,22] (fun (p:Nat × Nat)=>[.sl 0 0 N 4,.sc (.int .i64 (a)),.sc (.int .i64 (m)),.sc (.int .i64 (b)),(.fn (.func 176) [] [.ptr 1 0]),.sc (.int .i64 (mid)),.sc (.int .i64 (n)),.sc (.int .i64 (p.1)),.sc (.int .i64 (p.2)),.sc (.int .i64 (((n - 1:Nat):Int)))]) (fun _=>[some (.row (cellsOf aq true ((X0))) 0 0 101),some (.row [.vl false 1 (s.owner.map (aj.val false)),.sc (.int .u16 s.type.toNat),.sc (.int .u16 s.cls.toNat),.sc (.int .u32 s.ey.toNat),.vl false 4 (s.data.map (aq.val false))] 0 2 31)]) (fun p=>s0≤p.1∧p.1≤p.2∧p.2≤r0∧(∀ c e,s0<p.1→L[p.1 - 1 - a]? = some c→R[n - p.1 - m]? = some e→(eh s.type) e c=false)∧(∀ c e,p.2<r0→L[p.2 - a]? = some c→R[n - 1 - p.2 - m]? = some e→(eh s.type) e c=true)) (fun p=>p.2 - p.1) (s0,r0) ⟨Nat.le_refl _,hsr.2.1,Nat.le_refl _,fun _ _ q=>absurd q (Nat.lt_irrefl _),fun _ _ q=>absurd q (Nat.lt_irrefl _)⟩ (by simp only [↓wR,RA,simprocAttr,TF,ae];rw [← e3,← e4]) (by simp only [↓wR,RA,simprocAttr,TF,ae]<;>rfl) ?_
    rintro ⟨i,j⟩ ⟨p1,p2,p3,p4,p5⟩
    simp only [] at p1 p2 p3 p4 p5 ⊢
    simp only [↓wR,RA,simprocAttr,TF,ae]
    rw [aw];refine ⟨fun h=>?_,fun h=>?_⟩
    ·have hlt:i<j:=by omega
     obtain ⟨u,hu⟩:∃ u,u=(i+j) / 2:=⟨_,rfl⟩
     have hub:i≤u∧u<j:=by omega
     have hhalf2:=half i j (by omega)
     rw [← hu] at hhalf2
     obtain ⟨x,hx⟩:∃ x,L[u - a]? = some x:=⟨_,List.getElem?_eq_getElem (by omega)⟩
     obtain ⟨y,hy⟩:∃ y,R[n - 1 - u - m]? = some y:=⟨_,List.getElem?_eq_getElem (by omega)⟩
     have hxV:=hLV x (List.mem_of_getElem? hx)
     have hyV:=hRV y (List.mem_of_getElem? hy)
     have gx:=hXL _ _ hx
     rw [show a+(u - a)=u by omega] at gx
     have gy:=hXR _ _ hy
     rw [show m+(n - 1 - u - m)=n - 1 - u by omega] at gy
     have hpu:((n - 1:Nat):Int) - u=((n - 1 - u:Nat):Int):=by omega
     have l1:=ki 0 0 101 gx
     have l2:=ki 0 0 101 gy
     simp only [↓wR,RA,simprocAttr,TF,ae,h,hhalf2,hpu,↓l1,↓l2,l0,hxV.1,hyV.1];repeat (simp (disch:=omega) only [ag,bf,bg,be,bb];try simp only [↓wR,RA,simprocAttr,TF,ae,h,hhalf2,hpu,↓l1,↓l2,l0,hxV.1,hyV.1])
     refine ⟨by kernel_rfl,.inl ?_⟩
     rw [wc (g:=176) (a:=[]) (b:=[.ptr 1 0])]
     rotate_left
     ·rfl
     simp only [↓wR,RA,simprocAttr,TF,ae,If]
     refine ⟨by apply hc;kernel_rfl,?_⟩
     rw [aw];refine ⟨fun hl=>?_,fun hl=>?_⟩
     ·have hll:(eh s.type) y x=false:=decide_eq_false hl
      simp only [↓wR,RA,simprocAttr,TF,ae,hl];repeat (simp (disch:=omega) only [ag,bf,bg,be,bb];try simp only [↓wR,RA,simprocAttr,TF,ae,hl])
      exact ⟨(u+1,j),⟨by show s0≤u+1;omega,by show u+1≤j;omega,p3,fun c e _ hcc hee=>by
       have hcc':L[u+1 - 1 - a]? = some c:=hcc
       have hee':R[n - (u+1) - m]? = some e:=hee
       rw [show u+1 - 1 - a=u - a by omega,hx] at hcc'
       rw [show n - (u+1) - m=n - 1 - u - m by omega,hy] at hee'
       cases hcc';cases hee';exact hll,p5⟩,by show j - (u+1)<j - i;omega,by (first|rfl|trivial|omega|((try (simp (disch:=omega) only [ag]));(try (simp only [FB]));first|done|rfl|omega))⟩
     ·have hll:(eh s.type) y x=true:=decide_eq_true (Decidable.not_not.1 hl)
      simp only [↓wR,RA,simprocAttr,TF,ae,hl];repeat (simp (disch:=omega) only [ag,bf,bg,be,bb];try simp only [↓wR,RA,simprocAttr,TF,ae,hl])
      exact ⟨(i,u),⟨p1,by show i≤u;omega,by show u≤r0;omega,p4,fun c e _ hcc hee=>by
       have hcc':L[u - a]? = some c:=hcc
       have hee':R[n - 1 - u - m]? = some e:=hee
       rw [hx] at hcc';rw [hy] at hee'
       cases hcc';cases hee';exact hll⟩,by show u - i<j - i;omega,by (first|rfl|trivial|omega|((try (simp (disch:=omega) only [ag]));(try (simp only [FB]));first|done|rfl|omega))⟩
    ·have hij:j=i:=by omega
     subst hij
     obtain ⟨X1,X2,c1,c2,c3,c4,c5,c6⟩:=hfin j p1 p3 p4 p5
     have hen:(n:Int) - j=((n - j:Nat):Int):=by omega
     obtain ⟨en,hen2⟩:∃ en,en=n - j:=⟨_,rfl⟩
     rw [← hen2] at c1 c2 c5 c6 hen
     obtain ⟨X3,hX3⟩:∃ X3,X3=A++eu (eh s.type) L R++Z:=⟨_,rfl⟩
     rw [← hX3] at c5 c6 ⊢
     have b1:m<en↔j<mid:=by omega
     have b2:mid<en↔j<m:=by omega
     by_cases k1:a<j<;>by_cases k2:j<m<;>by_cases k3:j<mid<;>by_cases k4:en<b<;>first
      |(exfalso;omega)
      |(
       have d1:=k1
       have d2:=k2
       have d3:=k3
       have d4:=k4
       have hwr:IntKind.i64.wrap (en:Int)=en:=ag _ (by omega) (by omega)
       have d5:decide (m<en)=decide (j<mid):=decide_eq_decide.2 b1
       have d6:decide (mid<en)=decide (j<m):=decide_eq_decide.2 b2
       (try rw [c2 (by omega)])
       simp only [↓wR,RA,simprocAttr,TF,ae,h,hen,hwr,xf,d1,d2,d3,d4,d5,d6]
       (try (refine fc (c1 (by omega) (by omega)) ?_;rintro _ _ ⟨rfl,rfl⟩;simp only [↓wR,RA,simprocAttr,TF,ae,dv,h,hen,hwr,xf,d1,d2,d3,d4,d5,d6]))
       (try rw [c4 (by omega)])
       (try (refine fc (c3 (by omega) (by omega)) ?_;rintro _ _ ⟨rfl,rfl⟩;simp only [↓wR,RA,simprocAttr,TF,ae,dv,h,hen,hwr,xf,d1,d2,d3,d4,d5,d6]))
       (try rw [c6 (by omega)])
       (try (refine fc (c5 (by omega) (by omega)) ?_;rintro _ _ ⟨rfl,rfl⟩;simp only [↓wR,RA,simprocAttr,TF,ae,dv,h,hen,hwr,xf,d1,d2,d3,d4,d5,d6]))
       simp only [↓wR,RA,simprocAttr,TF,ae,g6,gv,gk])
theorem aa8 (s:az) (N:Nat) (X:List bt) (hN:N=X.length) (hs:N≤1048576) (hV:∀ x ∈ X,rh s.type x) :
 ib PP 192 [.sl 0 0 N 4,.sc (.int .i64 (N)),(.fn (.func 176) [] [.ptr 1 0])] (bj [some (.row (cellsOf aq true ((X))) 0 0 101),some (.row [.vl false 1 (s.owner.map (aj.val false)),.sc (.int .u16 s.type.toNat),.sc (.int .u16 s.cls.toNat),.sc (.int .u32 s.ey.toNat),.vl false 4 (s.data.map (aq.val false))] 0 2 31)])
  (fun r st'=>r = .fo []∧st'=bj [some (.row (cellsOf aq true ((dg (eh s.type) X))) 0 0 101),some (.row [.vl false 1 (s.owner.map (aj.val false)),.sc (.int .u16 s.type.toNat),.sc (.int .u16 s.cls.toNat),.sc (.int .u32 s.ey.toNat),.vl false 4 (s.data.map (aq.val false))] 0 2 31)]):=by
 refine dr _ rfl ?_ (fun r st' h=>h)
 refine ct (T:=[]) (ar.nil PP) mixed Tryz.func192 rfl (by kernel_rfl) (by kernel_rfl) (by kernel_rfl) (by kernel_rfl) ?_;unfold Tryz.f192
 simp only [↓wR,RA,simprocAttr,TF,ae]
 refine c7 [0,1,2,6,7,8] (fun (x:List bt × List bt)=>[.sl 0 0 N 4,.sc (.int .i64 (N)),(.fn (.func 176) [] [.ptr 1 0]),.sc (.int .i64 (20)),.sc (.int .i64 (x.1.length)),.sc (.int .i64 (((x.1.length+20:Nat):Int)))]) (fun x=>[some (.row (cellsOf aq true ((x.1++x.2))) 0 0 101),some (.row [.vl false 1 (s.owner.map (aj.val false)),.sc (.int .u16 s.type.toNat),.sc (.int .u16 s.cls.toNat),.sc (.int .u32 s.ey.toNat),.vl false 4 (s.data.map (aq.val false))] 0 2 31)]) (fun x=>x.1++jb (eh s.type) 20 x.2=jb (eh s.type) 20 X∧x.1.length+x.2.length=N∧∀ y ∈ x.2,rh s.type y) (fun x=>x.2.length) ([],X) ⟨rfl,by rw [hN];simp,hV⟩ (by simp only [↓wR,RA,simprocAttr,TF,ae]<;>rfl) (by simp only [↓wR,RA,simprocAttr,TF,ae]<;>rfl) ?_
 rintro ⟨D,Y⟩ ⟨h1,h2,h3⟩
 simp only [] at h1 h2 h3 ⊢
 simp only [↓wR,RA,simprocAttr,TF,ae]
 rw [aw];refine ⟨fun h=>?_,fun h=>?_⟩
 ·have hle : 20≤Y.length:=by omega
  have hY:Y=Y.take 20++Y.drop 20:=(List.take_append_drop 20 Y).symm
  have hl1:(Y.take 20).length=20:=by rw [List.length_take];omega
  have hins:=Mk s N D.length (D.length+20) D (Y.take 20) (Y.drop 20) (by simp only [List.length_append,List.length_take,List.length_drop];omega) hs rfl (by omega) (fun x hx=>h3 x (List.mem_of_mem_take hx))
  rw [show D++Y.take 20++Y.drop 20=D++Y by rw [List.append_assoc,List.take_append_drop]] at hins
  have hb1:((D.length+20:Nat):Int)+20=((D.length+20+20:Nat):Int):=by omega
  simp only [↓wR,RA,simprocAttr,TF,ae,h];repeat (simp (disch:=omega) only [ag,bf,bg,be,bb];try simp only [↓wR,RA,simprocAttr,TF,ae,h])
  refine fc hins ?_
  rintro _ _ ⟨rfl,rfl⟩
  simp only [↓wR,RA,simprocAttr,TF,ae,dv,hb1];repeat (simp (disch:=omega) only [ag,bf,bg,be,bb];try simp only [↓wR,RA,simprocAttr,TF,ae,dv,hb1])
  refine ⟨(D++dg (eh s.type) (Y.take 20),Y.drop 20),⟨?_,?_,fun y hy=>h3 y (List.mem_of_mem_drop hy)⟩,?_,?_,?_⟩
  ·rw [← h1,A2 (l:=Y) (by decide) hle,List.append_assoc]
  ·simp only [List.length_append,ed,List.length_drop,hl1];omega
  ·simp only [List.length_drop];omega
  ·simp only [List.length_append,ed,hl1]<;>rfl
  ·rfl
 ·have hle:Y.length<20:=by omega
  have hins:=Mk s N D.length N D Y [] (by simp only [List.length_append,List.length_nil];omega) hs rfl (by omega) h3
  rw [List.append_nil,List.append_nil,show D++dg (eh s.type) Y=jb (eh s.type) 20 X by rw [← h1,pg (by omega)]] at hins
  simp only [↓wR,RA,simprocAttr,TF,ae,h];repeat (simp (disch:=omega) only [ag,bf,bg,be,bb];try simp only [↓wR,RA,simprocAttr,TF,ae,h])
  refine fc hins ?_
  rintro _ _ ⟨rfl,rfl⟩
  simp only [↓wR,RA,simprocAttr,TF,ae,dv];repeat (simp (disch:=omega) only [ag,bf,bg,be,bb];try simp only [↓wR,RA,simprocAttr,TF,ae,dv])
  refine c7 [0,1,2,6] (fun (k:Nat)=>[.sl 0 0 N 4,.sc (.int .i64 (N)),(.fn (.func 176) [] [.ptr 1 0]),.sc (.int .i64 (k))]) (fun k=>[some (.row (cellsOf aq true ((jb (eh s.type) k X))) 0 0 101),some (.row [.vl false 1 (s.owner.map (aj.val false)),.sc (.int .u16 s.type.toNat),.sc (.int .u16 s.cls.toNat),.sc (.int .u32 s.ey.toNat),.vl false 4 (s.data.map (aq.val false))] 0 2 31)]) (fun k=>0<k∧k≤2 * N+40) (fun k=>N - k) 20 ⟨by decide,by omega⟩ (by simp only [↓wR,RA,simprocAttr,TF,ae]<;>rfl) (by simp only [↓wR,RA,simprocAttr,TF,ae]<;>rfl) ?_
  clear h1 h2 h3 h hle hins D Y
  rintro k ⟨hk0,hk1⟩
  simp only [↓wR,RA,simprocAttr,TF,ae]
  rw [aw];refine ⟨fun h=>?_,fun h=>?_⟩
  ·have e2:(2:Int) * k=((k+k:Nat):Int):=by omega
   simp only [↓wR,RA,simprocAttr,TF,ae,h,e2];repeat (simp (disch:=omega) only [ag,bf,bg,be,bb];try simp only [↓wR,RA,simprocAttr,TF,ae,h,e2])
   refine c7 [0,1,2,6,7,8] (fun (x:List bt × List bt)=>[.sl 0 0 N 4,.sc (.int .i64 (N)),(.fn (.func 176) [] [.ptr 1 0]),.sc (.int .i64 (k)),.sc (.int .i64 (x.1.length)),.sc (.int .i64 (((x.1.length+(k+k):Nat):Int)))]) (fun x=>[some (.row (cellsOf aq true ((x.1++jb (eh s.type) k x.2))) 0 0 101),some (.row [.vl false 1 (s.owner.map (aj.val false)),.sc (.int .u16 s.type.toNat),.sc (.int .u16 s.cls.toNat),.sc (.int .u32 s.ey.toNat),.vl false 4 (s.data.map (aq.val false))] 0 2 31)]) (fun x=>x.1++jb (eh s.type) (k+k) x.2=jb (eh s.type) (k+k) X∧x.1.length+x.2.length=N∧∀ y ∈ x.2,rh s.type y) (fun x=>x.2.length) ([],X) ⟨rfl,by rw [hN];simp,hV⟩ (by simp only [↓wR,RA,simprocAttr,TF,ae]<;>simp) (by simp only [↓wR,RA,simprocAttr,TF,ae]<;>rfl) ?_
   rintro ⟨D,Y⟩ ⟨h1,h2,h3⟩
   simp only [] at h1 h2 h3 ⊢
   have hm1:(D.length:Int)+k=((D.length+k:Nat):Int):=by omega
   simp only [↓wR,RA,simprocAttr,TF,ae]
   rw [aw];refine ⟨fun h4=>?_,fun h4=>?_⟩
   ·have hle:k+k≤Y.length:=by omega
    have hb1:((D.length+(k+k):Nat):Int)+((k+k:Nat):Int)=((D.length+(k+k)+(k+k):Nat):Int):=by omega
    have l1:(Y.take k).length=k:=by rw [List.length_take];omega
    have l2:((Y.drop k).take k).length=k:=by rw [List.length_take,List.length_drop];omega
    have hsym:=Ny s (k+k) N D.length (D.length+k) (D.length+(k+k)) D (dg (eh s.type) (Y.take k)) (dg (eh s.type) ((Y.drop k).take k)) (jb (eh s.type) k (Y.drop (k+k))) (by omega) (by simp only [List.length_append,ed,l1,l2,aka hk0 _ _ (Nat.le_refl _),List.length_drop];omega) hs rfl (by rw [ed,l1]) (by rw [ed,l2];omega) (by rw [ed,l1];exact hk0) (by rw [ed,l2];exact hk0) (fun x hx=>h3 x (List.mem_of_mem_take (ju.1 hx))) (fun x hx=>h3 x (List.mem_of_mem_drop (List.mem_of_mem_take (ju.1 hx)))) (lq (oh s.type) _ (fun y hy=>h3 y (List.mem_of_mem_take hy))) (lq (oh s.type) _ (fun y hy=>h3 y (List.mem_of_mem_drop (List.mem_of_mem_take hy))))
    rw [Ec (oh s.type) _ _ (fun y hy=>h3 y (List.mem_of_mem_take hy)) (fun y hy=>h3 y (List.mem_of_mem_drop (List.mem_of_mem_take hy))),acu,show D++dg (eh s.type) (Y.take k)++dg (eh s.type) ((Y.drop k).take k)++jb (eh s.type) k (Y.drop (k+k))=D++jb (eh s.type) k Y by rw [ajz hk0 hle];simp] at hsym
    simp only [↓wR,RA,simprocAttr,TF,ae,h4,hm1];repeat (simp (disch:=omega) only [ag,bf,bg,be,bb];try simp only [↓wR,RA,simprocAttr,TF,ae,h4,hm1])
    refine fc hsym ?_
    rintro _ _ ⟨rfl,rfl⟩
    simp only [↓wR,RA,simprocAttr,TF,ae,dv,e2,hb1];repeat (simp (disch:=omega) only [ag,bf,bg,be,bb];try simp only [↓wR,RA,simprocAttr,TF,ae,dv,e2,hb1])
    refine ⟨(D++dg (eh s.type) (Y.take (k+k)),Y.drop (k+k)),⟨?_,?_,fun y hy=>h3 y (List.mem_of_mem_drop hy)⟩,?_,?_,?_⟩
    ·rw [← h1,A2 (l:=Y) (by omega) hle,List.append_assoc]
    ·simp only [List.length_append,ed,List.length_drop,List.length_take];omega
    ·simp only [List.length_drop];omega
    ·have:(D++dg (eh s.type) (Y.take (k+k))).length=D.length+(k+k):=by simp only [List.length_append,ed,List.length_take];omega
     simp only [this]
    ·rfl
   ·have hle:Y.length<k+k:=by omega
    have e3:(k:Int) * 2=((k+k:Nat):Int):=by omega
    simp only [↓wR,RA,simprocAttr,TF,ae,h4,hm1];repeat (simp (disch:=omega) only [ag,bf,bg,be,bb];try simp only [↓wR,RA,simprocAttr,TF,ae,h4,hm1])
    rw [aw];refine ⟨fun h5=>?_,fun h5=>?_⟩
    ·have hlt:k<Y.length:=by omega
     have l1:(Y.take k).length=k:=by rw [List.length_take];omega
     have hsym:=Ny s (k+k) N D.length (D.length+k) N D (dg (eh s.type) (Y.take k)) (dg (eh s.type) (Y.drop k)) [] (by omega) (by simp only [List.length_append,ed,l1,List.length_drop,List.length_nil];omega) hs rfl (by rw [ed,l1]) (by rw [ed,List.length_drop];omega) (by rw [ed,l1];exact hk0) (by rw [ed,List.length_drop];omega) (fun x hx=>h3 x (List.mem_of_mem_take (ju.1 hx))) (fun x hx=>h3 x (List.mem_of_mem_drop (ju.1 hx))) (lq (oh s.type) _ (fun y hy=>h3 y (List.mem_of_mem_take hy))) (lq (oh s.type) _ (fun y hy=>h3 y (List.mem_of_mem_drop hy)))
     rw [Ec (oh s.type) _ _ (fun y hy=>h3 y (List.mem_of_mem_take hy)) (fun y hy=>h3 y (List.mem_of_mem_drop hy)),List.take_append_drop,List.append_nil,List.append_nil,show D++dg (eh s.type) (Y.take k)++dg (eh s.type) (Y.drop k)=D++jb (eh s.type) k Y by rw [ae7 hk0 hlt (by omega)];simp,show D++dg (eh s.type) Y=jb (eh s.type) (k+k) X by rw [← h1,pg (by omega)]] at hsym
     simp only [↓wR,RA,simprocAttr,TF,ae,h5];repeat (simp (disch:=omega) only [ag,bf,bg,be,bb];try simp only [↓wR,RA,simprocAttr,TF,ae,h5])
     refine fc hsym ?_
     rintro _ _ ⟨rfl,rfl⟩
     simp only [↓wR,RA,simprocAttr,TF,ae,dv,e3];repeat (simp (disch:=omega) only [ag,bf,bg,be,bb];try simp only [↓wR,RA,simprocAttr,TF,ae,dv,e3])
     exact ⟨k+k,⟨by omega,by omega⟩,by omega,by (first|rfl|trivial|omega|((try (simp (disch:=omega) only [ag]));(try (simp only [FB]));first|done|rfl|omega)),by (first|rfl|trivial|omega|((try (simp (disch:=omega) only [ag]));(try (simp only [FB]));first|done|rfl|omega))⟩
    ·have hlt:Y.length≤k:=by omega
     rw [show D++jb (eh s.type) k Y=jb (eh s.type) (k+k) X by rw [← h1,pg hlt,pg (by omega)]]
     simp only [↓wR,RA,simprocAttr,TF,ae,h5,e3];repeat (simp (disch:=omega) only [ag,bf,bg,be,bb];try simp only [↓wR,RA,simprocAttr,TF,ae,h5,e3])
     exact ⟨k+k,⟨by omega,by omega⟩,by omega,by (first|rfl|trivial|omega|((try (simp (disch:=omega) only [ag]));(try (simp only [FB]));first|done|rfl|omega)),by (first|rfl|trivial|omega|((try (simp (disch:=omega) only [ag]));(try (simp only [FB]));first|done|rfl|omega))⟩
  ·have hle:X.length≤k:=by omega
   rw [pg hle]
   simp only [↓wR,RA,simprocAttr,TF,ae,h,g6,gv,gk]
theorem aap (s:az) (N:Nat) (X:List bt) (hN:N=X.length) (hs:N≤1048576) (hV:∀ x ∈ X,rh s.type x) :
 ib PP 175 [.sl 0 0 N 4,(.fn (.func 176) [] [.ptr 1 0])] (bj [some (.row (cellsOf aq true ((X))) 0 0 101),some (.row [.vl false 1 (s.owner.map (aj.val false)),.sc (.int .u16 s.type.toNat),.sc (.int .u16 s.cls.toNat),.sc (.int .u32 s.ey.toNat),.vl false 4 (s.data.map (aq.val false))] 0 2 31)])
  (fun r st'=>r = .fo []∧st'=bj [some (.row (cellsOf aq true ((dg (eh s.type) X))) 0 0 101),some (.row [.vl false 1 (s.owner.map (aj.val false)),.sc (.int .u16 s.type.toNat),.sc (.int .u16 s.cls.toNat),.sc (.int .u32 s.ey.toNat),.vl false 4 (s.data.map (aq.val false))] 0 2 31)]):=by
 refine dr _ rfl ?_ (fun r st' h=>h)
 refine ct (T:=[]) (ar.nil PP) mixed Tryz.func175 rfl (by kernel_rfl) (by kernel_rfl) (by kernel_rfl) (by kernel_rfl) ?_;unfold Tryz.f175
 simp only [↓wR,RA,simprocAttr,TF,ae]
 refine fc (aa8 s N X hN hs hV) ?_
 rintro _ _ ⟨rfl,rfl⟩
 simp only [↓wR,RA,simprocAttr,TF,ae,dv,g6,gv,gk]
theorem ae6 (s:az) (hs:cd s):ib PP 53 [ah.val false s] (bj [])
 (fun r st'=>r = .agg [.vl true 1 (s.owner.map (aj.val false)),.sc (.int .u16 s.type.toNat),.sc (.int .u16 s.cls.toNat),.sc (.int .u32 s.ey.toNat),.sl 0 0 s.data.length 4]∧st'=bj [some (.row (cellsOf aq true ((s.data))) 0 0 101)]):=by
 have ho:=hs.owner
 have hd:=hs.data
 have hn:=hd.len
 refine dr _ rfl ?_ (fun r st' h=>h)
 simp only [fu]
 refine ct (T:=[Be,afo]) (ar.cons (ak ri) (ar.cons (ak Lb) (ar.nil PP))) mixed Tryz.func53 rfl (by kernel_rfl) (by kernel_rfl) (by kernel_rfl) (by kernel_rfl) ?_;unfold Tryz.f53
 simp only [↓wR,RA,simprocAttr,TF,ae,qn,ho]
 refine fj [2,13,14,15,3] (fun (x:List bt)=>[.ptr 0 0,.vl false 4 (s.data.map (aq.val false)),.sc (.int .i64 (s.data.length)),.sc (.int .i64 (x.length)),.ptr 1 0]) (fun x=>[some (.row [.sc (.slice none 0 0),.sc (.int .u16 0),.sc (.int .u16 0),.sc (.int .u32 0),.sc (.slice none 0 0)] 0 2 31),some (.row [au.val true s.owner,.sc (.int .u16 s.type.toNat),.sc (.int .u16 s.cls.toNat),.sc (.int .u32 s.ey.toNat),.sl 2 0 x.length 4] 0 2 31),some (.row (cellsOf aq true ((x))) 0 0 101)]) (fun x=>x.length≤s.data.length∧x++s.data.drop x.length=s.data) (fun x=>s.data.length - x.length) [] ⟨Nat.zero_le _,rfl⟩ (by simp only [↓wR,RA,simprocAttr,TF,ae];(refine ji.lax [] (by first|exact Nat.le_of_ble_eq_true rfl|(simp [dk];omega)) ?_ ?_<;>repeat' first|exact ef.nil|exact b9.nil|exact fe.same _|exact fe.nil _ _ _|exact fe.lu _ _|exact b9.refl _ _|apply ef.cons|apply b9.ghost|apply b9.same|apply b9.row)) ?_
 rintro x ⟨hi,hx⟩
 simp only [↓wR,RA,simprocAttr,TF,ae]
 rw [aw];refine ⟨fun h=>?_,fun h=>?_⟩
 ·obtain ⟨c,hc,hd1,hlt⟩:=dx (decide_eq_true h)
  rw [hd1] at hx
  have hcs:=hd.mem c (List.mem_of_getElem? hc)
  simp only [↓wR,RA,simprocAttr,TF,ae,h,hc]
  refine ⟨by kernel_rfl,.inl ?_⟩
  have hlim:(x.length * 4+4) * 96≤140737488355328:=by omega
  simp only [↓wR,RA,simprocAttr,TF,ae,zc,hcs,hlim]
  refine ⟨by kernel_rfl,x++[c],⟨by simp;omega,by simpa using hx⟩,by simp;omega,by (first|rfl|trivial|omega|((try (simp (disch:=omega) only [ag]));(try (simp only [FB]));first|done|rfl|omega)),?_⟩
  rw [x6,List.length_append];rfl
 ·rw [fl (decide_eq_false h)] at hx
  rw [List.append_nil] at hx
  subst hx
  simp only [↓wR,RA,simprocAttr,TF,ae,h,g6,gv,gk,cr]
noncomputable def dj (s:az):az:=if s.data.all (fun d=>decide (dw s.type d=0))=true then Nb s.owner s.type s.cls s.ey (dg (eh s.type) s.data) else s
theorem au3 (s:az) (hs:cd s) (hl:s.data.length≤1048576):wl PP [Gx] 0 (Tryz.f142.body.getD .skip) (da PP Tryz.f142.results.toList (fun r st=>(r1 ah).get true st.h r=some (dj s))) (cj 0 [ah.val false s]) (bj []):=by
 have ho:=hs.owner
 have hd:=hs.data
 have hn:=hd.len
 unfold Tryz.f142
 simp only [fu]
 simp only [↓wR,RA,simprocAttr,TF,ae]
 refine Jf [] (ae6 s hs) (by decide) (by simp only [↓wR,RA,simprocAttr,TF,ae]) (by simp only [↓wR,RA,simprocAttr,TF,ae]) (Nat.le_of_ble_eq_true rfl) (by simp only [↓wR,RA,simprocAttr,TF,ae,fu]) (by simp only [↓wR,RA,simprocAttr,TF,ae]) ⟨Nat.le_of_ble_eq_true rfl,Nat.le_of_ble_eq_true rfl⟩ ?_
 simp only [↓wR,RA,simprocAttr,TF,ae,dv,s9,zq,tg,Kp]
 refine c7 [1,2,3,9,10,11] (fun (i:Nat)=>[.ptr 0 0,.ptr 1 0,.ptr 2 0,.vl false 4 (s.data.map (aq.val false)),.sc (.int .i64 (s.data.length)),.sc (.int .i64 (i))]) (fun _=>[some (.row [.vl false 1 (s.owner.map (aj.val false)),.sc (.int .u16 s.type.toNat),.sc (.int .u16 s.cls.toNat),.sc (.int .u32 s.ey.toNat),.vl false 4 (s.data.map (aq.val false))] 0 2 31),some (.row [.sc (.slice none 0 0),.sc (.int .u16 0),.sc (.int .u16 0),.sc (.int .u32 0),.sc (.slice none 0 0)] 0 2 31),some (.row [au.val true s.owner,.sc (.int .u16 s.type.toNat),.sc (.int .u16 s.cls.toNat),.sc (.int .u32 s.ey.toNat),.sl 3 0 s.data.length 4] 0 2 31),some (.row (cellsOf aq true ((s.data))) 0 0 101)]) (fun i=>i≤s.data.length∧s.data.all (fun d=>decide (dw s.type d=0))=(s.data.drop i).all (fun d=>decide (dw s.type d=0))) (fun i=>s.data.length - i) 0 ⟨Nat.zero_le _,rfl⟩ (by simp only [↓wR,RA,simprocAttr,TF,ae]<;>rfl) (by simp only [↓wR,RA,simprocAttr,TF,ae]<;>rfl) ?_
 rintro i ⟨hi,hx⟩
 simp only [↓wR,RA,simprocAttr,TF,ae]
 rw [aw];refine ⟨fun h=>?_,fun h=>?_⟩
 ·obtain ⟨c,hc,hd1,hlt⟩:=dx (decide_eq_true h)
  rw [hd1,List.all_cons] at hx
  have hcs:=hd.mem c (List.mem_of_getElem? hc)
  simp only [↓wR,RA,simprocAttr,TF,ae,h,hc,qg,hcs]
  rw [c9];refine ⟨fun ⟨h2,e2⟩=>?_,fun ⟨h2,e2⟩=>?_⟩
  ·have hv:dj s=s:=by unfold dj;rw [hx,decide_eq_false e2];rfl
   simp only [↓wR,RA,simprocAttr,TF,ae,h2]
   rw [hv]
  ·have e3:dw s.type c=0:=by omega
   rw [decide_eq_true e3,Bool.true_and] at hx
   simp only [↓wR,RA,simprocAttr,TF,ae,h2];repeat (simp (disch:=omega) only [ag,bf,bg,be,bb];try simp only [↓wR,RA,simprocAttr,TF,ae,h2])
   exact ⟨i+1,⟨hlt,hx⟩,by omega,by (first|rfl|trivial|omega|((try (simp (disch:=omega) only [ag]));(try (simp only [FB]));first|done|rfl|omega))⟩
 ·rw [fl (decide_eq_false h),List.all_nil] at hx
  have hv:dj s=Nb s.owner s.type s.cls s.ey (dg (eh s.type) s.data):=by unfold dj;rw [if_pos hx]
  have hg:∀ d ∈ s.data,rh s.type d:=fun d hdm=>⟨hd.mem d hdm,of_decide_eq_true (List.all_eq_true.1 hx d hdm)⟩
  simp only [↓wR,RA,simprocAttr,TF,ae,h]
  refine Jf [3,0] (aap s s.data.length s.data rfl hl hg) (by decide) (by simp only [↓wR,RA,simprocAttr,TF,ae]) (by simp only [↓wR,RA,simprocAttr,TF,ae]) (Nat.le_of_ble_eq_true rfl) (by simp only [↓wR,RA,simprocAttr,TF,ae]) (by simp only [↓wR,RA,simprocAttr,TF,ae]) ⟨Nat.le_of_ble_eq_true rfl,Nat.le_of_ble_eq_true rfl⟩ ?_
  simp only [↓wR,RA,simprocAttr,TF,ae,dv,s9,zq,tg,Kp]
  rw [hv,ku aq true _ true (dg (eh s.type) s.data) 0 0 _ s.data.length (by rw [ed]) rfl (by kernel_rfl)]
noncomputable def B2 (x:az × Unit):Option AV:=if cd x.1∧x.1.data.length≤1048576 then some ((r1 ah).E true (dj x.1)) else none
set_option maxRecDepth 2000000 in
theorem agn (x:az × Unit) (r:AV) (h:B2 x=some r):bk PP 142 ((aC ah a0).E x) r:=by
 by_cases hc:cd x.1∧x.1.data.length≤1048576
 case neg=>simp only [B2,if_neg hc] at h;cases h
 simp only [B2,if_pos hc] at h
 cases h
 exact ay (ar.cons (ak wj) (ar.nil PP)) Tryz.func142 (by kernel_rfl) (by kernel_rfl) (by kernel_rfl) (Nat.le_of_ble_eq_true (by kernel_rfl)) (r1 ah) true (dj x.1) (au3 x.1 hc.1 hc.2)
noncomputable abbrev ays:Nat × Bool × (List AV→M AV):=(142,true,c8 (aC ah a0) B2)
theorem ax1 {t:UInt16} {l:List bt} {x:bt} {k:Nat} (hx:rh t x) (hv:∀ y ∈ l,rh t y) (hr:iz (eh t) l) (hk:k≤l.length) (h1:∀ y,l[k]? = some y→eh t x y=true) (h2:∀ y,0<k→l[k - 1]? = some y→eh t x y=false):j4 (eh t) x l=l.take k++x::l.drop k:=by
 have:=Fb (lt:=eh t) (x:=x) (l.take k) (l.drop k) (fun y hy=>?_) (fun y hy=>?_)
 ·rwa [List.take_append_drop] at this
 ·obtain ⟨i,hi,hy⟩:=List.getElem_of_mem hy
  have hi':i<k:=by simp at hi;omega
  have hz:l[k - 1]? = some (l[k - 1]'(by omega)):=List.getElem?_eq_getElem (by omega)
  have hxz:=h2 _ (by omega) hz
  rw [List.getElem_take] at hy
  subst hy
  by_cases e:i=k - 1
  ·subst e;exact hxz
  ·have:=List.pairwise_iff_getElem.1 hr i (k - 1) (by omega) (by omega) (by omega)
   exact (oh t).trans _ _ _ (hv _ (List.getElem_mem _)) (hv _ (List.getElem_mem _)) hx this hxz
 ·rw [List.head?_drop] at hy
  exact h1 y hy
set_option maxHeartbeats 8000000 in
theorem apl (s:az) (hs:cd s) (hl:s.data.length≤1048576):wl PP [D8,Ft,wz,Cf,aha] 0 (Tryz.f143.body.getD .skip) (da PP Tryz.f143.results.toList (fun r st=>(r1 ah).get true st.h r=some (dj s))) (cj 0 [ah.val false s]) (bj []):=by
 have hq:∀ a b c d,dz a b c=d→dz a b c=d:=fun _ _ _ _ h=>h
 have hol:=yk hs.owner
 have hd:=hs.data
 have hn:=hd.len
 unfold Tryz.f143
 simp only [fu]
 simp only [↓wR,RA,simprocAttr,TF,ae]
 refine c7 [1,2,3] (fun (i:Nat)=>[.ptr 0 0,.ptr 1 0,.sc (.int .i64 (i))]) (fun _=>[some (.row [.vl false 1 (s.owner.map (aj.val false)),.sc (.int .u16 s.type.toNat),.sc (.int .u16 s.cls.toNat),.sc (.int .u32 s.ey.toNat),.vl false 4 (s.data.map (aq.val false))] 0 2 31),some (.row [.sc (.slice none 0 0),.sc (.int .u16 0),.sc (.int .u16 0),.sc (.int .u32 0),.sc (.slice none 0 0)] 0 2 31)]) (fun i=>i≤s.data.length∧s.data.all (fun d=>decide (dw s.type d=0))=(s.data.drop i).all (fun d=>decide (dw s.type d=0))) (fun i=>s.data.length - i) 0 ⟨Nat.zero_le _,rfl⟩ (by simp only [↓wR,RA,simprocAttr,TF,ae]<;>rfl) (by simp only [↓wR,RA,simprocAttr,TF,ae]<;>rfl) ?_
 rintro i ⟨hi,hx⟩
 simp only [↓wR,RA,simprocAttr,TF,ae]
 rw [aw];refine ⟨fun h=>?_,fun h=>?_⟩
 ·obtain ⟨c,hc,hd1,hlt⟩:=dx (decide_eq_true h)
  rw [hd1,List.all_cons] at hx
  have hcs:=hd.mem c (List.mem_of_getElem? hc)
  simp only [↓wR,RA,simprocAttr,TF,ae,h]
  refine ⟨by kernel_rfl,.inl ?_⟩
  simp only [↓wR,RA,simprocAttr,TF,ae,hc,m6,hcs]
  refine ⟨by apply hq;kernel_rfl,?_⟩
  rw [c9];refine ⟨fun ⟨h2,e2⟩=>?_,fun ⟨h2,e2⟩=>?_⟩
  ·have hv:dj s=s:=by unfold dj;rw [hx,decide_eq_false e2];rfl
   rw [hv]
   simp only [↓wR,RA,simprocAttr,TF,ae,h2,g8,hs]
   try rfl
  ·have e3:dw s.type c=0:=by omega
   rw [decide_eq_true e3,Bool.true_and] at hx
   simp only [↓wR,RA,simprocAttr,TF,ae,h2];repeat (simp (disch:=omega) only [ag,bf,bg,be,bb];try simp only [↓wR,RA,simprocAttr,TF,ae,h2])
   exact ⟨i+1,⟨hlt,hx⟩,by omega,by (first|rfl|trivial|omega|((try (simp (disch:=omega) only [ag]));(try (simp only [FB]));first|done|rfl|omega))⟩
 rw [fl (decide_eq_false h),List.all_nil] at hx
 have hv:dj s=Nb s.owner s.type s.cls s.ey (dg (eh s.type) s.data):=by unfold dj;rw [if_pos hx]
 have hg:∀ d ∈ s.data,rh s.type d:=fun d hdm=>⟨hd.mem d hdm,of_decide_eq_true (List.all_eq_true.1 hx d hdm)⟩
 rw [hv]
 clear hx hv
 simp only [↓wR,RA,simprocAttr,TF,ae,h]
 refine ⟨by kernel_rfl,.inl ?_⟩
 simp only [↓wR,RA,simprocAttr,TF,ae,nn,hol]
 refine ⟨by apply hq;kernel_rfl,?_⟩
 refine fj [1,2,5,4] (fun (i:Nat)=>[.ptr 0 0,.ptr 1 0,.sc (.int .i64 (i)),.ptr 2 0]) (fun i=>[some (.row [.vl false 1 (s.owner.map (aj.val false)),.sc (.int .u16 s.type.toNat),.sc (.int .u16 s.cls.toNat),.sc (.int .u32 s.ey.toNat),.vl false 4 (s.data.map (aq.val false))] 0 2 31),some (.row [.sc (.slice none 0 0),.sc (.int .u16 0),.sc (.int .u16 0),.sc (.int .u32 0),.sc (.slice none 0 0)] 0 2 31),some (.row [au.val true s.owner,.sc (.int .u16 s.type.toNat),.sc (.int .u16 s.cls.toNat),.sc (.int .u32 s.ey.toNat),.sl 3 0 (dg (eh s.type) (s.data.take i)).length 4] 0 2 31),some (.row (cellsOf aq true ((dg (eh s.type) (s.data.take i)))) 0 0 101)]) (fun i=>i≤s.data.length) (fun i=>s.data.length - i) 0 (Nat.zero_le _) (by simp only [↓wR,RA,simprocAttr,TF,ae];(refine ji.lax [] (by first|exact Nat.le_of_ble_eq_true rfl|(simp [dk];omega)) ?_ ?_<;>repeat' first|exact ef.nil|exact b9.nil|exact fe.same _|exact fe.nil _ _ _|exact fe.lu _ _|exact b9.refl _ _|apply ef.cons|apply b9.ghost|apply b9.same|apply b9.row)) ?_
 clear h hi
 intro i hi
 obtain ⟨x,hx⟩:∃ x,x=dg (eh s.type) (s.data.take i):=⟨_,rfl⟩
 rw [← hx]
 have hxl:x.length=i:=by rw [hx,ed,List.length_take];omega
 have hxm:∀ d ∈ x,rh s.type d:=fun d hdm=>hg d (List.mem_of_mem_take (ju.1 (hx ▸ hdm)))
 have hxr:iz (eh s.type) x:=by rw [hx];exact lq (oh s.type) _ (fun y hy=>hg y (List.mem_of_mem_take hy))
 simp only [↓wR,RA,simprocAttr,TF,ae]
 rw [aw];refine ⟨fun h=>?_,fun h=>?_⟩
 ·obtain ⟨c,hc,hd1,hlt⟩:=dx (decide_eq_true h)
  have hcg:=hg c (List.mem_of_getElem? hc)
  have hcs:=hcg.1
  have hce:=hcg.2
  have hsn:dg (eh s.type) (s.data.take (i+1))=j4 (eh s.type) c x:=by
   obtain ⟨hk,rfl⟩:=List.getElem?_eq_some_iff.1 hc
   rw [List.take_succ_eq_append_getElem hk,sk,← hx]
  simp only [↓wR,RA,simprocAttr,TF,ae,h]
  refine c7 [1,2,4,5,6] (fun (k:Nat)=>[.ptr 0 0,.ptr 1 0,.ptr 2 0,.sc (.int .i64 (i)),.sc (.int .i64 (k))]) (fun _=>[some (.row [.vl false 1 (s.owner.map (aj.val false)),.sc (.int .u16 s.type.toNat),.sc (.int .u16 s.cls.toNat),.sc (.int .u32 s.ey.toNat),.vl false 4 (s.data.map (aq.val false))] 0 2 31),some (.row [.sc (.slice none 0 0),.sc (.int .u16 0),.sc (.int .u16 0),.sc (.int .u32 0),.sc (.slice none 0 0)] 0 2 31),some (.row [au.val true s.owner,.sc (.int .u16 s.type.toNat),.sc (.int .u16 s.cls.toNat),.sc (.int .u32 s.ey.toNat),.sl 3 0 x.length 4] 0 2 31),some (.row (cellsOf aq true ((x))) 0 0 101)]) (fun k=>k≤x.length∧∀ y,x[k]? = some y→eh s.type c y=true) (fun k=>k) x.length ⟨Nat.le_refl _,fun y hy=>by rw [List.getElem?_eq_none (Nat.le_refl _)] at hy;cases hy⟩ (by simp only [↓wR,RA,simprocAttr,TF,ae]<;>rfl) (by simp only [↓wR,RA,simprocAttr,TF,ae]<;>rfl) ?_
  rintro k ⟨hk,hky⟩
  simp only [↓wR,RA,simprocAttr,TF,ae]
  refine ⟨by kernel_rfl,.inl ?_⟩
  have hT:(cellsOf aq true x).take ((k - 0) * 4)=cellsOf aq true (x.take k):=by rw [Nat.sub_zero];exact F2 aq true x k
  have hTl:(cellsOf aq true (x.take k)).length=k * 4:=by rw [jv,List.length_take,Nat.min_eq_left hk];rfl
  have hD:(cellsOf aq true x).drop (k * 4)=cellsOf aq true (x.drop k):=Aw aq true x k
  have hDl:(cellsOf aq true (x.drop k)).length=(x.length - k) * 4:=by rw [jv,List.length_drop];rfl
  have hDt:(cellsOf aq true (x.drop k)).take ((x.length - k) * 4)=cellsOf aq true (x.drop k):=by rw [← hDl];exact List.take_length
  have hb4:(k - 0) * 4≤x.length * 4:=by omega
  have hins:=fun h=>ax1 (x:=c) (k:=k) hcg hxm hxr hk hky h
  rw [aw];refine ⟨fun h2=>?_,fun h2=>?_⟩
  ·obtain ⟨y,hy⟩:∃ y,x[k - 1]? = some y:=⟨_,List.getElem?_eq_getElem (by omega)⟩
   have hyg:=hxm y (List.mem_of_getElem? hy)
   have hys:=hyg.1
   have hye:=hyg.2
   have e1:((k:Int) - 1).toNat=k - 1:=by omega
   have hld:=fun k st et=>ki k st et hy
   simp only [↓wR,RA,simprocAttr,TF,ae,h2,hc,e1,hld,kr,hcs,hys,hce,hye];repeat (simp (disch:=omega) only [ag,bf,bg,be,bb];try simp only [↓wR,RA,simprocAttr,TF,ae,h2,hc,e1,hld,kr,hcs,hys,hce,hye])
   rw [if_neg (by simp)]
   refine ⟨by apply hq;kernel_rfl,?_⟩
   rw [aw];refine ⟨fun h3=>?_,fun h3=>?_⟩
   ·simp only [↓wR,RA,simprocAttr,TF,ae,h3];repeat (simp (disch:=omega) only [ag,bf,bg,be,bb];try simp only [↓wR,RA,simprocAttr,TF,ae,h3])
    exact ⟨k - 1,⟨by omega,fun z hz=>by rw [hy] at hz;cases hz;unfold eh;exact decide_eq_true h3⟩,by omega,by (first|rfl|trivial|omega|((try (simp (disch:=omega) only [ag]));(try (simp only [FB]));first|done|rfl|omega))⟩
   ·have hin:=hins (fun z _ hz=>by rw [hy] at hz;cases hz;unfold eh;exact decide_eq_false h3)
    rw [hin] at hsn
    clear hins
    have hTe:(cellsOf aq true (x.take k)).isEmpty=false:=by rw [List.isEmpty_eq_false_iff_exists_mem];exact ⟨_,List.getElem_mem (n:=0) (by omega)⟩
    have hl1:k * 4 * 96≤140737488355328:=by omega
    have hcc:=(x6 true (x.take k) c).symm
    have hcl:(cellsOf aq true (x.take k++[c])).length=(k+1) * 4:=by rw [jv,List.length_append,List.length_take,Nat.min_eq_left hk];rfl
    have hct:(cellsOf aq true (x.take k++[c])).take ((k+1) * 4)=cellsOf aq true (x.take k++[c]):=by rw [← hcl];exact List.take_length
    have hj:cellsOf aq true (x.take k++[c])++cellsOf aq true (x.drop k)=cellsOf aq true (dg (eh s.type) (s.data.take (i+1))):=by rw [hsn,← xk,List.append_assoc];rfl
    have hl3:((k+1) * 4+(x.length - k) * 4) * 96≤140737488355328:=by omega
    have hsl:(dg (eh s.type) (s.data.take (i+1))).length=x.length+1:=by rw [hsn];simp;omega
    have hs5:k+1+(x.length - k) * 4 / 4=x.length+1:=by omega
    simp only [↓wR,RA,simprocAttr,TF,ae,h3,hk,hT,hTl,hTe,hb4,hl1,hc,qm,hcs,hD,hDl,hDt,hcc,hcl,hct,hj,hl3,hs5];repeat (simp (disch:=omega) only [ag,bf,bg,be,bb];try simp only [↓wR,RA,simprocAttr,TF,ae,h3,hk,hT,hTl,hTe,hb4,hl1,hc,qm,hcs,hD,hDl,hDt,hcc,hcl,hct,hj,hl3,hs5])
    exact ⟨i+1,hlt,by omega,by (first|rfl|trivial|omega|((try (simp (disch:=omega) only [ag]));(try (simp only [FB]));first|done|rfl|omega)),by rw [hsl,show k+1+(x.length - k)=x.length+1 by omega]⟩
  ·have hin:=hins (fun z hz=>by omega)
   rw [hin] at hsn
   clear hins
   simp only [↓wR,RA,simprocAttr,TF,ae,h2]
   refine ⟨by apply hq;kernel_rfl,?_⟩
   have hk0:k=0:=by omega
   subst hk0
   have hX0:(cellsOf aq true x).take ((x.length - 0) * 4)=cellsOf aq true x:=by rw [Nat.sub_zero,← show (cellsOf aq true x).length=x.length * 4 from jv aq true x];exact List.take_length
   have hXl:(cellsOf aq true x).length=x.length * 4:=jv aq true x
   have hj:AV.vl true 1 (c.names.map (au.val true))::AV.vl true 1 (c.nums.map (cw.val false))::AV.vl true 1 (c.texts.map (aj.val false))::AV.vl true 1 (c.raw.map (bu.val false))::cellsOf aq true x=cellsOf aq true (dg (eh s.type) (s.data.take (i+1))):=by rw [hsn,List.take_zero,List.nil_append,List.drop_zero,zx];rfl
   have hl3:(4+x.length * 4) * 96≤140737488355328:=by omega
   have hsl:(dg (eh s.type) (s.data.take (i+1))).length=x.length+1:=by rw [hsn];simp
   have hs5 : 1+x.length * 4 / 4=x.length+1:=by omega
   simp only [↓wR,RA,simprocAttr,TF,ae,hk,hc,qm,hcs,hX0,hXl,hj,hl3,hs5];repeat (simp (disch:=omega) only [ag,bf,bg,be,bb];try simp only [↓wR,RA,simprocAttr,TF,ae,hk,hc,qm,hcs,hX0,hXl,hj,hl3,hs5])
   exact ⟨i+1,hlt,by omega,by (first|rfl|trivial|omega|((try (simp (disch:=omega) only [ag]));(try (simp only [FB]));first|done|rfl|omega)),by rw [hsl,Nat.add_comm 1]⟩
 ·have hil:s.data.take i=s.data:=List.take_of_length_le (by omega)
  rw [hil] at hx
  have hdd:∀ fr h k st et,A9 fr st 4 aq.kd et=true→kj aq fr h 0 x.length (.row (cellsOf aq true x) k st et)=some x:=fun fr h k st et hro=>ku aq fr h true x k st et x.length rfl (by cases fr<;>rfl) hro
  rw [← hx]
  simp only [↓wR,RA,simprocAttr,TF,ae,h,hdd]
noncomputable def E1 (x:az × Unit):Option AV:=if cd x.1∧x.1.data.length≤1048576 then some ((r1 ah).E true (dj x.1)) else none
set_option maxRecDepth 2000000 in
theorem aix (x:az × Unit) (r:AV) (h:E1 x=some r):bk PP 143 ((aC ah a0).E x) r:=by
 by_cases hc:cd x.1∧x.1.data.length≤1048576
 case neg=>simp only [E1,if_neg hc] at h;cases h
 simp only [E1,if_pos hc] at h
 cases h
 exact ay (ar.cons (ak vm) (ar.cons (ak xe) (ar.cons (ak ou) (ar.cons (ak rp) (ar.cons (ak Ko) (ar.nil PP)))))) Tryz.func143 (by kernel_rfl) (by kernel_rfl) (by kernel_rfl) (Nat.le_of_ble_eq_true (by kernel_rfl)) (r1 ah) true (dj x.1) (apl x.1 hc.1 hc.2)
noncomputable abbrev azv:Nat × Bool × (List AV→M AV):=(143,true,c8 (aC ah a0) E1)
theorem apq (a b:az) (ha:cd a) (hb:cd b):wl PP [agl] 0 (Tryz.f127.body.getD .skip) (da PP Tryz.f127.results.toList (fun r st=>(r1 bo).get true st.h r=some (decide (yt a b<0)))) (cj 0 [ah.val false a,ah.val false b]) (bj []):=by
 have hna:=ha.owner
 have hnb:=hb.owner
 unfold yt zi zi zi
 unfold Tryz.f127
 simp only [fu]
 simp only [↓wR,RA,simprocAttr,TF,ae,zk,hna,hnb]
 rw [c9];refine ⟨fun ⟨h1,e1⟩=>?_,fun ⟨h1,e1⟩=>?_⟩
 ·rw [if_pos e1]
  simp only [↓wR,RA,simprocAttr,TF,ae,h1]
 rw [if_neg (by omega)]
 simp only [↓wR,RA,simprocAttr,TF,ae,h1]
 congr 1
 rw [decide_eq_decide]
 unfold ti
 repeat' split
 all_goals omega
noncomputable def Ey (x:az × az × Unit):Option AV:=if cd x.1∧cd x.2.1 then some ((r1 bo).E true (decide (yt x.1 x.2.1<0))) else none
set_option maxRecDepth 2000000 in
theorem ahr (x:az × az × Unit) (r:AV) (h:Ey x=some r):bk PP 127 ((aC ah (aC ah a0)).E x) r:=by
 by_cases hc:cd x.1∧cd x.2.1
 case neg=>simp only [Ey,if_neg hc] at h;cases h
 simp only [Ey,if_pos hc] at h
 cases h
 exact ay (ar.cons (ak K4) (ar.nil PP)) Tryz.func127 (by kernel_rfl) (by kernel_rfl) (by kernel_rfl) (Nat.le_of_ble_eq_true (by kernel_rfl)) (r1 bo) true (decide (yt x.1 x.2.1<0)) (apq x.1 x.2.1 hc.1 hc.2)
noncomputable abbrev aAy:Nat × Bool × (List AV→M AV):=(127,true,c8 (aC ah (aC ah a0)) Ey)
theorem auu (z:bp) (n:Name) (hz:bz z) (hn:bw n):wl PP [ny,wz] 0 (Tryz.f30.body.getD .skip) (da PP Tryz.f30.results.toList (fun r st=>(r1 (cq ah)).get true st.h r=some (Vo z n))) (cj 0 [br.val false z,au.val false n]) (bj []):=by
 have hlen:=hz.len
 unfold Tryz.f30
 simp only [fq,cr]
 simp only [↓wR,RA,simprocAttr,TF,ae]
 refine fj [1,2,6,5] (fun (x:Nat × List az)=>[.vl false 1 (n.map (aj.val false)),.ptr 0 0,.sc (.int .i64 (x.1)),.sl 1 0 x.2.length 5]) (fun x=>[some (.row [.vl false 1 (z.origin.map (aj.val false)),.vl false 5 (z.ai.map (ah.val false))] 0 2 41),some (.row (cellsOf ah true (x.2)) 0 0 31)]) (fun x=>x.1≤z.ai.length∧x.2++(z.ai.drop x.1).filter (fun s=>er s.owner n)=Vo z n∧x.2.length≤x.1) (fun x=>z.ai.length - x.1) (0,[]) ⟨Nat.zero_le _,rfl,Nat.le_refl _⟩ (by simp only [↓wR,RA,simprocAttr,TF,ae];(refine ji.lax [] (by first|exact Nat.le_of_ble_eq_true rfl|(simp [dk];omega)) ?_ ?_<;>repeat' first|exact ef.nil|exact b9.nil|exact fe.same _|exact fe.nil _ _ _|exact fe.lu _ _|exact b9.refl _ _|apply ef.cons|apply b9.ghost|apply b9.same|apply b9.row)) ?_
 rintro ⟨i,x⟩ ⟨hi,hx,hxl⟩
 simp only at hi hx hxl
 simp only [↓wR,RA,simprocAttr,TF,ae]
 rw [aw];refine ⟨fun h=>?_,fun h=>?_⟩
 ·obtain ⟨c,hc,hd1,hlt⟩:=dx (decide_eq_true h)
  have hcs:=hz.ai.mem c (List.mem_of_getElem? hc)
  rw [hd1,List.filter_cons] at hx
  have hlim:(x.length * 5+5) * 56≤140737488355328:=by omega
  simp only [↓wR,RA,simprocAttr,TF,ae,h,hc,oz,hcs.owner,hn]
  rw [di];refine ⟨fun h2=>?_,fun h2=>?_⟩
  ·rw [if_pos h2] at hx
   simp only [↓wR,RA,simprocAttr,TF,ae,h2,hc,g8,hcs,hlim];repeat (simp (disch:=omega) only [ag,bf,bg,be,bb];try simp only [↓wR,RA,simprocAttr,TF,ae,h2,hc,g8,hcs,hlim])
   refine ⟨(i+1,x++[c]),⟨hlt,by simpa using hx,by simp;omega⟩,by simp;omega,by (first|rfl|trivial|omega|((try (simp (disch:=omega) only [ag]));(try (simp only [FB]));first|done|rfl|omega)),?_⟩
   rw [gh]
  ·rw [if_neg (by rw [h2];decide)] at hx
   simp only [↓wR,RA,simprocAttr,TF,ae,h2];repeat (simp (disch:=omega) only [ag,bf,bg,be,bb];try simp only [↓wR,RA,simprocAttr,TF,ae,h2])
   exact ⟨(i+1,x),⟨hlt,hx,by show x.length≤i+1;omega⟩,by simp;omega,by (first|rfl|trivial|omega|((try (simp (disch:=omega) only [ag]));(try (simp only [FB]));first|done|rfl|omega)),rfl⟩
 ·rw [fl (decide_eq_false h),List.filter_nil,List.append_nil] at hx
  have hd:∀ fr h k st et,A9 fr st 5 ah.kd et=true→kj ah fr h 0 x.length (.row (cellsOf ah true x) k st et)=some x:=fun fr h k st et hro=>ku ah fr h true x k st et x.length rfl (by cases fr<;>rfl) hro
  rw [← hx]
  simp only [↓wR,RA,simprocAttr,TF,ae,h,hd]
noncomputable def Lr (x:bp × Name × Unit):Option AV:=if bz x.1∧bw x.2.1 then some ((r1 (cq ah)).E true (Vo x.1 x.2.1)) else none
set_option maxRecDepth 2000000 in
theorem ama (x:bp × Name × Unit) (r:AV) (h:Lr x=some r):bk PP 30 ((aC br (aC au a0)).E x) r:=by
 by_cases hc:bz x.1∧bw x.2.1
 case neg=>simp only [Lr,if_neg hc] at h;cases h
 simp only [Lr,if_pos hc] at h
 cases h
 exact ay (ar.cons (ak ue) (ar.cons (ak ou) (ar.nil PP))) Tryz.func30 (by kernel_rfl) (by kernel_rfl) (by kernel_rfl) (Nat.le_of_ble_eq_true (by kernel_rfl)) (r1 (cq ah)) true (Vo x.1 x.2.1) (auu x.1 x.2.1 hc.1 hc.2)
noncomputable abbrev aBx:Nat × Bool × (List AV→M AV):=(30,true,c8 (aC br (aC au a0)) Lr)
def yh (z:bp) (s:az):Bool:=decide ((s.type.toNat:Int)=2) && (gq s.owner z.origin && !er s.owner z.origin)
def Ah (z:bp):List Name:=(z.ai.filter (yh z)).map (·.owner)
theorem axa {z:bp} {l:List az} {i:Nat} {c:az} (h:l.drop i=c::l.drop (i+1)):((l.drop i).filter (yh z)).map (·.owner)=(if yh z c=true then [c.owner] else [])++((l.drop (i+1)).filter (yh z)).map (·.owner):=by
 rw [h,List.filter_cons];split<;>rfl
theorem aun (z:bp) (hz:bz z):wl PP [n9,ny,Cf] 0 (Tryz.f36.body.getD .skip) (da PP Tryz.f36.results.toList (fun r st=>(r1 (cq au)).get true st.h r=some (Ah z))) (cj 0 [br.val false z]) (bj []):=by
 have hlen:=hz.len
 have hzo:=hz.origin
 unfold Tryz.f36
 simp only [fq]
 simp only [↓wR,RA,simprocAttr,TF,ae]
 refine fj [1,4,3] (fun (x:Nat × List Name)=>[.ptr 0 0,.sc (.int .i64 (x.1)),.sl 1 0 x.2.length 1]) (fun x=>[some (.row [.vl false 1 (z.origin.map (aj.val false)),.vl false 5 (z.ai.map (ah.val false))] 0 2 41),some (.row (x.2.map (au.val true)) 0 0 24)]) (fun x=>x.1≤z.ai.length∧x.2++((z.ai.drop x.1).filter (yh z)).map (·.owner)=Ah z∧x.2.length≤x.1) (fun x=>z.ai.length - x.1) (0,[]) ⟨Nat.zero_le _,rfl,Nat.le_refl _⟩ (by simp only [↓wR,RA,simprocAttr,TF,ae];(refine ji.lax [] (by first|exact Nat.le_of_ble_eq_true rfl|(simp [dk];omega)) ?_ ?_<;>repeat' first|exact ef.nil|exact b9.nil|exact fe.same _|exact fe.nil _ _ _|exact fe.lu _ _|exact b9.refl _ _|apply ef.cons|apply b9.ghost|apply b9.same|apply b9.row)) ?_
 rintro ⟨i,x⟩ ⟨hi,hx,hxl⟩
 simp only at hi hx hxl
 simp only [↓wR,RA,simprocAttr,TF,ae]
 rw [aw];refine ⟨fun h=>?_,fun h=>?_⟩
 ·obtain ⟨c,hc,hd1,hlt⟩:=dx (decide_eq_true h)
  have hcs:=hz.ai.mem c (List.mem_of_getElem? hc)
  have hol:=yk hcs.owner
  rw [axa hd1] at hx
  have hlim:(x.length+1) * 24≤140737488355328:=by omega
  have hlim2:(x.length+1) * 16≤140737488355328:=by omega
  simp only [↓wR,RA,simprocAttr,TF,ae,h,hc]
  rw [cp];refine ⟨fun ⟨h1,e1⟩=>?_,fun ⟨h1,e1⟩=>?_⟩
  ·simp only [↓wR,RA,simprocAttr,TF,ae,h1,B6,hcs.owner,hzo]
   rw [di];refine ⟨fun h2=>?_,fun h2=>?_⟩
   ·simp only [↓wR,RA,simprocAttr,TF,ae,h2,oz,hcs.owner,hzo]
    rw [di];refine ⟨fun h3=>?_,fun h3=>?_⟩
    ·have h3':er c.owner z.origin=false:=by simpa using h3
     have hp:yh z c=true:=by simp [yh,e1,h2,h3']
     rw [if_pos hp] at hx
     simp only [↓wR,RA,simprocAttr,TF,ae,h3,nn,hol,hlim,hlim2];repeat (simp (disch:=omega) only [ag,bf,bg,be,bb];try simp only [↓wR,RA,simprocAttr,TF,ae,h3,nn,hol,hlim,hlim2])
     refine ⟨(i+1,x++[c.owner]),⟨hlt,by simpa using hx,by simp;omega⟩,by simp;omega,by (first|rfl|trivial|omega|((try (simp (disch:=omega) only [ag]));(try (simp only [FB]));first|done|rfl|omega)),by (first|rfl|trivial|omega|((try (simp (disch:=omega) only [ag]));(try (simp only [FB]));first|done|rfl|omega))⟩
    ·have h3':er c.owner z.origin=true:=by simpa using h3
     have hp:yh z c=false:=by simp [yh,h3']
     rw [hp,if_neg (by decide),List.nil_append] at hx
     simp only [↓wR,RA,simprocAttr,TF,ae,h3];repeat (simp (disch:=omega) only [ag,bf,bg,be,bb];try simp only [↓wR,RA,simprocAttr,TF,ae,h3])
     exact ⟨(i+1,x),⟨hlt,hx,by show x.length≤i+1;omega⟩,by simp;omega,by (first|rfl|trivial|omega|((try (simp (disch:=omega) only [ag]));(try (simp only [FB]));first|done|rfl|omega)),rfl⟩
   ·have hp:yh z c=false:=by simp [yh,h2]
    rw [hp,if_neg (by decide),List.nil_append] at hx
    simp only [↓wR,RA,simprocAttr,TF,ae,h2];repeat (simp (disch:=omega) only [ag,bf,bg,be,bb];try simp only [↓wR,RA,simprocAttr,TF,ae,h2])
    exact ⟨(i+1,x),⟨hlt,hx,by show x.length≤i+1;omega⟩,by simp;omega,by (first|rfl|trivial|omega|((try (simp (disch:=omega) only [ag]));(try (simp only [FB]));first|done|rfl|omega)),rfl⟩
  ·have hp:yh z c=false:=by simp [yh,e1]
   rw [hp,if_neg (by decide),List.nil_append] at hx
   simp only [↓wR,RA,simprocAttr,TF,ae,h1];repeat (simp (disch:=omega) only [ag,bf,bg,be,bb];try simp only [↓wR,RA,simprocAttr,TF,ae,h1])
   exact ⟨(i+1,x),⟨hlt,hx,by show x.length≤i+1;omega⟩,by simp;omega,by (first|rfl|trivial|omega|((try (simp (disch:=omega) only [ag]));(try (simp only [FB]));first|done|rfl|omega)),rfl⟩
 ·rw [fl (decide_eq_false h)] at hx
  have hx':x=Ah z:=by simpa using hx
  rw [← hx']
  simp only [↓wR,RA,simprocAttr,TF,ae,h]
noncomputable def Mp (x:bp × Unit):Option AV:=if bz x.1 then some ((r1 (cq au)).E true (Ah x.1)) else none
set_option maxRecDepth 2000000 in
theorem amo (x:bp × Unit) (r:AV) (h:Mp x=some r):bk PP 36 ((aC br a0).E x) r:=by
 by_cases hc:bz x.1
 case neg=>simp only [Mp,if_neg hc] at h;cases h
 simp only [Mp,if_pos hc] at h
 cases h
 exact ay (ar.cons (ak G8) (ar.cons (ak ue) (ar.cons (ak rp) (ar.nil PP)))) Tryz.func36 (by kernel_rfl) (by kernel_rfl) (by kernel_rfl) (Nat.le_of_ble_eq_true (by kernel_rfl)) (r1 (cq au)) true (Ah x.1) (aun x.1 hc)
noncomputable abbrev aBh:Nat × Bool × (List AV→M AV):=(36,true,c8 (aC br a0) Mp)
def B3 (n:Name) (best:Option Name) (m:Name):Option Name:=if (gq n m && Bk m best)=true then some m else best
theorem ao4 (n top:Name):Bp n top=(gq n top && !er n top):=by
 have e1:(fm top).length=top.length:=by simp [fm]
 have e2:(fm n).length=n.length:=by simp [fm]
 unfold Bp gq er
 by_cases hs:fm top <:+ fm n
 ·have hl:=hs.length_le
  rw [decide_eq_true hs,Bool.and_true,Bool.true_and,Bool.eq_iff_iff]
  simp only [decide_eq_true_eq,Bool.not_eq_true',decide_eq_false_iff_not]
  refine ⟨fun h q=>?_,fun h=>?_⟩
  ·have:=congrArg List.length q;omega
  ·rcases Nat.lt_or_ge top.length n.length with q|q
   ·exact q
   ·exact absurd (hs.eq_of_length (by omega)).symm h
 ·rw [decide_eq_false hs,Bool.and_false,Bool.false_and]
theorem at3 (z:bp) (n:Name) (best:Option Name) (s:az):ky z n best s=if yh z s=true then B3 n best s.owner else best:=by
 unfold ky yh B3
 rw [ao4]
 cases decide ((s.type.toNat:Int)=2)<;>cases gq s.owner z.origin<;>cases er s.owner z.origin<;>simp
theorem avc (z:bp) (n:Name):qe z n=(Ah z).foldl (B3 n) none:=by
 unfold qe Ah
 generalize (none:Option Name)=b
 induction z.ai generalizing b with
 |nil=>rfl
 |cons s l ih=>
  rw [List.foldl_cons,at3,List.filter_cons]
  split
  ·rw [List.map_cons,List.foldl_cons];exact ih _
  ·exact ih _
def Oo:Option Nat→Int
 |none=>-1
 |some k=>k
theorem an5 {z:bp} (hz:bz z):(Ah z).length≤16777216∧∀ m ∈ Ah z,bw m:=by
 unfold Ah
 refine ⟨by rw [List.length_map];exact Nat.le_trans (List.length_filter_le _ _) hz.len,fun m hm=>?_⟩
 obtain ⟨s,hs,rfl⟩:=List.mem_map.1 hm
 exact (hz.ai.mem s (List.mem_filter.1 hs).1).owner
theorem aqc {α β:Type} (f : β → α → β) (b : β) {l:List α} {i:Nat} {c : α} (h:l[i]? = some c):(l.take (i+1)).foldl f b=f ((l.take i).foldl f b) c:=by
 obtain ⟨hi,rfl⟩:=List.getElem?_eq_some_iff.1 h
 rw [List.take_succ_eq_append_getElem hi,List.foldl_append];rfl
theorem ayw (z:bp) (n:Name) (hz:bz z) (hn:bw n):wl PP [aBh,n9] 0 (Tryz.f26.body.getD .skip) (da PP Tryz.f26.results.toList (fun r st=>(r2 au bo).get true st.h r=some ((qe z n).getD [],(qe z n).isSome))) (cj 0 [br.val false z,au.val false n]) (bj []):=by
 obtain ⟨hL1,hL2⟩:=an5 hz
 rw [avc]
 obtain ⟨L,hL⟩:∃ L,L=Ah z:=⟨_,rfl⟩
 rw [← hL] at hL1 hL2 ⊢
 unfold Tryz.f26
 simp only [fq,cr]
 simp only [↓wR,RA,simprocAttr,TF,ae,Mp,hz,← hL]
 refine c7 [1,6,7,8] (fun (x:Nat × Option Nat)=>[.vl false 1 (n.map (aj.val false)),.vl true 1 (L.map (au.val true)),.sc (.int .i64 (Oo x.2)),.sc (.int .i64 (x.1))]) (fun _=>[]) (fun x=>x.1≤L.length∧(L.take x.1).foldl (B3 n) none=x.2.bind (fun k=>L[k]?)∧∀ k,x.2=some k→k<L.length) (fun x=>L.length - x.1) (0,none) ⟨Nat.zero_le _,rfl,fun k h=>by cases h⟩ (by simp only [↓wR,RA,simprocAttr,TF,ae]<;>rfl) (by simp only [↓wR,RA,simprocAttr,TF,ae]<;>rfl) ?_
 rintro ⟨i,b⟩ ⟨hi,hx,hb⟩
 simp only at hi hx hb
 simp only [↓wR,RA,simprocAttr,TF,ae]
 rw [aw];refine ⟨fun h=>?_,fun h=>?_⟩
 ·obtain ⟨c,hc,hd1,hlt⟩:=dx (decide_eq_true h)
  have hcs:=hL2 c (List.mem_of_getElem? hc)
  have hf:=aqc (B3 n) none hc
  rw [hx] at hf
  simp only [↓wR,RA,simprocAttr,TF,ae,h]
  refine ⟨by kernel_rfl,.inl ?_⟩
  simp only [↓wR,RA,simprocAttr,TF,ae,hc,B6,hn,hcs,cr]
  rw [di];refine ⟨fun h2=>?_,fun h2=>?_⟩
  ·cases b with
   |none=>
    have hv:(L.take (i+1)).foldl (B3 n) none=(some i).bind (fun k=>L[k]?):=by
     rw [hf]
     show B3 n none c=L[i]?
     unfold B3 Bk
     rw [h2,hc];rfl
    simp only [↓wR,RA,simprocAttr,TF,ae,h2,Oo];repeat (simp (disch:=omega) only [ag,bf,bg,be,bb];try simp only [↓wR,RA,simprocAttr,TF,ae,h2,Oo])
    exact ⟨by kernel_rfl,(i+1,some i),⟨hlt,hv,fun k e=>by cases e;exact hlt⟩,by simp;omega,by (first|rfl|trivial|omega|((try (simp (disch:=omega) only [ag]));(try (simp only [FB]));first|done|rfl|omega))⟩
   |some k=>
    have hk:=hb k rfl
    obtain ⟨m,hm⟩:∃ m,L[k]? = some m:=⟨_,List.getElem?_eq_getElem hk⟩
    have hf':(L.take (i+1)).foldl (B3 n) none=if c.length<m.length then some c else some m:=by
     rw [hf]
     show B3 n (L[k]?) c=_
     rw [hm]
     unfold B3 Bk
     simp only [h2,Bool.true_and,decide_eq_true_eq]
    have h0:¬ (k:Int)<0:=by omega
    rw [show Oo (some k)=(k:Int) from rfl]
    simp only [↓wR,RA,simprocAttr,TF,ae,h2,hc,hm,cr,h0];repeat (simp (disch:=omega) only [ag,bf,bg,be,bb];try simp only [↓wR,RA,simprocAttr,TF,ae,h2,hc,hm,cr,h0])
    refine ⟨by kernel_rfl,?_⟩
    rw [aw];refine ⟨fun h3=>?_,fun h3=>?_⟩
    ·rw [if_pos (by omega)] at hf'
     simp only [↓wR,RA,simprocAttr,TF,ae,h3];repeat (simp (disch:=omega) only [ag,bf,bg,be,bb];try simp only [↓wR,RA,simprocAttr,TF,ae,h3])
     exact ⟨(i+1,some i),⟨hlt,by rw [hf'];exact hc.symm,fun k e=>by cases e;exact hlt⟩,by simp;omega,by (first|rfl|trivial|omega|((try (simp (disch:=omega) only [ag]));(try (simp only [FB]));first|done|rfl|omega))⟩
    ·rw [if_neg (by omega)] at hf'
     simp only [↓wR,RA,simprocAttr,TF,ae,h3];repeat (simp (disch:=omega) only [ag,bf,bg,be,bb];try simp only [↓wR,RA,simprocAttr,TF,ae,h3])
     exact ⟨(i+1,some k),⟨hlt,by rw [hf'];exact hm.symm,hb⟩,by simp;omega,by (first|rfl|trivial|omega|((try (simp (disch:=omega) only [ag]));(try (simp only [FB]));first|done|rfl|omega))⟩
  ·have hv:(L.take (i+1)).foldl (B3 n) none=b.bind (fun k=>L[k]?):=by
    rw [hf];unfold B3;rw [h2,Bool.false_and,if_neg (by decide)]
   simp only [↓wR,RA,simprocAttr,TF,ae,h2];repeat (simp (disch:=omega) only [ag,bf,bg,be,bb];try simp only [↓wR,RA,simprocAttr,TF,ae,h2])
   exact ⟨by kernel_rfl,(i+1,b),⟨hlt,hv,hb⟩,by simp;omega,by (first|rfl|trivial|omega|((try (simp (disch:=omega) only [ag]));(try (simp only [FB]));first|done|rfl|omega))⟩
 ·have hil:L.take i=L:=List.take_of_length_le (by omega)
  rw [hil] at hx
  rw [hx]
  simp only [↓wR,RA,simprocAttr,TF,ae,h]
  cases b with
  |none=>
   simp only [↓wR,RA,simprocAttr,TF,ae,Oo]
   try rfl
  |some k=>
   have hk:=hb k rfl
   obtain ⟨m,hm⟩:∃ m,L[k]? = some m:=⟨_,List.getElem?_eq_getElem hk⟩
   rw [show Oo (some k)=(k:Int) from rfl]
   simp only [↓wR,RA,simprocAttr,TF,ae,hm]
   rw [aw];refine ⟨fun h3=>?_,fun h3=>?_⟩
   ·exfalso;omega
   simp only [↓wR,RA,simprocAttr,TF,ae,h3,hm,cr]
   try rfl
noncomputable def T6 (x:bp × Name × Unit):Option AV:=if bz x.1∧bw x.2.1 then some ((r2 au bo).E true (((qe x.1 x.2.1).getD [],(qe x.1 x.2.1).isSome))) else none
set_option maxRecDepth 2000000 in
theorem arf (x:bp × Name × Unit) (r:AV) (h:T6 x=some r):bk PP 26 ((aC br (aC au a0)).E x) r:=by
 by_cases hc:bz x.1∧bw x.2.1
 case neg=>simp only [T6,if_neg hc] at h;cases h
 simp only [T6,if_pos hc] at h
 cases h
 exact ay (ar.cons (ak amo) (ar.cons (ak G8) (ar.nil PP))) Tryz.func26 (by kernel_rfl) (by kernel_rfl) (by kernel_rfl) (Nat.le_of_ble_eq_true (by kernel_rfl)) (r2 au bo) true (((qe x.1 x.2.1).getD [],(qe x.1 x.2.1).isSome)) (ayw x.1 x.2.1 hc.1 hc.2)
noncomputable abbrev aCg:Nat × Bool × (List AV→M AV):=(26,true,c8 (aC br (aC au a0)) T6)
def mr (z:bp) (s:az):Bool:=decide ((s.type.toNat:Int)=5) && (decide ((s.data.length:Int)≠1) || (er s.owner z.origin || decide ((1:Int)<(Vo z s.owner).length)))
theorem arp (z:bp) (s:az) (hz:bz z) (hs:cd s):wl PP [ny,aBx] 0 (Tryz.f129.body.getD .skip) (da PP Tryz.f129.results.toList (fun r st=>(r1 bo).get true st.h r=some (mr z s))) (cj 0 [br.val false z,ah.val false s]) (bj []):=by
 have hso:=hs.owner
 have hzo:=hz.origin
 unfold mr
 unfold Tryz.f129
 simp only [fq,fu]
 simp only [↓wR,RA,simprocAttr,TF,ae]
 rw [cp];refine ⟨fun ⟨h1,e1⟩=>?_,fun ⟨h1,e1⟩=>?_⟩
 ·rw [decide_eq_true e1,Bool.true_and]
  simp only [↓wR,RA,simprocAttr,TF,ae,h1]
  rw [c9];refine ⟨fun ⟨h2,e2⟩=>?_,fun ⟨h2,e2⟩=>?_⟩
  ·rw [decide_eq_true e2,Bool.true_or]
   simp only [↓wR,RA,simprocAttr,TF,ae,h2]
   try rfl
  ·rw [decide_eq_false (by omega),Bool.false_or]
   simp only [↓wR,RA,simprocAttr,TF,ae,h2,oz,hso,hzo]
   rw [di];refine ⟨fun h3=>?_,fun h3=>?_⟩
   ·rw [h3,Bool.true_or]
    simp only [↓wR,RA,simprocAttr,TF,ae,h3]
    try rfl
   ·rw [h3,Bool.false_or]
    simp only [↓wR,RA,simprocAttr,TF,ae,h3,Lr,hz,hso]
    try rfl
 ·rw [decide_eq_false e1,Bool.false_and]
  simp only [↓wR,RA,simprocAttr,TF,ae,h1]
  try rfl
noncomputable def Ic (x:bp × az × Unit):Option AV:=if bz x.1∧cd x.2.1 then some ((r1 bo).E true (mr x.1 x.2.1)) else none
set_option maxRecDepth 2000000 in
theorem air (x:bp × az × Unit) (r:AV) (h:Ic x=some r):bk PP 129 ((aC br (aC ah a0)).E x) r:=by
 by_cases hc:bz x.1∧cd x.2.1
 case neg=>simp only [Ic,if_neg hc] at h;cases h
 simp only [Ic,if_pos hc] at h
 cases h
 exact ay (ar.cons (ak ue) (ar.cons (ak ama) (ar.nil PP))) Tryz.func129 (by kernel_rfl) (by kernel_rfl) (by kernel_rfl) (Nat.le_of_ble_eq_true (by kernel_rfl)) (r1 bo) true (mr x.1 x.2.1) (arp x.1 x.2.1 hc.1 hc.2)
noncomputable abbrev p0:Nat × Bool × (List AV→M AV):=(129,true,c8 (aC br (aC ah a0)) Ic)
theorem als {z:bp} {n m:Name} (hz:bz z) (h:qe z n=some m):bw m:=Zl (n:=n) hz z.ai none (fun _ h=>h) (fun m hm=>by cases hm) m h
theorem amr (a b:Name):er a b=er b a:=by unfold er;rw [decide_eq_decide];exact eq_comm
theorem ada (z:bp) (s:az) (hz:bz z) (hs:cd s):wl PP [aCg,ny] 0 (Tryz.f130.body.getD .skip) (da PP Tryz.f130.results.toList (fun r st=>(r1 bo).get true st.h r=some (!mc z s))) (cj 0 [br.val false z,ah.val false s]) (bj []):=by
 have hso:=hs.owner
 unfold mc
 unfold Tryz.f130
 simp only [fq,fu]
 simp only [↓wR,RA,simprocAttr,TF,ae,T6,hz,hso]
 cases hc:qe z s.owner with
 |none=>
  simp only [↓wR,RA,simprocAttr,TF,ae,Option.isSome_none,Option.getD_none]
  try rfl
 |some c=>
  have hcs:=als hz hc
  simp only [↓wR,RA,simprocAttr,TF,ae,Option.isSome_some,Option.getD_some]
  rw [cp];refine ⟨fun ⟨h1,e1⟩=>?_,fun ⟨h1,e1⟩=>?_⟩
  ·rw [if_pos e1]
   simp only [↓wR,RA,simprocAttr,TF,ae,h1]
   try rfl
  rw [if_neg e1]
  simp only [↓wR,RA,simprocAttr,TF,ae,h1]
  rw [cp];refine ⟨fun ⟨h2,e2⟩=>?_,fun ⟨h2,e2⟩=>?_⟩
  ·rw [if_pos e2]
   simp only [↓wR,RA,simprocAttr,TF,ae,h2]
   try rfl
  rw [if_neg e2]
  simp only [↓wR,RA,simprocAttr,TF,ae,h2]
  rw [c9];refine ⟨fun ⟨h3,e3⟩=>?_,fun ⟨h3,e3⟩=>?_⟩
  ·rw [if_neg e3]
   simp only [↓wR,RA,simprocAttr,TF,ae,h3]
   try rfl
  rw [if_pos (by omega),amr]
  simp only [↓wR,RA,simprocAttr,TF,ae,h3,cr,oz,hso,hcs]
  try rfl
noncomputable def A5 (x:bp × az × Unit):Option AV:=if bz x.1∧cd x.2.1 then some ((r1 bo).E true ((!mc x.1 x.2.1))) else none
set_option maxRecDepth 2000000 in
theorem W0 (x:bp × az × Unit) (r:AV) (h:A5 x=some r):bk PP 130 ((aC br (aC ah a0)).E x) r:=by
 by_cases hc:bz x.1∧cd x.2.1
 case neg=>simp only [A5,if_neg hc] at h;cases h
 simp only [A5,if_pos hc] at h
 cases h
 exact ay (ar.cons (ak arf) (ar.cons (ak ue) (ar.nil PP))) Tryz.func130 (by kernel_rfl) (by kernel_rfl) (by kernel_rfl) (Nat.le_of_ble_eq_true (by kernel_rfl)) (r1 bo) true ((!mc x.1 x.2.1)) (ada x.1 x.2.1 hc.1 hc.2)
noncomputable abbrev kz:Nat × Bool × (List AV→M AV):=(130,true,c8 (aC br (aC ah a0)) A5)
def allI (p:Nat→az→Bool):Nat→List az→Bool
 |_,[]=>true
 |i,s::r=>p i s && allI p (i+1) r
theorem ay4 {p:Nat→az→Bool} {l:List az} {i:Nat} {c:az} (h:l.drop i=c::l.drop (i+1)) (k:Nat):allI p k (l.drop i)=(p k c && allI p (k+1) (l.drop (i+1))):=by rw [h];rfl
noncomputable def okZ (z:bp):Bool:=z.ai.all fun s=>s.data.all fun d=>decide (dw s.type d=0)
theorem ai6 (z:bp) (hz:bz z) (hok:okZ z=true):wl PP [aAy,Ft] 0 (Tryz.f87.body.getD .skip) (da PP Tryz.f87.results.toList (fun r st=>(r1 bo).get true st.h r=some (allI (g9 z) 0 z.ai))) (cj 0 [br.val false z]) (bj []):=by
 have hlen:=hz.len
 unfold Tryz.f87
 simp only [fq]
 simp only [↓wR,RA,simprocAttr,TF,ae]
 refine c7 [1,3] (fun (i:Nat)=>[.ptr 0 0,.sc (.int .i64 (i))]) (fun _=>[some (.row [.vl false 1 (z.origin.map (aj.val false)),.vl false 5 (z.ai.map (ah.val false))] 0 2 41)]) (fun i=>i≤z.ai.length∧allI (g9 z) 0 z.ai=allI (g9 z) i (z.ai.drop i)) (fun i=>z.ai.length - i) 0 ⟨Nat.zero_le _,rfl⟩ (by simp only [↓wR,RA,simprocAttr,TF,ae]<;>rfl) (by simp only [↓wR,RA,simprocAttr,TF,ae]<;>rfl) ?_
 rintro i ⟨hi,hx⟩
 simp only [↓wR,RA,simprocAttr,TF,ae]
 rw [aw];refine ⟨fun h=>?_,fun h=>?_⟩
 ·obtain ⟨c,hc,hd1,hlt⟩:=dx (decide_eq_true h)
  have hcs:=hz.ai.mem c (List.mem_of_getElem? hc)
  have hce:=List.all_eq_true.1 (List.all_eq_true.1 hok c (List.mem_of_getElem? hc))
  have hdl:=hcs.data.len
  rw [ay4 hd1] at hx
  simp only [↓wR,RA,simprocAttr,TF,ae,h,hc]
  refine ⟨by kernel_rfl,.inl ?_⟩
  rw [aw];refine ⟨fun h1=>?_,fun h1=>?_⟩
  ·cases i with
   |zero=>omega
   |succ j=>
   obtain ⟨a,ha⟩:∃ a,z.ai[j]? = some a:=⟨_,List.getElem?_eq_getElem (by omega)⟩
   have has:=hz.set a (List.mem_of_getElem? ha)
   simp only [↓wR,RA,simprocAttr,TF,ae,h1,ha,hc,Int.natCast_add,Int.add_sub_cancel,Ey,has,hcs];repeat (simp (disch:=omega) only [ag,bf,bg,be,bb];try simp only [↓wR,RA,simprocAttr,TF,ae,h1,ha,hc,Int.natCast_add,Int.add_sub_cancel,Ey,has,hcs])
   refine ⟨by kernel_rfl,?_⟩
   rw [di];refine ⟨fun h2=>?_,fun h2=>?_⟩
   ·simp only [Bool.not_eq_true',decide_eq_false_iff_not] at h2
    have hv:g9 z (j+1) c=false:=by simp only [g9,ha];simp;omega
    rw [hv,Bool.false_and] at hx
    rw [hx]
    simp only [↓wR,RA,simprocAttr,TF,ae,h2]
    try rfl
   ·simp only [Bool.not_eq_false',decide_eq_true_eq] at h2
    have hv:g9 z (j+1) c=o8 c.type c.data:=by simp only [g9,ha];simp [h2]
    rw [hv] at hx
    simp only [↓wR,RA,simprocAttr,TF,ae,h2,decide_true,Bool.not_true]
    refine c7 [1,3,4,5] (fun (k:Nat)=>[.ptr 0 0,.sc (.int .i64 ((j:Int)+1)),.ptr 1 0,.sc (.int .i64 ((k:Int)+1))]) (fun _=>[some (.row [.vl false 1 (z.origin.map (aj.val false)),.vl false 5 (z.ai.map (ah.val false))] 0 2 41),some (.row [.vl false 1 (c.owner.map (aj.val false)),.sc (.int .u16 c.type.toNat),.sc (.int .u16 c.cls.toNat),.sc (.int .u32 c.ey.toNat),.vl false 4 (c.data.map (aq.val false))] 0 2 31)]) (fun k=>(k=0∨k+1≤c.data.length)∧o8 c.type c.data=o8 c.type (c.data.drop k)) (fun k=>c.data.length - k) 0 ⟨.inl rfl,rfl⟩ (by simp only [↓wR,RA,simprocAttr,TF,ae]<;>rfl) (by simp only [↓wR,RA,simprocAttr,TF,ae]<;>rfl) ?_
    rintro k ⟨hk,hy⟩
    simp only [↓wR,RA,simprocAttr,TF,ae]
    rw [aw];refine ⟨fun h5=>?_,fun h5=>?_⟩
    ·obtain ⟨a,ha⟩:∃ a,c.data[k]? = some a:=⟨_,List.getElem?_eq_getElem (by omega)⟩
     obtain ⟨b,hb⟩:∃ b,c.data[k+1]? = some b:=⟨_,List.getElem?_eq_getElem (by omega)⟩
     have has:=hcs.data.mem a (List.mem_of_getElem? ha)
     have hbs:=hcs.data.mem b (List.mem_of_getElem? hb)
     have hae:=of_decide_eq_true (hce a (List.mem_of_getElem? ha))
     have hbe:=of_decide_eq_true (hce b (List.mem_of_getElem? hb))
     rw [Gd _ ha hb] at hy
     simp only [↓wR,RA,simprocAttr,TF,ae,h5]
     refine ⟨by kernel_rfl,.inl ?_⟩
     simp only [↓wR,RA,simprocAttr,TF,ae,ha,hb,Int.add_sub_cancel,rr,yx,kr,has,hbs,hae,hbe];repeat (simp (disch:=omega) only [ag,bf,bg,be,bb];try simp only [↓wR,RA,simprocAttr,TF,ae,ha,hb,Int.add_sub_cancel,rr,yx,kr,has,hbs,hae,hbe])
     rw [if_neg (by simp)]
     refine ⟨by kernel_rfl,?_⟩
     rw [aw];refine ⟨fun h6=>?_,fun h6=>?_⟩
     ·rw [if_pos h6] at hy
      rw [hy,Bool.false_and] at hx
      rw [hx]
      simp only [↓wR,RA,simprocAttr,TF,ae,h6]
      try rfl
     ·rw [if_neg h6] at hy
      simp only [↓wR,RA,simprocAttr,TF,ae,h6];repeat (simp (disch:=omega) only [ag,bf,bg,be,bb];try simp only [↓wR,RA,simprocAttr,TF,ae,h6])
      exact ⟨k+1,⟨.inr (by omega),hy⟩,by omega,by (first|rfl|trivial|omega|((try (simp (disch:=omega) only [ag]));(try (simp only [FB]));first|done|rfl|omega))⟩
    ·rw [Em _ (by omega)] at hy
     rw [hy,Bool.true_and] at hx
     simp only [↓wR,RA,simprocAttr,TF,ae,h5]
     refine ⟨j+1+1,⟨hlt,hx⟩,by omega,by (first|rfl|trivial|omega|((try (simp (disch:=omega) only [ag]));(try (simp only [FB]));first|done|rfl|omega))⟩
  ·have hi0:i=0:=by omega
   have hv:g9 z i c=o8 c.type c.data:=by rw [hi0];simp [g9]
   rw [hv] at hx
   simp only [↓wR,RA,simprocAttr,TF,ae,h1]
   refine ⟨by kernel_rfl,?_⟩
   refine c7 [1,3,4,5] (fun (k:Nat)=>[.ptr 0 0,.sc (.int .i64 (i)),.ptr 1 0,.sc (.int .i64 ((k:Int)+1))]) (fun _=>[some (.row [.vl false 1 (z.origin.map (aj.val false)),.vl false 5 (z.ai.map (ah.val false))] 0 2 41),some (.row [.vl false 1 (c.owner.map (aj.val false)),.sc (.int .u16 c.type.toNat),.sc (.int .u16 c.cls.toNat),.sc (.int .u32 c.ey.toNat),.vl false 4 (c.data.map (aq.val false))] 0 2 31)]) (fun k=>(k=0∨k+1≤c.data.length)∧o8 c.type c.data=o8 c.type (c.data.drop k)) (fun k=>c.data.length - k) 0 ⟨.inl rfl,rfl⟩ (by simp only [↓wR,RA,simprocAttr,TF,ae]<;>rfl) (by simp only [↓wR,RA,simprocAttr,TF,ae]<;>rfl) ?_
   rintro k ⟨hk,hy⟩
   simp only [↓wR,RA,simprocAttr,TF,ae]
   rw [aw];refine ⟨fun h5=>?_,fun h5=>?_⟩
   ·obtain ⟨a,ha⟩:∃ a,c.data[k]? = some a:=⟨_,List.getElem?_eq_getElem (by omega)⟩
    obtain ⟨b,hb⟩:∃ b,c.data[k+1]? = some b:=⟨_,List.getElem?_eq_getElem (by omega)⟩
    have has:=hcs.data.mem a (List.mem_of_getElem? ha)
    have hbs:=hcs.data.mem b (List.mem_of_getElem? hb)
    have hae:=of_decide_eq_true (hce a (List.mem_of_getElem? ha))
    have hbe:=of_decide_eq_true (hce b (List.mem_of_getElem? hb))
    rw [Gd _ ha hb] at hy
    simp only [↓wR,RA,simprocAttr,TF,ae,h5]
    refine ⟨by kernel_rfl,.inl ?_⟩
    simp only [↓wR,RA,simprocAttr,TF,ae,ha,hb,Int.add_sub_cancel,rr,yx,kr,has,hbs,hae,hbe];repeat (simp (disch:=omega) only [ag,bf,bg,be,bb];try simp only [↓wR,RA,simprocAttr,TF,ae,ha,hb,Int.add_sub_cancel,rr,yx,kr,has,hbs,hae,hbe])
    rw [if_neg (by simp)]
    refine ⟨by kernel_rfl,?_⟩
    rw [aw];refine ⟨fun h6=>?_,fun h6=>?_⟩
    ·rw [if_pos h6] at hy
     rw [hy,Bool.false_and] at hx
     rw [hx]
     simp only [↓wR,RA,simprocAttr,TF,ae,h6]
     try rfl
    ·rw [if_neg h6] at hy
     simp only [↓wR,RA,simprocAttr,TF,ae,h6];repeat (simp (disch:=omega) only [ag,bf,bg,be,bb];try simp only [↓wR,RA,simprocAttr,TF,ae,h6])
     exact ⟨k+1,⟨.inr (by omega),hy⟩,by omega,by (first|rfl|trivial|omega|((try (simp (disch:=omega) only [ag]));(try (simp only [FB]));first|done|rfl|omega))⟩
   ·rw [Em _ (by omega)] at hy
    rw [hy,Bool.true_and] at hx
    simp only [↓wR,RA,simprocAttr,TF,ae,h5]
    refine ⟨i+1,⟨hlt,hx⟩,by omega,by (first|rfl|trivial|omega|((try (simp (disch:=omega) only [ag]));(try (simp only [FB]));first|done|rfl|omega))⟩
 ·rw [fl (decide_eq_false h)] at hx
  rw [hx]
  simp only [↓wR,RA,simprocAttr,TF,ae,h]
  try rfl
noncomputable def Dd (x:bp × Unit):Option AV:=if bz x.1∧okZ x.1=true then some ((r1 bo).E true (allI (g9 x.1) 0 x.1.ai)) else none
set_option maxRecDepth 2000000 in
theorem aay (x:bp × Unit) (r:AV) (h:Dd x=some r):bk PP 87 ((aC br a0).E x) r:=by
 by_cases hc:bz x.1∧okZ x.1=true
 case neg=>simp only [Dd,if_neg hc] at h;cases h
 simp only [Dd,if_pos hc] at h
 cases h
 exact ay (ar.cons (ak ahr) (ar.cons (ak xe) (ar.nil PP))) Tryz.func87 (by kernel_rfl) (by kernel_rfl) (by kernel_rfl) (Nat.le_of_ble_eq_true (by kernel_rfl)) (r1 bo) true (allI (g9 x.1) 0 x.1.ai) (ai6 x.1 hc.1 hc.2)
noncomputable abbrev avt:Nat × Bool × (List AV→M AV):=(87,true,c8 (aC br a0) Dd)
end Go.Proofs.YtgencolcibpcaaaGreat
end
namespace Go.Vm
variable [TK]
noncomputable section
def SW (P:Program) (nt:NT) (c:Code) (Q:QL) (L:SL) (st:St):Prop:=
 ∀ (N:Nat) (B:fv) (g:Gh) (a:Act) (w:World),B.mw→B.a9=0→B.n0≤B.w.heap.size→lf B nt L st g a w→c.wpIn (i9 none) N P (Fin B nt Q) a w
def uk (keep:List Nat) (V:List AV) (O:List (Option bq)):QL:=fun e L st=>
 match e with
 |.normal=>dj 0 keep L st=V∧fp 0 keep L st=O
 |_=>False
theorem fk {keep V O L st}:uk keep V O .normal L st=(dj 0 keep L st=V∧fp 0 keep L st=O):=rfl
variable {P : Program} [KP P] {nt : NT} {Q : QL} {L : SL} {st : St}
theorem Un {T:ff} (hT:ar P T) (hm:P.follows .mixedOrders=true) {c:Code} (hs:ek nt c=true) (h:wl P T 0 c Q L st):SW P nt c Q L st:=by
 intro N B g a w hnf hp hn0 hh
 refine wpIn_mono (piece hT hm (N:=N) hnf (by omega) hn0 hs (by rw [hp];exact h) hh) ?_
 rintro ex a' w' ⟨e,L',st',g',rfl,hq,hh',_⟩
 exact ⟨e,L',st',g',rfl,hq,hh'.cur,hh'.sl,hh'.Is⟩
theorem Iu {c:Code} {Q':QL} (hq:∀ e L st,Q e L st→Q' e L st) (h:SW P nt c Q L st):SW P nt c Q' L st:=by
 intro N B g a w hnf hp hn0 hh
 refine wpIn_mono (h N B g a w hnf hp hn0 hh) ?_
 rintro ex a' w' ⟨e,L',st',g',rfl,h0,h1,h2,h3⟩
 exact ⟨e,L',st',g',rfl,hq _ _ _ h0,h1,h2,h3⟩
theorem Ma {x y:Code} (h:SW P nt x (Hf (SW P nt y) Q) L st):SW P nt (.seq x y) Q L st:=by
 intro N B g a w hnf hp hn0 hh
 refine wpIn_seq (wpIn_mono (h N B g a w hnf hp hn0 hh) ?_)
 rintro ex a' w' ⟨e,L',st',g',rfl,hq,h1,h2,h3⟩
 cases e with
 |normal=>exact hq N B g' a' w' hnf hp hn0 ⟨h1,h2,h3⟩
 |ret=>exact ⟨.ret,L',st',g',rfl,hq,h1,h2,h3⟩
 |exit id=>exact ⟨.exit id,L',st',g',rfl,hq,h1,h2,h3⟩
theorem ab6 {id:Nat} {c:Code} (h:SW P nt c (J1 id Q) L st):SW P nt (.block id c) Q L st:=by
 intro N B g a w hnf hp hn0 hh
 refine wpIn_block (wpIn_mono (h N B g a w hnf hp hn0 hh) ?_)
 rintro ex a' w' ⟨e,L',st',g',rfl,hq,h1,h2,h3⟩
 cases e with
 |normal=>exact ⟨.normal,L',st',g',rfl,hq,h1,h2,h3⟩
 |ret=>exact ⟨.ret,L',st',g',rfl,hq,h1,h2,h3⟩
 |exit j=>
  simp only [J1] at hq
  by_cases e:j=id
  ·subst e
   simp only [Nat.beq_refl,cond_true] at hq
   simp only [rq,Exit.inBlock,if_true]
   exact ⟨.normal,L',st',g',rfl,hq,h1,h2,h3⟩
  ·rw [qa e,cond_false] at hq
   simp only [rq,Exit.inBlock,if_neg e]
   exact ⟨.exit j,L',st',g',rfl,hq,h1,h2,h3⟩
theorem H5 {c:Code} (keep:List Nat) (V:List AV) (O:List (Option bq)) (hv:ji 0 (dj 0 keep L st) (fp 0 keep L st) V O) (h:SW P nt c Q (i4 keep V) (bj O)):SW P nt c Q L st:=by
 intro N B g a w hnf hp hn0 hh
 obtain ⟨V',O',g1,⟨rfl,rfl⟩,k1,k2,k3,_⟩:=Ow (X:=fun vs os=>vs=V∧os=O) hnf (by omega) keep (by rw [hp];exact ⟨_,_,hv,rfl,rfl⟩) hh.cur hh.sl
 exact h N B g1 a w hnf hp hn0 ⟨k1,k2,k3 _ _ _ (Cn (by omega) keep hh.Is)⟩
theorem zm {T:ff} (hT:ar P T) (hm:P.follows .mixedOrders=true) {x y:Code} (keep:List Nat) (V:List AV) (O:List (Option bq)) (hs:ek nt x=true) (h:wl P T 0 x (uk keep V O) L st) (k:SW P nt y Q (i4 keep V) (bj O)):SW P nt (.seq x y) Q L st:=by
 refine Ma (Iu ?_ (Un hT hm hs h))
 intro e L' st' hq
 cases e with
 |normal=>exact H5 keep V O (by rw [hq.1,hq.2];exact ji.refl _ _ _) k
 |ret=>exact hq.elim
 |exit id=>exact hq.elim
theorem asc {T:ff} (hT:ar P T) (hm:P.follows .mixedOrders=true) {x:Code} (keep:List Nat) (V:List AV) (O:List (Option bq)) (hs:ek nt x=true) (h:wl P T 0 x (uk keep V O) L st) (k:∀ L st,dj 0 keep L st=V→fp 0 keep L st=O→Q .normal L st):SW P nt x Q L st:=by
 refine Iu ?_ (Un hT hm hs h)
 intro e L' st' hq
 cases e with
 |normal=>exact k L' st' hq.1 hq.2
 |ret=>exact hq.elim
 |exit id=>exact hq.elim
theorem ayu {c:Code} {α:Type} (keep:List Nat) (V : α→List AV) (O : α→List (Option bq)) (I : α→Prop) (μ : α→Nat) (x : α) (hx:I x)
 (hv:ji 0 (dj 0 keep L st) (fp 0 keep L st) (V x) (O x))
 (step:∀ x,I x→SW P nt c (wy 0 keep (fun vs os=>∃ y,I y ∧ μ y < μ x∧vs=V y∧os=O y) Q) (i4 keep (V x)) (bj (O x))):SW P nt (.loop c) Q L st:=by
 refine H5 keep (V x) (O x) hv ?_
 intro N B g a w hnf hp hn0 hh
 refine anh (fun x a w=>I x∧∃ g,lf B nt (i4 keep (V x)) (bj (O x)) g a w) μ ?_ x a w ⟨hx,g,hh⟩
 rintro x a w ⟨hi,g,hh⟩
 refine wpIn_mono (step x hi N B g a w hnf hp hn0 hh) ?_
 rintro ex a' w' ⟨e,L',st',g',rfl,hq,h1,h2,h3⟩
 cases e with
 |normal=>
  obtain ⟨y,hy,hlt,e1,e2⟩:=hq
  have hc:=lf.canon hnf (by omega) keep (⟨h1,h2,h3⟩:lf B nt L' st' g' a' w')
  rw [hp,e1,e2] at hc
  exact ⟨y,hlt,hy,_,hc⟩
 |ret=>exact ⟨.ret,L',st',g',rfl,hq,h1,h2,h3⟩
 |exit id=>exact ⟨.exit id,L',st',g',rfl,hq,h1,h2,h3⟩
def alx (k:Nat) (keep:List Nat) (V:List AV) (O:List (Option bq)):QL:=fun e L st=>
 match e with
 |.exit j=>j=k∧dj 0 keep L st=V∧fp 0 keep L st=O
 |_=>False
theorem axx {k keep V O L st j}:alx k keep V O (.exit j) L st=(j=k∧dj 0 keep L st=V∧fp 0 keep L st=O):=rfl
theorem asn {T:ff} (hT:ar P T) (hm:P.follows .mixedOrders=true) (n:Nat) {c:Code} (hsp:Ly (n+1) c=true) (hs:ek nt c=true) (h:wl P T 0 (n5 (n+1) c) (Hf (SW P nt (jx (n+1) c)) Q) L st):SW P nt c Q L st:=by
 intro N B g a w hnf hp hn0 hh
 refine M4 hT hm (N:=N) hnf (by omega) hn0 n c hsp hs (X:=Fin B nt Q) (Q:=Hf (SW P nt (jx (n+1) c)) Q) ?_ L st g a w (by rw [hp];exact h) hh
 intro e L' st' g' a' w' hq hh'
 cases e with
 |normal=>exact hq N B g' a' w' hnf hp hn0 hh'
 |ret=>exact ⟨.ret,L',st',g',rfl,hq,hh'.cur,hh'.sl,hh'.Is⟩
 |exit id=>exact ⟨.exit id,L',st',g',rfl,hq,hh'.cur,hh'.sl,hh'.Is⟩
theorem Wy {f:Nat} {fn:Func} {body:Code} (hf:P.funcs[f]? = some fn) (hb:fn.body=some body) (he:po P f=true) {args:List AV} (hl:args.length≤fn.ntmps) {ρ:Type} (R:RC ρ) (fr:Bool) (x : ρ)
 (h:SW P fn.ntmps body (da P fn.results.toList (fun r st=>R.get fr st.h r=some x)) (cj 0 args) (bj [])):bk P f args (R.E fr x):=
 Fc hf hb he hl R fr x (fun B g a w hnf hp _ hn0 hh=>h 0 B g a w hnf hp hn0 hh)
end
end Go.Vm
section
namespace Go.Proofs.YtgencolcibpcaaaGreat
open Go.Vm
set_option maxRecDepth 2000000
noncomputable def og:Code:=match Tryz.f88.body.getD .skip with
 |.seq _ (.seq _ (.seq _ (.seq _ (.seq (.seq _ (.block _ (.loop b))) _))))=>b
 |_=>.skip
noncomputable def l7:Code:=match og with
 |.seq _ (.seq (.block _ b) _)=>b
 |_=>.skip
noncomputable def ar1:Code:=n5 4 (Tryz.f88.body.getD .skip)
noncomputable def W7:Code:=match Tryz.f88.body.getD .skip with
 |.seq _ (.seq _ (.seq _ (.seq _ (.seq (.seq a _) _))))=>a
 |_=>.skip
theorem asr (z:bp):wl PP [ny,n9,p0,kz] 0 ar1 (Ga (fun L st=>wl PP [ny,n9,p0,kz] 0 W7 (uk [1,3,4,5,6] [.ptr 0 0,.sl 1 0 7 1,.sc (.int .i64 (0)),.sc (.bool false),.sc (.int .i64 (0))] [some (.row [.vl false 1 (z.origin.map (aj.val false)),.vl false 5 (z.ai.map (ah.val false))] 0 2 41),some (.row [.sc (.bool false),.sc (.bool false),.sc (.bool false),.sc (.bool false),.sc (.bool false),.sc (.bool false),.sc (.bool false)] 0 0 4)]) L st) noQ) (cj 0 [br.val false z]) (bj []):=by
 unfold ar1 W7 Tryz.f88
 simp only [fq]
 simp only [↓wR,RA,simprocAttr,TF,ae,pr,j7,tl,fk]
noncomputable def Xi:Code:=n5 1 (jx 2 l7)
noncomputable def V6:Code:=n5 1 (jx 3 l7)
noncomputable def Xh:Code:=n5 1 (jx 4 l7)
noncomputable def Xk:Code:=n5 1 (jx 5 l7)
noncomputable def Wn:Code:=n5 1 (jx 6 l7)
noncomputable def V5:Code:=n5 1 (jx 7 l7)
noncomputable def Wb:Code:=jx 8 l7
noncomputable def akw:Code:=n5 2 l7
theorem avl (z:bp) (s:az) (i m:Nat) (p a b c d e f:Bool) (hz:bz z) (hs:cd s) (hi:z.ai[i]? = some s):wl PP [ny,n9,p0,kz] 0 akw (uk [1,3,4,5,6,7,8] [.ptr 0 0,.sl 1 0 7 1,.sc (.int .i64 (m)),.sc (.bool p),.sc (.int .i64 (i)),.ptr 2 0,.sc (.bool (er s.owner z.origin))] [some (.row [.vl false 1 (z.origin.map (aj.val false)),.vl false 5 (z.ai.map (ah.val false))] 0 2 41),some (.row [.sc (.bool a),.sc (.bool b),.sc (.bool c),.sc (.bool false),.sc (.bool d),.sc (.bool e),.sc (.bool f)] 0 0 4),some (.row [.vl false 1 (s.owner.map (aj.val false)),.sc (.int .u16 s.type.toNat),.sc (.int .u16 s.cls.toNat),.sc (.int .u32 s.ey.toNat),.vl false 4 (s.data.map (aq.val false))] 0 2 31)]) (i4 [1,3,4,5,6] [.ptr 0 0,.sl 1 0 7 1,.sc (.int .i64 (m)),.sc (.bool p),.sc (.int .i64 (i))]) (bj [some (.row [.vl false 1 (z.origin.map (aj.val false)),.vl false 5 (z.ai.map (ah.val false))] 0 2 41),some (.row [.sc (.bool a),.sc (.bool b),.sc (.bool c),.sc (.bool false),.sc (.bool d),.sc (.bool e),.sc (.bool f)] 0 0 4)]):=by
 have hlen:=hz.len
 have hlt:=(List.getElem?_eq_some_iff.1 hi).1
 unfold akw l7 og Tryz.f88
 simp only [↓wR,RA,simprocAttr,TF,ae,pr,j7,fk,hi,oz,hs.owner,hz.origin]
theorem as8 (z:bp) (s:az) (i m:Nat) (p t a b c d e f:Bool) (a':Bool) (hz:bz z) (hs:cd s) (hq:a'=(a || !kq s)):wl PP [ny,n9,p0,kz] 0 Xi (uk [1,3,4,5,6,7,8] [.ptr 0 0,.sl 1 0 7 1,.sc (.int .i64 (m)),.sc (.bool p),.sc (.int .i64 (i)),.ptr 2 0,.sc (.bool t)] [some (.row [.vl false 1 (z.origin.map (aj.val false)),.vl false 5 (z.ai.map (ah.val false))] 0 2 41),some (.row [.sc (.bool a'),.sc (.bool b),.sc (.bool c),.sc (.bool false),.sc (.bool d),.sc (.bool e),.sc (.bool f)] 0 0 4),some (.row [.vl false 1 (s.owner.map (aj.val false)),.sc (.int .u16 s.type.toNat),.sc (.int .u16 s.cls.toNat),.sc (.int .u32 s.ey.toNat),.vl false 4 (s.data.map (aq.val false))] 0 2 31)]) (i4 [1,3,4,5,6,7,8] [.ptr 0 0,.sl 1 0 7 1,.sc (.int .i64 (m)),.sc (.bool p),.sc (.int .i64 (i)),.ptr 2 0,.sc (.bool t)]) (bj [some (.row [.vl false 1 (z.origin.map (aj.val false)),.vl false 5 (z.ai.map (ah.val false))] 0 2 41),some (.row [.sc (.bool a),.sc (.bool b),.sc (.bool c),.sc (.bool false),.sc (.bool d),.sc (.bool e),.sc (.bool f)] 0 0 4),some (.row [.vl false 1 (s.owner.map (aj.val false)),.sc (.int .u16 s.type.toNat),.sc (.int .u16 s.cls.toNat),.sc (.int .u32 s.ey.toNat),.vl false 4 (s.data.map (aq.val false))] 0 2 31)]):=by
 unfold Xi l7 og Tryz.f88
 simp only [↓wR,RA,simprocAttr,TF,ae,ko,kp,j7,fk]
 rw [c9];refine ⟨fun ⟨h1,e1⟩=>?_,fun ⟨h1,e1⟩=>?_⟩
 ·have h0:a'=true:=by rw [hq];simp [kq,e1]
  subst h0
  simp only [↓wR,RA,simprocAttr,TF,ae,h1,fk]
 simp only [↓wR,RA,simprocAttr,TF,ae,h1]
 rw [cp];refine ⟨fun ⟨h2,e2⟩=>?_,fun ⟨h2,e2⟩=>?_⟩
 ·have h0:a'=true:=by rw [hq];simp [kq,e1,e2]
  subst h0
  simp only [↓wR,RA,simprocAttr,TF,ae,h2,fk]
 simp only [↓wR,RA,simprocAttr,TF,ae,h2]
 rw [cp];refine ⟨fun ⟨h3,e3⟩=>?_,fun ⟨h3,e3⟩=>?_⟩
 ·have h0:a'=true:=by rw [hq];simp [kq,e1,e3]
  subst h0
  simp only [↓wR,RA,simprocAttr,TF,ae,h3,fk]
 simp only [↓wR,RA,simprocAttr,TF,ae,h3]
 rw [cp];refine ⟨fun ⟨h4,e4⟩=>?_,fun ⟨h4,e4⟩=>?_⟩
 ·have h0:a'=true:=by rw [hq];simp [kq,e1,e4]
  subst h0
  simp only [↓wR,RA,simprocAttr,TF,ae,h4,fk]
 ·have h0:a'=a:=by rw [hq];unfold kq;rw [if_neg (by omega),if_neg e2,if_neg e3,decide_eq_false e4];simp
  subst h0
  simp only [↓wR,RA,simprocAttr,TF,ae,h4,fk]
theorem atr (z:bp) (s:az) (i m:Nat) (p t a b c d e f:Bool) (b':Bool) (hz:bz z) (hs:cd s) (hq:b'=(b || !gq s.owner z.origin)):wl PP [ny,n9,p0,kz] 0 V6 (uk [1,3,4,5,6,7,8] [.ptr 0 0,.sl 1 0 7 1,.sc (.int .i64 (m)),.sc (.bool p),.sc (.int .i64 (i)),.ptr 2 0,.sc (.bool t)] [some (.row [.vl false 1 (z.origin.map (aj.val false)),.vl false 5 (z.ai.map (ah.val false))] 0 2 41),some (.row [.sc (.bool a),.sc (.bool b'),.sc (.bool c),.sc (.bool false),.sc (.bool d),.sc (.bool e),.sc (.bool f)] 0 0 4),some (.row [.vl false 1 (s.owner.map (aj.val false)),.sc (.int .u16 s.type.toNat),.sc (.int .u16 s.cls.toNat),.sc (.int .u32 s.ey.toNat),.vl false 4 (s.data.map (aq.val false))] 0 2 31)]) (i4 [1,3,4,5,6,7,8] [.ptr 0 0,.sl 1 0 7 1,.sc (.int .i64 (m)),.sc (.bool p),.sc (.int .i64 (i)),.ptr 2 0,.sc (.bool t)]) (bj [some (.row [.vl false 1 (z.origin.map (aj.val false)),.vl false 5 (z.ai.map (ah.val false))] 0 2 41),some (.row [.sc (.bool a),.sc (.bool b),.sc (.bool c),.sc (.bool false),.sc (.bool d),.sc (.bool e),.sc (.bool f)] 0 0 4),some (.row [.vl false 1 (s.owner.map (aj.val false)),.sc (.int .u16 s.type.toNat),.sc (.int .u16 s.cls.toNat),.sc (.int .u32 s.ey.toNat),.vl false 4 (s.data.map (aq.val false))] 0 2 31)]):=by
 unfold V6 l7 og Tryz.f88
 simp only [↓wR,RA,simprocAttr,TF,ae,ko,kp,j7,fk,B6,hs.owner,hz.origin]
 rw [di];refine ⟨fun h1=>?_,fun h1=>?_⟩
 ·have h0:b'=true:=by rw [hq,h1,Bool.or_true]
  subst h0
  simp only [↓wR,RA,simprocAttr,TF,ae,h1,fk]
 ·have h0:b'=b:=by rw [hq,h1,Bool.or_false]
  subst h0
  simp only [↓wR,RA,simprocAttr,TF,ae,h1,fk]
theorem atn (z:bp) (s:az) (i m:Nat) (p t a b c d e f:Bool) (c':Bool) (m':Nat) (hz:bz z) (hs:cd s) (hm:m≤16777216) (hm':m'=m+if (s.type.toNat:Int)=6 then 1 else 0) (hq:c'=(c || (decide ((s.type.toNat:Int)=6) && (!t || decide ((s.data.length:Int)≠1))))):wl PP [ny,n9,p0,kz] 0 Xh (uk [1,3,4,5,6,7,8] [.ptr 0 0,.sl 1 0 7 1,.sc (.int .i64 (m')),.sc (.bool p),.sc (.int .i64 (i)),.ptr 2 0,.sc (.bool t)] [some (.row [.vl false 1 (z.origin.map (aj.val false)),.vl false 5 (z.ai.map (ah.val false))] 0 2 41),some (.row [.sc (.bool a),.sc (.bool b),.sc (.bool c'),.sc (.bool false),.sc (.bool d),.sc (.bool e),.sc (.bool f)] 0 0 4),some (.row [.vl false 1 (s.owner.map (aj.val false)),.sc (.int .u16 s.type.toNat),.sc (.int .u16 s.cls.toNat),.sc (.int .u32 s.ey.toNat),.vl false 4 (s.data.map (aq.val false))] 0 2 31)]) (i4 [1,3,4,5,6,7,8] [.ptr 0 0,.sl 1 0 7 1,.sc (.int .i64 (m)),.sc (.bool p),.sc (.int .i64 (i)),.ptr 2 0,.sc (.bool t)]) (bj [some (.row [.vl false 1 (z.origin.map (aj.val false)),.vl false 5 (z.ai.map (ah.val false))] 0 2 41),some (.row [.sc (.bool a),.sc (.bool b),.sc (.bool c),.sc (.bool false),.sc (.bool d),.sc (.bool e),.sc (.bool f)] 0 0 4),some (.row [.vl false 1 (s.owner.map (aj.val false)),.sc (.int .u16 s.type.toNat),.sc (.int .u16 s.cls.toNat),.sc (.int .u32 s.ey.toNat),.vl false 4 (s.data.map (aq.val false))] 0 2 31)]):=by
 unfold Xh l7 og Tryz.f88
 simp only [↓wR,RA,simprocAttr,TF,ae,ko,kp,j7,fk]
 rw [cp];refine ⟨fun ⟨h1,e1⟩=>?_,fun ⟨h1,e1⟩=>?_⟩
 ·rw [if_pos e1] at hm'
  rw [decide_eq_true e1,Bool.true_and] at hq
  subst hm'
  simp only [↓wR,RA,simprocAttr,TF,ae,h1];repeat (simp (disch:=omega) only [ag,bf,bg,be,bb];try simp only [↓wR,RA,simprocAttr,TF,ae,h1])
  cases t
  ·have h0:c'=true:=by rw [hq];simp
   subst h0
   simp only [↓wR,RA,simprocAttr,TF,ae,fk];repeat (simp (disch:=omega) only [ag,bf,bg,be,bb];try simp only [↓wR,RA,simprocAttr,TF,ae,fk])
   exact by (first|rfl|trivial|omega|((try (simp (disch:=omega) only [ag]));(try (simp only [FB]));first|done|rfl|omega))
  simp only [↓wR,RA,simprocAttr,TF,ae];repeat (simp (disch:=omega) only [ag,bf,bg,be,bb];try simp only [↓wR,RA,simprocAttr,TF,ae])
  rw [c9];refine ⟨fun ⟨h2,e2⟩=>?_,fun ⟨h2,e2⟩=>?_⟩
  ·have h0:c'=true:=by rw [hq,decide_eq_true e2];simp
   subst h0
   simp only [↓wR,RA,simprocAttr,TF,ae,h2,fk];repeat (simp (disch:=omega) only [ag,bf,bg,be,bb];try simp only [↓wR,RA,simprocAttr,TF,ae,h2,fk])
   exact by (first|rfl|trivial|omega|((try (simp (disch:=omega) only [ag]));(try (simp only [FB]));first|done|rfl|omega))
  ·have h0:c'=c:=by rw [hq,decide_eq_false (by omega)];simp
   subst h0
   simp only [↓wR,RA,simprocAttr,TF,ae,h2,fk];repeat (simp (disch:=omega) only [ag,bf,bg,be,bb];try simp only [↓wR,RA,simprocAttr,TF,ae,h2,fk])
   exact by (first|rfl|trivial|omega|((try (simp (disch:=omega) only [ag]));(try (simp only [FB]));first|done|rfl|omega))
 ·rw [if_neg e1] at hm'
  rw [decide_eq_false e1,Bool.false_and,Bool.or_false] at hq
  subst hm'
  subst hq
  simp only [↓wR,RA,simprocAttr,TF,ae,h1,fk]
theorem ave (z:bp) (s:az) (i m:Nat) (p t a b c d e f:Bool) (p':Bool) (hz:bz z) (hs:cd s) (hq:p'=(p || (decide ((s.type.toNat:Int)=2) && t))):wl PP [ny,n9,p0,kz] 0 Xk (uk [1,3,4,5,6,7,8] [.ptr 0 0,.sl 1 0 7 1,.sc (.int .i64 (m)),.sc (.bool p'),.sc (.int .i64 (i)),.ptr 2 0,.sc (.bool t)] [some (.row [.vl false 1 (z.origin.map (aj.val false)),.vl false 5 (z.ai.map (ah.val false))] 0 2 41),some (.row [.sc (.bool a),.sc (.bool b),.sc (.bool c),.sc (.bool false),.sc (.bool d),.sc (.bool e),.sc (.bool f)] 0 0 4),some (.row [.vl false 1 (s.owner.map (aj.val false)),.sc (.int .u16 s.type.toNat),.sc (.int .u16 s.cls.toNat),.sc (.int .u32 s.ey.toNat),.vl false 4 (s.data.map (aq.val false))] 0 2 31)]) (i4 [1,3,4,5,6,7,8] [.ptr 0 0,.sl 1 0 7 1,.sc (.int .i64 (m)),.sc (.bool p),.sc (.int .i64 (i)),.ptr 2 0,.sc (.bool t)]) (bj [some (.row [.vl false 1 (z.origin.map (aj.val false)),.vl false 5 (z.ai.map (ah.val false))] 0 2 41),some (.row [.sc (.bool a),.sc (.bool b),.sc (.bool c),.sc (.bool false),.sc (.bool d),.sc (.bool e),.sc (.bool f)] 0 0 4),some (.row [.vl false 1 (s.owner.map (aj.val false)),.sc (.int .u16 s.type.toNat),.sc (.int .u16 s.cls.toNat),.sc (.int .u32 s.ey.toNat),.vl false 4 (s.data.map (aq.val false))] 0 2 31)]):=by
 unfold Xk l7 og Tryz.f88
 simp only [↓wR,RA,simprocAttr,TF,ae,ko,kp,j7,fk]
 rw [cp];refine ⟨fun ⟨h1,e1⟩=>?_,fun ⟨h1,e1⟩=>?_⟩
 ·rw [decide_eq_true e1,Bool.true_and] at hq
  simp only [↓wR,RA,simprocAttr,TF,ae,h1]
  cases t
  ·have h0:p'=p:=by rw [hq];simp
   subst h0
   simp only [↓wR,RA,simprocAttr,TF,ae,fk]
  ·have h0:p'=true:=by rw [hq];simp
   subst h0
   simp only [↓wR,RA,simprocAttr,TF,ae,fk]
 ·rw [decide_eq_false e1,Bool.false_and,Bool.or_false] at hq
  subst hq
  simp only [↓wR,RA,simprocAttr,TF,ae,h1,fk]
theorem at8 (z:bp) (s:az) (i m:Nat) (p t a b c d e f:Bool) (d':Bool) (hz:bz z) (hs:cd s) (hq:d'=(d || mr z s)):wl PP [ny,n9,p0,kz] 0 Wn (uk [1,3,4,5,6,7,8] [.ptr 0 0,.sl 1 0 7 1,.sc (.int .i64 (m)),.sc (.bool p),.sc (.int .i64 (i)),.ptr 2 0,.sc (.bool t)] [some (.row [.vl false 1 (z.origin.map (aj.val false)),.vl false 5 (z.ai.map (ah.val false))] 0 2 41),some (.row [.sc (.bool a),.sc (.bool b),.sc (.bool c),.sc (.bool false),.sc (.bool d'),.sc (.bool e),.sc (.bool f)] 0 0 4),some (.row [.vl false 1 (s.owner.map (aj.val false)),.sc (.int .u16 s.type.toNat),.sc (.int .u16 s.cls.toNat),.sc (.int .u32 s.ey.toNat),.vl false 4 (s.data.map (aq.val false))] 0 2 31)]) (i4 [1,3,4,5,6,7,8] [.ptr 0 0,.sl 1 0 7 1,.sc (.int .i64 (m)),.sc (.bool p),.sc (.int .i64 (i)),.ptr 2 0,.sc (.bool t)]) (bj [some (.row [.vl false 1 (z.origin.map (aj.val false)),.vl false 5 (z.ai.map (ah.val false))] 0 2 41),some (.row [.sc (.bool a),.sc (.bool b),.sc (.bool c),.sc (.bool false),.sc (.bool d),.sc (.bool e),.sc (.bool f)] 0 0 4),some (.row [.vl false 1 (s.owner.map (aj.val false)),.sc (.int .u16 s.type.toNat),.sc (.int .u16 s.cls.toNat),.sc (.int .u32 s.ey.toNat),.vl false 4 (s.data.map (aq.val false))] 0 2 31)]):=by
 unfold Wn l7 og Tryz.f88
 simp only [↓wR,RA,simprocAttr,TF,ae,ko,kp,j7,fk,Ic,hs,hz]
 rw [di];refine ⟨fun h1=>?_,fun h1=>?_⟩
 ·have h0:d'=true:=by rw [hq,h1,Bool.or_true]
  subst h0
  simp only [↓wR,RA,simprocAttr,TF,ae,h1,fk]
 ·have h0:d'=d:=by rw [hq,h1,Bool.or_false]
  subst h0
  simp only [↓wR,RA,simprocAttr,TF,ae,h1,fk]
theorem auf (z:bp) (s:az) (i m:Nat) (p t a b c d e f:Bool) (e':Bool) (hz:bz z) (hs:cd s) (hq:e'=(e || !jy s)):wl PP [ny,n9,p0,kz] 0 V5 (uk [1,3,4,5,6,7,8] [.ptr 0 0,.sl 1 0 7 1,.sc (.int .i64 (m)),.sc (.bool p),.sc (.int .i64 (i)),.ptr 2 0,.sc (.bool t)] [some (.row [.vl false 1 (z.origin.map (aj.val false)),.vl false 5 (z.ai.map (ah.val false))] 0 2 41),some (.row [.sc (.bool a),.sc (.bool b),.sc (.bool c),.sc (.bool false),.sc (.bool d),.sc (.bool e'),.sc (.bool f)] 0 0 4),some (.row [.vl false 1 (s.owner.map (aj.val false)),.sc (.int .u16 s.type.toNat),.sc (.int .u16 s.cls.toNat),.sc (.int .u32 s.ey.toNat),.vl false 4 (s.data.map (aq.val false))] 0 2 31)]) (i4 [1,3,4,5,6,7,8] [.ptr 0 0,.sl 1 0 7 1,.sc (.int .i64 (m)),.sc (.bool p),.sc (.int .i64 (i)),.ptr 2 0,.sc (.bool t)]) (bj [some (.row [.vl false 1 (z.origin.map (aj.val false)),.vl false 5 (z.ai.map (ah.val false))] 0 2 41),some (.row [.sc (.bool a),.sc (.bool b),.sc (.bool c),.sc (.bool false),.sc (.bool d),.sc (.bool e),.sc (.bool f)] 0 0 4),some (.row [.vl false 1 (s.owner.map (aj.val false)),.sc (.int .u16 s.type.toNat),.sc (.int .u16 s.cls.toNat),.sc (.int .u32 s.ey.toNat),.vl false 4 (s.data.map (aq.val false))] 0 2 31)]):=by
 unfold V5 l7 og Tryz.f88
 have hol:=yk hs.owner
 simp only [↓wR,RA,simprocAttr,TF,ae,ko,kp,j7,fk]
 rw [cp];refine ⟨fun ⟨h1,e1⟩=>?_,fun ⟨h1,e1⟩=>?_⟩
 ·simp only [↓wR,RA,simprocAttr,TF,ae,h1]
  rw [aw];refine ⟨fun h2=>?_,fun h2=>?_⟩
  ·obtain ⟨c0,hc0⟩:∃ c0,s.owner[0]? = some c0:=⟨_,List.getElem?_eq_getElem (by omega)⟩
   simp only [↓wR,RA,simprocAttr,TF,ae,h2,hc0]
   rw [di];refine ⟨fun h3=>?_,fun h3=>?_⟩
   ·have h0:e'=true:=by rw [hq];unfold jy;rw [if_neg (by simpa using e1),hc0];show (e || !!decide (c0=Ja))=true;rw [show decide (c0=Ja)=true from h3];simp
    subst h0
    simp only [↓wR,RA,simprocAttr,TF,ae,h3,fk]
   ·have h0:e'=e:=by rw [hq];unfold jy;rw [if_neg (by simpa using e1),hc0];show (e || !!decide (c0=Ja))=e;rw [show decide (c0=Ja)=false from h3];simp
    subst h0
    simp only [↓wR,RA,simprocAttr,TF,ae,h3,fk]
  ·have h0:e'=e:=by rw [hq];unfold jy;rw [if_neg (by simpa using e1),List.getElem?_eq_none (by omega)];simp
   subst h0
   simp only [↓wR,RA,simprocAttr,TF,ae,h2,fk]
 ·have h0:e'=e:=by rw [hq];unfold jy;rw [if_pos e1];simp
  subst h0
  simp only [↓wR,RA,simprocAttr,TF,ae,h1,fk]
theorem auc (z:bp) (s:az) (i m:Nat) (p t a b c d e f:Bool) (f':Bool) (hz:bz z) (hs:cd s) (hq:f'=(f || !mc z s)):wl PP [ny,n9,p0,kz] 0 Wb (uk [1,3,4,5,6,7,8] [.ptr 0 0,.sl 1 0 7 1,.sc (.int .i64 (m)),.sc (.bool p),.sc (.int .i64 (i)),.ptr 2 0,.sc (.bool t)] [some (.row [.vl false 1 (z.origin.map (aj.val false)),.vl false 5 (z.ai.map (ah.val false))] 0 2 41),some (.row [.sc (.bool a),.sc (.bool b),.sc (.bool c),.sc (.bool false),.sc (.bool d),.sc (.bool e),.sc (.bool f')] 0 0 4),some (.row [.vl false 1 (s.owner.map (aj.val false)),.sc (.int .u16 s.type.toNat),.sc (.int .u16 s.cls.toNat),.sc (.int .u32 s.ey.toNat),.vl false 4 (s.data.map (aq.val false))] 0 2 31)]) (i4 [1,3,4,5,6,7,8] [.ptr 0 0,.sl 1 0 7 1,.sc (.int .i64 (m)),.sc (.bool p),.sc (.int .i64 (i)),.ptr 2 0,.sc (.bool t)]) (bj [some (.row [.vl false 1 (z.origin.map (aj.val false)),.vl false 5 (z.ai.map (ah.val false))] 0 2 41),some (.row [.sc (.bool a),.sc (.bool b),.sc (.bool c),.sc (.bool false),.sc (.bool d),.sc (.bool e),.sc (.bool f)] 0 0 4),some (.row [.vl false 1 (s.owner.map (aj.val false)),.sc (.int .u16 s.type.toNat),.sc (.int .u16 s.cls.toNat),.sc (.int .u32 s.ey.toNat),.vl false 4 (s.data.map (aq.val false))] 0 2 31)]):=by
 unfold Wb l7 og Tryz.f88
 simp only [↓wR,RA,simprocAttr,TF,ae,ko,kp,np,nm,j7,fk,A5,hs,hz]
 rw [di];refine ⟨fun h1=>?_,fun h1=>?_⟩
 ·have h0:f'=true:=by rw [hq,h1,Bool.or_true]
  subst h0
  simp only [↓wR,RA,simprocAttr,TF,ae,h1,fk]
 ·have h0:f'=f:=by rw [hq,h1,Bool.or_false]
  subst h0
  simp only [↓wR,RA,simprocAttr,TF,ae,h1,fk]
def anyS (q:az→Bool) (z:bp) (i:Nat):Bool:=(z.ai.take i).any q
theorem B5 {q:az→Bool} {z:bp} {i:Nat} {s:az} (h:z.ai[i]? = some s):anyS q z (i+1)=(anyS q z i || q s):=by
 obtain ⟨hi,rfl⟩:=List.getElem?_eq_some_iff.1 h
 unfold anyS
 rw [List.take_succ_eq_append_getElem hi,List.any_append];simp
def vk (z:bp) (i:Nat):Nat:=((z.ai.take i).filter fun s=>decide ((s.type.toNat:Int)=6)).length
theorem ay2 {z:bp} {i:Nat} {s:az} (h:z.ai[i]? = some s):vk z (i+1)=vk z i+if (s.type.toNat:Int)=6 then 1 else 0:=by
 obtain ⟨hi,rfl⟩:=List.getElem?_eq_some_iff.1 h
 unfold vk
 rw [List.take_succ_eq_append_getElem hi,List.filter_append,List.length_append,List.filter_cons,List.filter_nil]
 congr 1
 split<;>split<;>simp_all
theorem ayv (z:bp) (i:Nat):vk z i≤z.ai.length:=by
 unfold vk
 exact Nat.le_trans (List.length_filter_le _ _) (by rw [List.length_take];omega)
def Fw (s:az):Bool:=!kq s
def Fk (z:bp) (s:az):Bool:=!gq s.owner z.origin
def wg (z:bp) (s:az):Bool:=decide ((s.type.toNat:Int)=6) && (!er s.owner z.origin || decide ((s.data.length:Int)≠1))
def uv (z:bp) (s:az):Bool:=decide ((s.type.toNat:Int)=2) && er s.owner z.origin
def Fo (s:az):Bool:=!jy s
def Fy (z:bp) (s:az):Bool:=!mc z s
noncomputable def Mt:Code:=match og with
 |.seq a _=>a
 |_=>.skip
noncomputable def O4:Code:=match og with
 |.seq _ (.seq _ b)=>b
 |_=>.skip
theorem Q4:og = .seq Mt (.seq (.block 1 l7) O4):=by kernel_rfl
theorem lh:ar PP [ny,n9,p0,kz]:=ar.cons (ak ue) (ar.cons (ak G8) (ar.cons (ak air) (ar.cons (ak W0) (ar.nil PP))))
theorem avh (z:bp) (i m:Nat) (p a b c d e f:Bool) (hi:i<z.ai.length):wl PP [ny,n9,p0,kz] 0 Mt (uk [1,3,4,5,6] [.ptr 0 0,.sl 1 0 7 1,.sc (.int .i64 (m)),.sc (.bool p),.sc (.int .i64 (i))] [some (.row [.vl false 1 (z.origin.map (aj.val false)),.vl false 5 (z.ai.map (ah.val false))] 0 2 41),some (.row [.sc (.bool a),.sc (.bool b),.sc (.bool c),.sc (.bool false),.sc (.bool d),.sc (.bool e),.sc (.bool f)] 0 0 4)]) (i4 [1,3,4,5,6] [.ptr 0 0,.sl 1 0 7 1,.sc (.int .i64 (m)),.sc (.bool p),.sc (.int .i64 (i))]) (bj [some (.row [.vl false 1 (z.origin.map (aj.val false)),.vl false 5 (z.ai.map (ah.val false))] 0 2 41),some (.row [.sc (.bool a),.sc (.bool b),.sc (.bool c),.sc (.bool false),.sc (.bool d),.sc (.bool e),.sc (.bool f)] 0 0 4)]):=by
 have h:decide ((i:Int)<z.ai.length)=true:=decide_eq_true (by omega)
 unfold Mt og Tryz.f88
 simp only [↓wR,RA,simprocAttr,TF,ae,fk,h]
theorem at4 (z:bp) (i m:Nat) (p a b c d e f:Bool) (hi:¬ i<z.ai.length):wl PP [ny,n9,p0,kz] 0 Mt (alx 0 [3,4,5] [.sl 0 0 7 1,.sc (.int .i64 (m)),.sc (.bool p)] [some (.row [.sc (.bool a),.sc (.bool b),.sc (.bool c),.sc (.bool false),.sc (.bool d),.sc (.bool e),.sc (.bool f)] 0 0 4)]) (i4 [1,3,4,5,6] [.ptr 0 0,.sl 1 0 7 1,.sc (.int .i64 (m)),.sc (.bool p),.sc (.int .i64 (i))]) (bj [some (.row [.vl false 1 (z.origin.map (aj.val false)),.vl false 5 (z.ai.map (ah.val false))] 0 2 41),some (.row [.sc (.bool a),.sc (.bool b),.sc (.bool c),.sc (.bool false),.sc (.bool d),.sc (.bool e),.sc (.bool f)] 0 0 4)]):=by
 have h:decide ((i:Int)<z.ai.length)=false:=decide_eq_false (by omega)
 unfold Mt og Tryz.f88
 simp only [↓wR,RA,simprocAttr,TF,ae,axx,h]
theorem aul (z:bp) (s:az) (i m:Nat) (p t a b c d e f:Bool) (hi:i≤16777216):wl PP [ny,n9,p0,kz] 0 O4 (uk [1,3,4,5,6] [.ptr 0 0,.sl 1 0 7 1,.sc (.int .i64 (m)),.sc (.bool p),.sc (.int .i64 ((i+1:Nat)))] [some (.row [.vl false 1 (z.origin.map (aj.val false)),.vl false 5 (z.ai.map (ah.val false))] 0 2 41),some (.row [.sc (.bool a),.sc (.bool b),.sc (.bool c),.sc (.bool false),.sc (.bool d),.sc (.bool e),.sc (.bool f)] 0 0 4)]) (i4 [1,3,4,5,6,7,8] [.ptr 0 0,.sl 1 0 7 1,.sc (.int .i64 (m)),.sc (.bool p),.sc (.int .i64 (i)),.ptr 2 0,.sc (.bool t)]) (bj [some (.row [.vl false 1 (z.origin.map (aj.val false)),.vl false 5 (z.ai.map (ah.val false))] 0 2 41),some (.row [.sc (.bool a),.sc (.bool b),.sc (.bool c),.sc (.bool false),.sc (.bool d),.sc (.bool e),.sc (.bool f)] 0 0 4),some (.row [.vl false 1 (s.owner.map (aj.val false)),.sc (.int .u16 s.type.toNat),.sc (.int .u16 s.cls.toNat),.sc (.int .u32 s.ey.toNat),.vl false 4 (s.data.map (aq.val false))] 0 2 31)]):=by
 unfold O4 og Tryz.f88
 simp only [↓wR,RA,simprocAttr,TF,ae,fk];repeat (simp (disch:=omega) only [ag,bf,bg,be,bb];try simp only [↓wR,RA,simprocAttr,TF,ae,fk])
 all_goals first|done|exact by (first|rfl|trivial|omega|((try (simp (disch:=omega) only [ag]));(try (simp only [FB]));first|done|rfl|omega))
theorem agk:jx 2 l7 = .seq Xi (.seq V6 (.seq Xh (.seq Xk (.seq Wn (.seq V5 Wb))))):=by kernel_rfl
theorem amq {z:bp} (hz:bz z) {i:Nat} {s:az} (hi:z.ai[i]? = some s) {Q:QL} (hQ:∀ L st,Go.Vm.dj 0 [1,3,4,5,6] L st=[.ptr 0 0,.sl 1 0 7 1,.sc (.int .i64 ((vk z (i+1)))),.sc (.bool (anyS (uv z) z (i+1))),.sc (.int .i64 ((i+1)))]→fp 0 [1,3,4,5,6] L st=[some (.row [.vl false 1 (z.origin.map (aj.val false)),.vl false 5 (z.ai.map (ah.val false))] 0 2 41),some (.row [.sc (.bool (anyS Fw z (i+1))),.sc (.bool (anyS (Fk z) z (i+1))),.sc (.bool (anyS (wg z) z (i+1))),.sc (.bool false),.sc (.bool (anyS (mr z) z (i+1))),.sc (.bool (anyS Fo z (i+1))),.sc (.bool (anyS (Fy z) z (i+1)))] 0 0 4)]→Q .normal L st):SW PP (Tryz.f88.ntmps:NT) og Q (i4 [1,3,4,5,6] [.ptr 0 0,.sl 1 0 7 1,.sc (.int .i64 ((vk z (i)))),.sc (.bool (anyS (uv z) z (i))),.sc (.int .i64 ((i)))]) (bj [some (.row [.vl false 1 (z.origin.map (aj.val false)),.vl false 5 (z.ai.map (ah.val false))] 0 2 41),some (.row [.sc (.bool (anyS Fw z (i))),.sc (.bool (anyS (Fk z) z (i))),.sc (.bool (anyS (wg z) z (i))),.sc (.bool false),.sc (.bool (anyS (mr z) z (i))),.sc (.bool (anyS Fo z (i))),.sc (.bool (anyS (Fy z) z (i)))] 0 0 4)]):=by
 have hs:=hz.set s (List.mem_of_getElem? hi)
 have hlt:=(List.getElem?_eq_some_iff.1 hi).1
 have hlen:=hz.len
 have hm:=ayv z i
 rw [Q4]
 refine zm lh (by kernel_rfl) [1,3,4,5,6] _ _ (by kernel_rfl) (avh z i _ _ _ _ _ _ _ _ hlt) ?_
 refine Ma (ab6 ?_)
 refine asn lh (by kernel_rfl) 1 (by kernel_rfl) (by kernel_rfl) (Ck _ _ _ ?_ _ _ (avl z s i _ _ _ _ _ _ _ _ hz hs hi))
 intro e L st hq
 cases e with
 |ret=>exact hq.elim
 |exit j=>exact hq.elim
 |normal=>
 refine H5 [1,3,4,5,6,7,8] _ _ (by rw [hq.1,hq.2];exact ji.refl _ _ _) ?_
 rw [agk]
 refine zm lh (by kernel_rfl) [1,3,4,5,6,7,8] _ _ (by kernel_rfl) (as8 z s i _ _ _ _ _ _ _ _ _ _ hz hs (B5 (q:=Fw) hi)) ?_
 refine zm lh (by kernel_rfl) [1,3,4,5,6,7,8] _ _ (by kernel_rfl) (atr z s i _ _ _ _ _ _ _ _ _ _ hz hs (B5 (q:=Fk z) hi)) ?_
 refine zm lh (by kernel_rfl) [1,3,4,5,6,7,8] _ _ (by kernel_rfl) (atn z s i _ _ _ _ _ _ _ _ _ _ _ hz hs (by omega) (ay2 hi) (B5 (q:=wg z) hi)) ?_
 refine zm lh (by kernel_rfl) [1,3,4,5,6,7,8] _ _ (by kernel_rfl) (ave z s i _ _ _ _ _ _ _ _ _ _ hz hs (B5 (q:=uv z) hi)) ?_
 refine zm lh (by kernel_rfl) [1,3,4,5,6,7,8] _ _ (by kernel_rfl) (at8 z s i _ _ _ _ _ _ _ _ _ _ hz hs (B5 (q:=mr z) hi)) ?_
 refine zm lh (by kernel_rfl) [1,3,4,5,6,7,8] _ _ (by kernel_rfl) (auf z s i _ _ _ _ _ _ _ _ _ _ hz hs (B5 (q:=Fo) hi)) ?_
 refine asc lh (by kernel_rfl) [1,3,4,5,6,7,8] _ _ (by kernel_rfl) (auc z s i _ _ _ _ _ _ _ _ _ _ hz hs (B5 (q:=Fy z) hi)) ?_
 intro L st e1 e2
 show SW PP (Tryz.f88.ntmps:NT) O4 Q L st
 exact H5 [1,3,4,5,6,7,8] _ _ (by rw [e1,e2];exact ji.refl _ _ _) (asc lh (by kernel_rfl) [1,3,4,5,6] _ _ (by kernel_rfl) (aul z s i _ _ _ _ _ _ _ _ _ (by omega)) hQ)
theorem ame {z:bp} (hz:bz z) {L:SL} {st:St} (h1:Go.Vm.dj 0 [1,3,4,5,6] L st=[.ptr 0 0,.sl 1 0 7 1,.sc (.int .i64 ((vk z (0)))),.sc (.bool (anyS (uv z) z (0))),.sc (.int .i64 ((0)))]) (h2:fp 0 [1,3,4,5,6] L st=[some (.row [.vl false 1 (z.origin.map (aj.val false)),.vl false 5 (z.ai.map (ah.val false))] 0 2 41),some (.row [.sc (.bool (anyS Fw z (0))),.sc (.bool (anyS (Fk z) z (0))),.sc (.bool (anyS (wg z) z (0))),.sc (.bool false),.sc (.bool (anyS (mr z) z (0))),.sc (.bool (anyS Fo z (0))),.sc (.bool (anyS (Fy z) z (0)))] 0 0 4)]):SW PP (Tryz.f88.ntmps:NT) (.loop og) (alx 0 [3,4,5] [.sl 0 0 7 1,.sc (.int .i64 ((vk z (z.ai.length)))),.sc (.bool (anyS (uv z) z (z.ai.length)))] [some (.row [.sc (.bool (anyS Fw z (z.ai.length))),.sc (.bool (anyS (Fk z) z (z.ai.length))),.sc (.bool (anyS (wg z) z (z.ai.length))),.sc (.bool false),.sc (.bool (anyS (mr z) z (z.ai.length))),.sc (.bool (anyS Fo z (z.ai.length))),.sc (.bool (anyS (Fy z) z (z.ai.length)))] 0 0 4)]) L st:=by
 refine ayu (α:=Nat) [1,3,4,5,6] (fun i=>[.ptr 0 0,.sl 1 0 7 1,.sc (.int .i64 ((vk z (i)))),.sc (.bool (anyS (uv z) z (i))),.sc (.int .i64 ((i)))]) (fun i=>[some (.row [.vl false 1 (z.origin.map (aj.val false)),.vl false 5 (z.ai.map (ah.val false))] 0 2 41),some (.row [.sc (.bool (anyS Fw z (i))),.sc (.bool (anyS (Fk z) z (i))),.sc (.bool (anyS (wg z) z (i))),.sc (.bool false),.sc (.bool (anyS (mr z) z (i))),.sc (.bool (anyS Fo z (i))),.sc (.bool (anyS (Fy z) z (i)))] 0 0 4)]) (fun i=>i≤z.ai.length) (fun i=>z.ai.length - i) 0 (Nat.zero_le _) (by rw [h1,h2];exact ji.refl _ _ _) ?_
 intro i hi
 by_cases hlt:i<z.ai.length
 ·exact amq hz (List.getElem?_eq_getElem hlt) (fun L st e1 e2=>⟨i+1,hlt,by omega,e1,e2⟩)
 ·have he:i=z.ai.length:=by omega
  subst he
  rw [Q4]
  refine Ma (Iu ?_ (Un lh (by kernel_rfl) (by kernel_rfl) (at4 z _ _ _ _ _ _ _ _ _ hlt)))
  intro e L st hq
  cases e with
  |normal=>exact hq.elim
  |ret=>exact hq.elim
  |exit j=>exact hq
noncomputable def abv:Code:=jx 5 (Tryz.f88.body.getD .skip)
theorem ai0:jx 4 (Tryz.f88.body.getD .skip) = .seq (.seq W7 (.block 0 (.loop og))) abv:=by kernel_rfl
noncomputable def aem:Code:=n5 1 (jx 5 (Tryz.f88.body.getD .skip))
noncomputable def ab0:Code:=jx 6 (Tryz.f88.body.getD .skip)
theorem ahy:abv = .seq aem ab0:=by kernel_rfl
theorem aym (m:Nat) (p a b c d e f c':Bool) (hq:c'=(c || decide ((m:Int)≠1))):wl PP [ny,n9,p0,kz] 0 aem (uk [3,5] [.sl 0 0 7 1,.sc (.bool p)] [some (.row [.sc (.bool a),.sc (.bool b),.sc (.bool c'),.sc (.bool false),.sc (.bool d),.sc (.bool e),.sc (.bool f)] 0 0 4)]) (i4 [3,4,5] [.sl 0 0 7 1,.sc (.int .i64 (m)),.sc (.bool p)]) (bj [some (.row [.sc (.bool a),.sc (.bool b),.sc (.bool c),.sc (.bool false),.sc (.bool d),.sc (.bool e),.sc (.bool f)] 0 0 4)]):=by
 unfold aem Tryz.f88
 simp only [↓wR,RA,simprocAttr,TF,ae,ko,kp,j7,fk]
 rw [c9];refine ⟨fun ⟨h1,e1⟩=>?_,fun ⟨h1,e1⟩=>?_⟩
 ·have h0:c'=true:=by rw [hq,decide_eq_true e1,Bool.or_true]
  subst h0
  simp only [↓wR,RA,simprocAttr,TF,ae,h1,fk]
 ·have h0:c'=c:=by rw [hq,decide_eq_false (by omega),Bool.or_false]
  subst h0
  simp only [↓wR,RA,simprocAttr,TF,ae,h1,fk]
def Iw:List Bool→List Int→Int
 |true::_,e::_=>e
 |false::l,_::r=>Iw l r
 |_,_=>0
theorem ax3 (p a b c d e f:Bool):wl PP [ny,n9,p0,kz] 0 ab0 (da PP Tryz.f88.results.toList (fun r st=>(r1 (bh .i64)).get true st.h r=some (Iw [a,b,c,!p,d,e,f] [261,262,263,264,265,266,267]))) (i4 [3,5] [.sl 0 0 7 1,.sc (.bool p)]) (bj [some (.row [.sc (.bool a),.sc (.bool b),.sc (.bool c),.sc (.bool false),.sc (.bool d),.sc (.bool e),.sc (.bool f)] 0 0 4)]):=by
 unfold ab0 Tryz.f88
 simp only [↓wR,RA,simprocAttr,TF,ae,ko,kp,np,nm]
 generalize (!p)=q
 refine c7 [3,9,10] (fun (k:Nat)=>[.sl 0 0 7 1,.sl 1 0 7 1,.sc (.int .i64 (k))]) (fun _=>[some (.row [.sc (.bool a),.sc (.bool b),.sc (.bool c),.sc (.bool q),.sc (.bool d),.sc (.bool e),.sc (.bool f)] 0 0 4),some (.row [.sc (.int .i64 (261)),.sc (.int .i64 (262)),.sc (.int .i64 (263)),.sc (.int .i64 (264)),.sc (.int .i64 (265)),.sc (.int .i64 (266)),.sc (.int .i64 (267))] 0 0 3)]) (fun k=>k≤7∧Iw [a,b,c,q,d,e,f] [261,262,263,264,265,266,267]=Iw ([a,b,c,q,d,e,f].drop k) (List.drop k [261,262,263,264,265,266,267])) (fun k=>7 - k) 0 ⟨by decide,rfl⟩ (by simp only [↓wR,RA,simprocAttr,TF,ae]<;>rfl) (by simp only [↓wR,RA,simprocAttr,TF,ae]<;>rfl) ?_
 rintro k ⟨hk,hx⟩
 rcases (show k=0∨k=1∨k=2∨k=3∨k=4∨k=5∨k=6∨k=7 by omega) with rfl|rfl|rfl|rfl|rfl|rfl|rfl|rfl
 ·simp only [↓wR,RA,simprocAttr,TF,ae]
  cases a
  ·simp only [↓wR,RA,simprocAttr,TF,ae];repeat (simp (disch:=omega) only [ag,bf,bg,be,bb];try simp only [↓wR,RA,simprocAttr,TF,ae])
   exact ⟨1,⟨by decide,hx⟩,by decide,by (first|rfl|trivial|omega|((try (simp (disch:=omega) only [ag]));(try (simp only [FB]));first|done|rfl|omega))⟩
  ·rw [hx]
   simp only [↓wR,RA,simprocAttr,TF,ae]
   try rfl
 ·simp only [↓wR,RA,simprocAttr,TF,ae]
  cases b
  ·simp only [↓wR,RA,simprocAttr,TF,ae];repeat (simp (disch:=omega) only [ag,bf,bg,be,bb];try simp only [↓wR,RA,simprocAttr,TF,ae])
   exact ⟨2,⟨by decide,hx⟩,by decide,by (first|rfl|trivial|omega|((try (simp (disch:=omega) only [ag]));(try (simp only [FB]));first|done|rfl|omega))⟩
  ·rw [hx]
   simp only [↓wR,RA,simprocAttr,TF,ae]
   try rfl
 ·simp only [↓wR,RA,simprocAttr,TF,ae]
  cases c
  ·simp only [↓wR,RA,simprocAttr,TF,ae];repeat (simp (disch:=omega) only [ag,bf,bg,be,bb];try simp only [↓wR,RA,simprocAttr,TF,ae])
   exact ⟨3,⟨by decide,hx⟩,by decide,by (first|rfl|trivial|omega|((try (simp (disch:=omega) only [ag]));(try (simp only [FB]));first|done|rfl|omega))⟩
  ·rw [hx]
   simp only [↓wR,RA,simprocAttr,TF,ae]
   try rfl
 ·simp only [↓wR,RA,simprocAttr,TF,ae]
  cases q
  ·simp only [↓wR,RA,simprocAttr,TF,ae];repeat (simp (disch:=omega) only [ag,bf,bg,be,bb];try simp only [↓wR,RA,simprocAttr,TF,ae])
   exact ⟨4,⟨by decide,hx⟩,by decide,by (first|rfl|trivial|omega|((try (simp (disch:=omega) only [ag]));(try (simp only [FB]));first|done|rfl|omega))⟩
  ·rw [hx]
   simp only [↓wR,RA,simprocAttr,TF,ae]
   try rfl
 ·simp only [↓wR,RA,simprocAttr,TF,ae]
  cases d
  ·simp only [↓wR,RA,simprocAttr,TF,ae];repeat (simp (disch:=omega) only [ag,bf,bg,be,bb];try simp only [↓wR,RA,simprocAttr,TF,ae])
   exact ⟨5,⟨by decide,hx⟩,by decide,by (first|rfl|trivial|omega|((try (simp (disch:=omega) only [ag]));(try (simp only [FB]));first|done|rfl|omega))⟩
  ·rw [hx]
   simp only [↓wR,RA,simprocAttr,TF,ae]
   try rfl
 ·simp only [↓wR,RA,simprocAttr,TF,ae]
  cases e
  ·simp only [↓wR,RA,simprocAttr,TF,ae];repeat (simp (disch:=omega) only [ag,bf,bg,be,bb];try simp only [↓wR,RA,simprocAttr,TF,ae])
   exact ⟨6,⟨by decide,hx⟩,by decide,by (first|rfl|trivial|omega|((try (simp (disch:=omega) only [ag]));(try (simp only [FB]));first|done|rfl|omega))⟩
  ·rw [hx]
   simp only [↓wR,RA,simprocAttr,TF,ae]
   try rfl
 ·simp only [↓wR,RA,simprocAttr,TF,ae]
  cases f
  ·simp only [↓wR,RA,simprocAttr,TF,ae];repeat (simp (disch:=omega) only [ag,bf,bg,be,bb];try simp only [↓wR,RA,simprocAttr,TF,ae])
   exact ⟨7,⟨by decide,hx⟩,by decide,by (first|rfl|trivial|omega|((try (simp (disch:=omega) only [ag]));(try (simp only [FB]));first|done|rfl|omega))⟩
  ·rw [hx]
   simp only [↓wR,RA,simprocAttr,TF,ae]
   try rfl
 ·rw [hx]
  simp only [↓wR,RA,simprocAttr,TF,ae]
  try rfl
noncomputable def ag6 (z:bp):List Bool:=[z.ai.any Fw,z.ai.any (Fk z),z.ai.any (wg z) || decide ((vk z z.ai.length:Int)≠1),!z.ai.any (uv z),z.ai.any (mr z),z.ai.any Fo,z.ai.any (Fy z)]
noncomputable def Ds (z:bp):Int:=Iw (ag6 z) [261,262,263,264,265,266,267]
theorem yp (q:az→Bool) (z:bp):anyS q z z.ai.length=z.ai.any q:=by unfold anyS;rw [List.take_length]
theorem atu (z:bp) (hz:bz z):SW PP (Tryz.f88.ntmps:NT) (Tryz.f88.body.getD .skip) (da PP Tryz.f88.results.toList (fun r st=>(r1 (bh .i64)).get true st.h r=some (Ds z))) (cj 0 [br.val false z]) (bj []):=by
 refine asn lh (by kernel_rfl) 3 (by kernel_rfl) (by kernel_rfl) (Ck _ _ _ ?_ _ _ (asr z))
 intro e L st hq
 cases e with
 |ret=>exact hq.elim
 |exit j=>exact hq.elim
 |normal=>
 show SW PP (Tryz.f88.ntmps:NT) (jx 4 (Tryz.f88.body.getD .skip)) _ L st
 rw [ai0]
 refine Ma (Ma (Iu ?_ (Un lh (by kernel_rfl) (by kernel_rfl) hq)))
 intro e L st hq
 cases e with
 |ret=>exact hq.elim
 |exit j=>exact hq.elim
 |normal=>
 refine ab6 (Iu ?_ (ame hz hq.1 hq.2))
 intro e L st hq
 cases e with
 |ret=>exact hq.elim
 |normal=>exact hq.elim
 |exit j=>
 obtain ⟨rfl,e1,e2⟩:=hq
 show SW PP (Tryz.f88.ntmps:NT) abv _ L st
 refine H5 [3,4,5] [.sl 0 0 7 1,.sc (.int .i64 ((vk z (z.ai.length)))),.sc (.bool (anyS (uv z) z (z.ai.length)))] [some (.row [.sc (.bool (anyS Fw z (z.ai.length))),.sc (.bool (anyS (Fk z) z (z.ai.length))),.sc (.bool (anyS (wg z) z (z.ai.length))),.sc (.bool false),.sc (.bool (anyS (mr z) z (z.ai.length))),.sc (.bool (anyS Fo z (z.ai.length))),.sc (.bool (anyS (Fy z) z (z.ai.length)))] 0 0 4)] (by rw [e1,e2];exact ji.refl _ _ _) ?_
 rw [ahy]
 refine zm lh (by kernel_rfl) [3,5] _ _ (by kernel_rfl) (aym _ _ _ _ _ _ _ _ _ rfl) ?_
 have h:=ax3 (anyS (uv z) z z.ai.length) (anyS Fw z z.ai.length) (anyS (Fk z) z z.ai.length) (anyS (wg z) z z.ai.length || decide ((vk z z.ai.length:Int)≠1)) (anyS (mr z) z z.ai.length) (anyS Fo z z.ai.length) (anyS (Fy z) z z.ai.length)
 refine Un lh (by kernel_rfl) (by kernel_rfl) ?_
 unfold Ds ag6
 rw [← yp Fw,← yp (Fk z),← yp (wg z),← yp (uv z),← yp (mr z),← yp Fo,← yp (Fy z)]
 exact h
noncomputable def Hz (x:bp × Unit):Option AV:=open Classical in if bz x.1 then some ((r1 (bh .i64)).E true (Ds x.1)) else none
set_option maxRecDepth 2000000 in
theorem ah4 (x:bp × Unit) (r:AV) (h:Hz x=some r):bk PP 88 ((aC br a0).E x) r:=by
 by_cases hc:bz x.1
 case neg=>simp only [Hz,if_neg hc] at h;cases h
 simp only [Hz,if_pos hc] at h
 cases h
 exact Wy (body:=Tryz.f88.body.getD .skip) Tryz.func88 (by kernel_rfl) (by kernel_rfl) (Nat.le_of_ble_eq_true (by kernel_rfl)) (r1 (bh .i64)) true (Ds x.1) (atu x.1 hc)
noncomputable abbrev az1:Nat × Bool × (List AV→M AV):=(88,true,c8 (aC br a0) Hz)
end Go.Proofs.YtgencolcibpcaaaGreat
end
