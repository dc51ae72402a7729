/- A piece of the proof of the law ZoneMakes: lemmas. No condition. -/
import Derived.Test.YtjagjbceegbaiaaGreatProg
import Derived.Test.YtjagjbceegbaiaaGreatRows
import Derived.Test.YtjagjbceegbaiaaGreatM5
set_option linter.unusedSimpArgs false
set_option linter.unusedVariables false
set_option linter.unusedSectionVars false
set_option maxRecDepth 2000000
section
namespace Go.Proofs.YtjagjbceegbaiaaGreat
open Go.Vm
set_option maxHeartbeats 20000000 in
theorem Ta (s:aw) (d:Nat):∀ (N a m b:Nat) (A L R Z:List bp),b - a<=d->N=(A++L++R++Z).length->N<=1048576->a=A.length->m=a+L.length->b=m+R.length->0<L.length->0<R.length->(∀ x ∈ L,vq s.type x)->(∀ x ∈ R,vq s.type x)->ke (fo s.type) L->ke (fo s.type) R ->
 iz PP 213 [.sl 0 0 N 4,zi a,zi m,zi b,(.fn (.func 170) [] [.ptr 1 0])] (ay [some (.row (cellsOf ai true ((A++L++R++Z))) 0 0 116),(zY s)])
  (fun r st'=>r = .gj []/\st'=ay [some (.row (cellsOf ai true ((A++fu (fo s.type) L R++Z))) 0 0 116),(zY s)]):=by
 induction d with
 |zero=>intro N a m b A L R Z hd hN hs ha hm hb hl hr;omega
 |succ d ih=>
 intro N a m b A L R Z hd hN hs ha hm hb hl hr eT fL jY mR;have hc:∀ a b c d,eh a b c=d->eh a b c=d:=fun _ _ _ _ h=>h
 have hlen:N=A.length+L.length+R.length+Z.length:=by rw [hN];simp;omega
 refine dr _ rfl ?_ (fun r st' h=>h);refine cb (T:=[ah6]) (ak.cons (aq Px) (ak.nil PP)) mixed Tryz.func213 rfl zK zK zK zK ?_;unfold Tryz.f213;have eP:(m:Int) - a=((L.length:Nat):Int):=zO
 repeat (first|simp only [↓wR,zT,simprocAttr,eP]|simp (disch:=omega) only [zW])
 rw [cp];refine ⟨fun ⟨h1,e1⟩=>?_,fun ⟨h1,e1⟩=>?_⟩
 ·have jJ:L.length=1:=zO;obtain ⟨x,rfl⟩:∃ x,L=[x]:=List.length_eq_one_iff.1 jJ;have cV:=eT x (by simp);have uO:∀ k c,R[k]? = some c->(A++[x]++R++Z)[m+k]? = some c:=fun k c hk=>by
   have dB:=(zg.1 hk).1;rw [zzc (A++[x]),zzd (by simp at hm ⊢;omega),show m+k - (A++[x]).length=k by simp at hm ⊢;omega,zzi dB,hk]
  have gx:(A++[x]++R++Z)[a]? = some x:=by rw [zzc,zzc,ha];exact get_at A _ x
  repeat (first|simp only [↓wR,zT,simprocAttr,h1]|simp (disch:=omega) only [zW])
  refine da [0,1,4,10,11] (fun (p:Nat × Nat)=>[.sl 0 0 N 4,zi a,(.fn (.func 170) [] [.ptr 1 0]),zi p.1,zi p.2]) (fun _=>[some (.row (cellsOf ai true ((A++[x]++R++Z))) 0 0 116),(zY s)]) (fun p=>m<=p.1/\p.1<=p.2/\p.2<=b/\(∀ c,0<p.1 - m->R[p.1 - m - 1]? = some c->(fo s.type) c x=true)/\(∀ c,R[p.2 - m]? = some c->(fo s.type) c x=false)) (fun p=>p.2 - p.1) (m,b) ⟨zza _,by show m<=b;omega,zza _,fun c hq=>by simp at hq,fun c hq=>by rw [zzy (by show R.length<=b - m;omega)] at hq;cases hq⟩ zS zS ?_;rintro ⟨i,j⟩ ⟨p1,p2,p3,p4,p5⟩;simp only [] at p1 p2 p3 p4 p5 ⊢;simp only [↓wR,zT,simprocAttr];rw [az];refine ⟨fun h=>?_,fun h=>?_⟩
  ·have hlt:i<j:=zO;obtain ⟨u,hu⟩:∃ u,u=(i+j) / 2:=⟨_,rfl⟩;have lD:i<=u/\u<j:=zO;have bB:=half i j zO;rw [<- hu] at bB;obtain ⟨y,hy⟩:∃ y,R[u - m]? = some y:=⟨_,zh zO⟩;have cU:=fL y (zm hy);have gy:=uO _ _ hy;rw [show m+(u - m)=u by omega] at gy;have l1:=my 0 0 116 gx;have l2:=my 0 0 116 gy
   repeat (first|simp only [↓wR,zT,simprocAttr,h,bB,↓l1,↓l2,ph,cV.1,cU.1]|simp (disch:=omega) only [zW])
   refine ⟨zK,.inl ?_⟩;rw [A6 (g:=170) (a:=[]) (b:=[.ptr 1 0])];rotate_left
   ·rfl
   simp only [↓wR,zT,simprocAttr];refine ⟨by apply hc;kernel_rfl,?_⟩;rw [az];refine ⟨fun hl=>?_,fun hl=>?_⟩
   ·have aY:(fo s.type) y x=true:=zp hl
    repeat (first|simp only [↓wR,zT,simprocAttr,hl]|simp (disch:=omega) only [zW])
    exact ⟨(u+1,j),⟨by show m<=u+1;omega,by show u+1<=j;omega,p3,fun c _ hcc=>by have aM:R[u+1 - m - 1]? = some c:=hcc;rw [show u+1 - m - 1=u - m by omega,hy] at aM;cases aM;exact aY,p5⟩,by show j - (u+1)<j - i;omega,zF⟩
   ·have aY:(fo s.type) y x=false:=zq hl
    repeat (first|simp only [↓wR,zT,simprocAttr,hl]|simp (disch:=omega) only [zW])
    exact ⟨(i,u),⟨p1,by show i<=u;omega,by show u<=b;omega,p4,fun c hcc=>by have aM:R[u - m]? = some c:=hcc;rw [hy] at aM;cases aM;exact aY⟩,by show u - i<j - i;omega,zF⟩
  ·have cJ:j=i:=zO;subst cJ;have dY:=afe (lt:=(fo s.type)) (x:=x) (l:=R) (i:=j - m) (ad4 (sr s.type) fL mR cV zO p4) p5;obtain ⟨R1,hR1⟩:∃ R1,R1=R.take (j - m):=⟨_,rfl⟩;obtain ⟨R2,hR2⟩:∃ R2,R2=R.drop (j - m):=⟨_,rfl⟩;have fK:R=R1++R2:=by rw [hR1,hR2,zzm]
   have uP:R1.length=j - m:=by rw [hR1,zzl];omega
   rw [<- hR1,<- hR2] at dY;rw [dY];simp only [↓wR,zT,simprocAttr,h];refine da [0,10,13] (fun (k:Nat)=>[.sl 0 0 N 4,zi j,zi k]) (fun k=>[some (.row (cellsOf ai true ((A++R1.take (k - a)++x::(R1.drop (k - a)++R2++Z)))) 0 0 116),(zY s)]) (fun k=>a<=k/\k+1<=j) (fun k=>j - k) a ⟨zza _,zO⟩ zS (by simp only [↓wR,zT,simprocAttr];rw [fK];simp) ?_;rintro k ⟨k1,k2⟩
   repeat (first|simp only [↓wR,zT,simprocAttr]|simp (disch:=omega) only [zW])
   rw [az];refine ⟨fun hk=>?_,fun hk=>?_⟩
   ·have dB:k+1<j:=zO;obtain ⟨y,hy⟩:∃ y,R1[k - a]? = some y:=⟨_,zh zO⟩;obtain ⟨X,hX⟩:∃ X,X=A++R1.take (k - a):=⟨_,rfl⟩;obtain ⟨W,hW⟩:∃ W,W=R1.drop (k - a+1)++R2++Z:=⟨_,rfl⟩;have aV:X.length=k:=by rw [hX,za,zzl];omega
    have bE:A++R1.take (k - a)++x::(R1.drop (k - a)++R2++Z)=X++x::y::W:=by rw [hX,hW,qj hy];simp
    have lq:A++R1.take (k+1 - a)++x::(R1.drop (k+1 - a)++R2++Z)=X++y::x::W:=by rw [hX,hW,show k+1 - a=k - a+1 by omega,jg hy];simp
    have g1:(X++x::y::W)[k]? = some x:=by rw [<- aV];exact get_at X _ x
    have hx1:(X++[x]).length=k+1:=by rw [za,aV];rfl
    have hy1:(X++[y]).length=k+1:=by rw [za,aV];rfl
    have g2:(X++x::y::W)[k+1]? = some y:=by have:=get_at (X++[x]) W y;rw [hx1] at this;rw [<- this];simp
    have s1:(X++x::y::W).set k y=X++y::y::W:=by rw [<- aV];exact uj X _ x y
    have g3:(X++y::y::W)[k+1]? = some y:=by have:=get_at (X++[y]) W y;rw [hy1] at this;rw [<- this];simp
    have s2:(X++y::y::W).set (k+1) x=X++y::x::W:=by have:=uj (X++[y]) W y x;rw [hy1] at this;simpa using this
    have l1:=my 0 0 116 g1;have l2:=my 0 0 116 g2;have t1:=wa y 0 116 0 g1;have t2:=wa x 0 116 0 g3;rw [s1] at t1;rw [s2] at t2;have eN:(k:Int)+1=((k+1:Nat):Int):=zO;rw [bE]
    repeat (first|simp only [↓wR,zT,simprocAttr,hk,eN,↓l1,↓l2,↓t1,↓t2]|simp (disch:=omega) only [zW])
    refine ⟨zK,.inl ?_⟩;exact ⟨by apply hc;kernel_rfl,k+1,⟨zO,zO⟩,zO,zF,by rw [lq]⟩
   ·have hkj:k - a=R1.length:=zO;rw [hkj,zz7,List.drop_length];simp only [↓wR,zT,simprocAttr,hk,i4,ir,ig,zzn];simp
 ·have jJ:L.length≠1:=zO;have bG:(b:Int) - m=((R.length:Nat):Int):=zO
  repeat (first|simp only [↓wR,zT,simprocAttr,h1,bG]|simp (disch:=omega) only [zW])
  rw [cp];refine ⟨fun ⟨h2,e2⟩=>?_,fun ⟨h2,e2⟩=>?_⟩
  ·have hR1:R.length=1:=zO;obtain ⟨y,rfl⟩:∃ y,R=[y]:=List.length_eq_one_iff.1 hR1;have cU:=fL y (by simp);have uR:∀ k c,L[k]? = some c->(A++L++[y]++Z)[a+k]? = some c:=fun k c hk=>by
    have dB:=(zg.1 hk).1;rw [zzc,zzc,zzd zO,show a+k - A.length=k by omega,zzi dB,hk]
   have gy:(A++L++[y]++Z)[m]? = some y:=by rw [zzc,show m=(A++L).length by rw [za];omega];exact get_at (A++L) _ y
   repeat (first|simp only [↓wR,zT,simprocAttr,h2]|simp (disch:=omega) only [zW])
   refine da [0,2,4,14,15] (fun (p:Nat × Nat)=>[.sl 0 0 N 4,zi m,(.fn (.func 170) [] [.ptr 1 0]),zi p.1,zi p.2]) (fun _=>[some (.row (cellsOf ai true ((A++L++[y]++Z))) 0 0 116),(zY s)]) (fun p=>a<=p.1/\p.1<=p.2/\p.2<=m/\(∀ c,0<p.1 - a->L[p.1 - a - 1]? = some c->(fo s.type) y c=false)/\(∀ c,L[p.2 - a]? = some c->(fo s.type) y c=true)) (fun p=>p.2 - p.1) (a,m) ⟨zza _,by show a<=m;omega,zza _,fun c hq=>by simp at hq,fun c hq=>by rw [zzy (by show L.length<=m - a;omega)] at hq;cases hq⟩ zS zS ?_;rintro ⟨i,j⟩ ⟨p1,p2,p3,p4,p5⟩;simp only [] at p1 p2 p3 p4 p5 ⊢;simp only [↓wR,zT,simprocAttr];rw [az];refine ⟨fun h=>?_,fun h=>?_⟩
   ·have hlt:i<j:=zO;obtain ⟨u,hu⟩:∃ u,u=(i+j) / 2:=⟨_,rfl⟩;have lD:i<=u/\u<j:=zO;have bB:=half i j zO;rw [<- hu] at bB;obtain ⟨x,hx⟩:∃ x,L[u - a]? = some x:=⟨_,zh zO⟩;have cV:=eT x (zm hx);have gx:=uR _ _ hx;rw [show a+(u - a)=u by omega] at gx;have l1:=my 0 0 116 gx;have l2:=my 0 0 116 gy
    repeat (first|simp only [↓wR,zT,simprocAttr,h,bB,↓l1,↓l2,ph,cV.1,cU.1]|simp (disch:=omega) only [zW])
    refine ⟨zK,.inl ?_⟩;rw [A6 (g:=170) (a:=[]) (b:=[.ptr 1 0])];rotate_left
    ·rfl
    simp only [↓wR,zT,simprocAttr,Ni];refine ⟨by apply hc;kernel_rfl,?_⟩;rw [az];refine ⟨fun hl=>?_,fun hl=>?_⟩
    ·have aY:(fo s.type) y x=false:=zq hl
     repeat (first|simp only [↓wR,zT,simprocAttr,hl]|simp (disch:=omega) only [zW])
     exact ⟨(u+1,j),⟨by show a<=u+1;omega,by show u+1<=j;omega,p3,fun c _ hcc=>by have aM:L[u+1 - a - 1]? = some c:=hcc;rw [show u+1 - a - 1=u - a by omega,hx] at aM;cases aM;exact aY,p5⟩,by show j - (u+1)<j - i;omega,zF⟩
    ·have aY:(fo s.type) y x=true:=zp (Decidable.not_not.1 hl)
     repeat (first|simp only [↓wR,zT,simprocAttr,hl]|simp (disch:=omega) only [zW])
     exact ⟨(i,u),⟨p1,by show i<=u;omega,by show u<=m;omega,p4,fun c hcc=>by have aM:L[u - a]? = some c:=hcc;rw [hx] at aM;cases aM;exact aY⟩,by show u - i<j - i;omega,zF⟩
   ·have cJ:j=i:=zO;subst cJ;have dY:=Ys (lt:=(fo s.type)) (y:=y) (l:=L) (i:=j - a) (Le (sr s.type) eT jY cU zO p4) (afd (sr s.type) eT jY cU p5);obtain ⟨L1,bV⟩:∃ L1,L1=L.take (j - a):=⟨_,rfl⟩;obtain ⟨L2,bU⟩:∃ L2,L2=L.drop (j - a):=⟨_,rfl⟩;have fM:L=L1++L2:=by rw [bV,bU,zzm]
    have bY:L1.length=j - a:=by rw [bV,zzl];omega
    have hl2:L2.length=m - j:=by rw [bU,zzt];omega
    rw [<- bV,<- bU] at dY;rw [dY];simp only [↓wR,zT,simprocAttr,h];refine da [0,14,17] (fun (k:Nat)=>[.sl 0 0 N 4,zi j,zi k]) (fun k=>[some (.row (cellsOf ai true ((A++L1++L2.take (k - j)++y::(L2.drop (k - j)++Z)))) 0 0 116),(zY s)]) (fun k=>j<=k/\k<=m) (fun k=>k) m ⟨zO,zza _⟩ zS (by simp only [↓wR,zT,simprocAttr];rw [<- hl2,zz7,List.drop_length,fM];simp) ?_;rintro k ⟨k1,k2⟩
    repeat (first|simp only [↓wR,zT,simprocAttr]|simp (disch:=omega) only [zW])
    rw [az];refine ⟨fun hk=>?_,fun hk=>?_⟩
    ·have dB:j<k:=zO;obtain ⟨x,hx⟩:∃ x,L2[k - 1 - j]? = some x:=⟨_,zh zO⟩;obtain ⟨X,hX⟩:∃ X,X=A++L1++L2.take (k - 1 - j):=⟨_,rfl⟩;obtain ⟨W,hW⟩:∃ W,W=L2.drop (k - j)++Z:=⟨_,rfl⟩;have mE:k - j=k - 1 - j+1:=zO;have aV:X.length=k - 1:=by rw [hX,za,za,zzl];omega
     have bE:A++L1++L2.take (k - j)++y::(L2.drop (k - j)++Z)=X++x::y::W:=by rw [hX,hW,mE,jg hx];simp
     have lq:A++L1++L2.take (k - 1 - j)++y::(L2.drop (k - 1 - j)++Z)=X++y::x::W:=by rw [hX,hW,qj hx,mE];simp
     have g1:(X++x::y::W)[k - 1]? = some x:=by rw [<- aV];exact get_at X _ x
     have hx1:(X++[x]).length=k:=by rw [za,aV,zyi];omega
     have g2:(X++x::y::W)[k]? = some y:=by have:=get_at (X++[x]) W y;rw [hx1] at this;rw [<- this];simp
     have s1:(X++x::y::W).set k x=X++x::x::W:=by have:=uj (X++[x]) W y x;rw [hx1] at this;simpa using this
     have g3:(X++x::x::W)[k - 1]? = some x:=by rw [<- aV];exact get_at X _ x
     have s2:(X++x::x::W).set (k - 1) y=X++y::x::W:=by rw [<- aV];exact uj X _ x y
     have l1:=my 0 0 116 g1;have l2:=my 0 0 116 g2;have t1:=wa x 0 116 0 g2;have t2:=wa y 0 116 0 g3;rw [s1] at t1;rw [s2] at t2;have eN:(k:Int) - 1=((k - 1:Nat):Int):=zO;rw [bE]
     repeat (first|simp only [↓wR,zT,simprocAttr,hk,eN,↓l1,↓l2,↓t1,↓t2]|simp (disch:=omega) only [zW])
     refine ⟨zK,.inl ?_⟩;exact ⟨by apply hc;kernel_rfl,k - 1,⟨zO,zO⟩,zO,zF,by rw [lq]⟩
    ·have hkj:k - j=0:=zO;rw [hkj];simp only [↓wR,zT,simprocAttr,hk,i4,ir,ig,zzn];simp
  ·have hR1:R.length≠1:=zO;obtain ⟨mid,eL⟩:∃ mid,mid=(a+b) / 2:=⟨_,rfl⟩;have bB:=half a b zO;rw [<- eL] at bB;have hmm:(mid:Int)+m=((mid+m:Nat):Int):=zO;obtain ⟨n,hn⟩:∃ n,n=mid+m:=⟨_,rfl⟩;rw [<- hn] at hmm;obtain ⟨s0,hs0⟩:∃ s0,s0=if mid<m then n - b else a:=⟨_,rfl⟩;obtain ⟨r0,iG⟩:∃ r0,r0=if mid<m then mid else m:=⟨_,rfl⟩;have eU:(n:Int) - 1=((n - 1:Nat):Int):=zO;have oD:a<=s0/\s0<=r0/\r0<=m/\r0<=mid/\n - b<=s0:=by subst hs0 iG;split<;>omega
   obtain ⟨X0,fJ⟩:∃ X0,X0=A++L++R++Z:=⟨_,rfl⟩;have qM:∀ k c,L[k]? = some c->X0[a+k]? = some c:=fun k c hk=>by have dB:=(zg.1 hk).1;rw [fJ,zzc,zzc,zzd zO,show a+k - A.length=k by omega,zzi dB,hk]
   have qL:∀ k c,R[k]? = some c->X0[m+k]? = some c:=fun k c hk=>by have dB:=(zg.1 hk).1;rw [fJ,zzc (A++L),zzd (by rw [za];omega),za,show m+k - (A.length+L.length)=k by omega,zzi dB,hk]
   rw [<- fJ];have iV:∀ st,s0<=st->st<=r0->(∀ c e,s0<st->L[st - 1 - a]? = some c->R[n - st - m]? = some e->(fo s.type) e c=false)->(∀ c e,st<r0->L[st - a]? = some c->R[n - 1 - st - m]? = some e->(fo s.type) e c=true) ->
    ∃ X1 X2,(st<m->m<n - st->iz PP 216 [.sl 0 0 N 4,zi st,zi m,zi ((n - st:Nat)),(.fn (.func 170) [] [.ptr 1 0])] (ay [some (.row (cellsOf ai true ((X0))) 0 0 116),(zY s)]) (fun r st'=>r = .gj []/\st'=ay [some (.row (cellsOf ai true ((X1))) 0 0 116),(zY s)]))/\(¬ (st<m/\m<n - st)->X0=X1) /\
     (a<st->st<mid->iz PP 213 [.sl 0 0 N 4,zi a,zi st,zi mid,(.fn (.func 170) [] [.ptr 1 0])] (ay [some (.row (cellsOf ai true ((X1))) 0 0 116),(zY s)]) (fun r st'=>r = .gj []/\st'=ay [some (.row (cellsOf ai true ((X2))) 0 0 116),(zY s)]))/\(¬ (a<st/\st<mid)->X1=X2) /\
     (mid<n - st->n - st<b->iz PP 213 [.sl 0 0 N 4,zi mid,zi ((n - st:Nat)),zi b,(.fn (.func 170) [] [.ptr 1 0])] (ay [some (.row (cellsOf ai true ((X2))) 0 0 116),(zY s)]) (fun r st'=>r = .gj []/\st'=ay [some (.row (cellsOf ai true ((A++fu (fo s.type) L R++Z))) 0 0 116),(zY s)]))/\(¬ (mid<n - st/\n - st<b)->X2=A++fu (fo s.type) L R++Z):=by
    intro st q1 q2 q3 q4;obtain ⟨L1,bV⟩:∃ L1,L1=L.take (st - a):=⟨_,rfl⟩;obtain ⟨L2,bU⟩:∃ L2,L2=L.drop (st - a):=⟨_,rfl⟩;obtain ⟨R1,dU⟩:∃ R1,R1=R.take (mid - st):=⟨_,rfl⟩;obtain ⟨R2,dT⟩:∃ R2,R2=R.drop (mid - st):=⟨_,rfl⟩;have fM:L=L1++L2:=by rw [bV,bU,zzm]
    have fK:R=R1++R2:=by rw [dU,dT,zzm]
    have n1:L1.length=st - a:=by rw [bV,zzl];omega
    have n2:L2.length=m - st:=by rw [bU,zzt];omega
    have n3:R1.length=mid - st:=by rw [dU,zzl];omega
    have n4:R2.length=b - (n - st):=by rw [dT,zzt];omega
    have r1:ke (fo s.type) L1:=by rw [bV];exact jY.take _
    have r2:ke (fo s.type) L2:=by rw [bU];exact jY.drop _
    have r3:ke (fo s.type) R1:=by rw [dU];exact mR.take _
    have r4:ke (fo s.type) R2:=by rw [dT];exact mR.drop _
    have v1:∀ x ∈ L1,vq s.type x:=fun x hx=>eT x (by rw [fM];simp [hx])
    have v2:∀ x ∈ L2,vq s.type x:=fun x hx=>eT x (by rw [fM];simp [hx])
    have v3:∀ x ∈ R1,vq s.type x:=fun x hx=>fL x (by rw [fK];simp [hx])
    have v4:∀ x ∈ R2,vq s.type x:=fun x hx=>fL x (by rw [fK];simp [hx])
    have f1:∀ x ∈ L1,∀ y ∈ R2,(fo s.type) y x=false:=by
     by_cases k1:a<st
     ·by_cases k2:n - st<b
      ·obtain ⟨c,hcc⟩:∃ c,L[st - 1 - a]? = some c:=⟨_,zh zO⟩;obtain ⟨e,cC⟩:∃ e,R[n - st - m]? = some e:=⟨_,zh zO⟩;have hlt:=q3 c e (by subst hs0;split<;>omega) hcc cC;have t1:L1=L.take (st - 1 - a)++[c]:=by rw [bV,show st - a=st - 1 - a+1 by omega,jg hcc]
       have t2:R2=e::R.drop (n - st - m+1):=by rw [dT,show mid - st=n - st - m by omega,qj cC]
       rw [t1,t2];exact Rj (sr s.type) (fun z hz=>v1 z (by rw [t1];exact hz)) (fun z hz=>v4 z (by rw [t2];exact hz)) (by rw [<- t1];exact r1) (by rw [<- t2];exact r4) hlt
      ·have:R2=[]:=zzf zO;rw [this];intro x _ y hy;cases hy
     ·have:L1=[]:=zzf zO;rw [this];intro x hx;cases hx
    have f2:∀ x ∈ L2,∀ y ∈ R1,(fo s.type) y x=true:=by
     by_cases k1:st<m
     ·by_cases k2:st<mid
      ·obtain ⟨c,hcc⟩:∃ c,L[st - a]? = some c:=⟨_,zh zO⟩;obtain ⟨e,cC⟩:∃ e,R[n - 1 - st - m]? = some e:=⟨_,zh zO⟩;have hlt:=q4 c e (by subst iG;split<;>omega) hcc cC;have t1:L2=c::L.drop (st - a+1):=by rw [bU,qj hcc]
       have t2:R1=R.take (n - 1 - st - m)++[e]:=by rw [dU,show mid - st=n - 1 - st - m+1 by omega,jg cC]
       rw [t1,t2];exact O4 (sr s.type) (fun z hz=>v2 z (by rw [t1];exact hz)) (fun z hz=>v3 z (by rw [t2];exact hz)) (by rw [<- t1];exact r2) (by rw [<- t2];exact r3) hlt
      ·have:R1=[]:=zzf zO;rw [this];intro x _ y hy;cases hy
     ·have:L2=[]:=zzf zO;rw [this];intro x hx;cases hx
    have pF:fu (fo s.type) L R=fu (fo s.type) L1 R1++fu (fo s.type) L2 R2:=by rw [fM,fK];exact sy L1 L2 R1 R2 f1 f2
    have m1:(fu (fo s.type) L1 R1).length=mid - a:=by rw [Z5];omega
    have BI:N=A.length+L1.length+L2.length+R1.length+R2.length+Z.length:=zO;refine ⟨A++L1++R1++(L2++R2++Z),A++fu (fo s.type) L1 R1++(L2++R2++Z),fun k1 k2=>?_,fun k=>?_,fun k1 k2=>?_,fun k=>?_,fun k1 k2=>?_,fun k=>?_⟩
    ·have:=aj3 s N st m (n - st) (A++L1) L2 R1 (R2++Z) (by simp only [za];omega) hs (by rw [za];omega) zO zO zO zO;rw [show A++L1++L2++R1++(R2++Z)=X0 by rw [fJ,fM,fK];simp,show A++L1++R1++L2++(R2++Z)=A++L1++R1++(L2++R2++Z) by simp] at this;exact this
    ·rw [fJ,fM,fK];by_cases k1:st<m
     ·have:R1=[]:=zzf zO;rw [this];simp
     ·have:L2=[]:=zzf zO;rw [this];simp
    ·exact ih N a st mid A L1 R1 (L2++R2++Z) zO (by simp only [za];omega) hs ha zO zO zO zO v1 v3 r1 r3
    ·by_cases k1:a<st
     ·have:R1=[]:=zzf zO;rw [this,k8];simp
     ·have:L1=[]:=zzf zO;rw [this,mb];simp
    ·have:=ih N mid (n - st) b (A++fu (fo s.type) L1 R1) L2 R2 Z zO (by simp only [za,m1];omega) hs (by rw [za,m1];omega) zO zO zO zO v2 v4 r2 r4;rw [pF];rw [show A++fu (fo s.type) L1 R1++L2++R2++Z=A++fu (fo s.type) L1 R1++(L2++R2++Z) by simp,show A++fu (fo s.type) L1 R1++fu (fo s.type) L2 R2++Z=A++(fu (fo s.type) L1 R1++fu (fo s.type) L2 R2)++Z by simp] at this;exact this
    ·rw [pF];by_cases k1:mid<n - st
     ·have:R2=[]:=zzf zO;rw [this,k8];simp
     ·have:L2=[]:=zzf zO;rw [this,mb];simp
   repeat (first|simp only [↓wR,zT,simprocAttr,h2,bB,hmm]|simp (disch:=omega) only [zW])
   rw [az];refine ⟨fun hg=>?_,fun hg=>?_⟩
   ·have e3:(n:Int) - b=((s0:Nat):Int):=by rw [hs0,if_pos zO];omega
    have e4:((mid:Nat):Int)=((r0:Nat):Int):=by rw [iG,if_pos zO]
    repeat (first|simp only [↓wR,zT,simprocAttr,hg,e3,eU]|simp (disch:=omega) only [zW])
    refine da [0,1,2,3,4,18,19,20,21,22] (fun (p:Nat × Nat)=>[.sl 0 0 N 4,zi a,zi m,zi b,(.fn (.func 170) [] [.ptr 1 0]),zi mid,zi n,zi p.1,zi p.2,zi (((n - 1:Nat):Int))]) (fun _=>[some (.row (cellsOf ai true ((X0))) 0 0 116),(zY s)]) (fun p=>s0<=p.1/\p.1<=p.2/\p.2<=r0/\(∀ c e,s0<p.1->L[p.1 - 1 - a]? = some c->R[n - p.1 - m]? = some e->(fo s.type) e c=false)/\(∀ c e,p.2<r0->L[p.2 - a]? = some c->R[n - 1 - p.2 - m]? = some e->(fo s.type) e c=true)) (fun p=>p.2 - p.1) (s0,r0) ⟨zza _,oD.2.1,zza _,fun _ _ q=>absurd q (Nat.lt_irrefl _),fun _ _ q=>absurd q (Nat.lt_irrefl _)⟩ (by simp only [↓wR,zT,simprocAttr];rw [e4]) zS ?_;rintro ⟨i,j⟩ ⟨p1,p2,p3,p4,p5⟩;simp only [] at p1 p2 p3 p4 p5 ⊢;simp only [↓wR,zT,simprocAttr];rw [az];refine ⟨fun h=>?_,fun h=>?_⟩
    ·have hlt:i<j:=zO;obtain ⟨u,hu⟩:∃ u,u=(i+j) / 2:=⟨_,rfl⟩;have lD:i<=u/\u<j:=zO;have bC:=half i j zO;rw [<- hu] at bC;obtain ⟨x,hx⟩:∃ x,L[u - a]? = some x:=⟨_,zh zO⟩;obtain ⟨y,hy⟩:∃ y,R[n - 1 - u - m]? = some y:=⟨_,zh zO⟩;have cV:=eT x (zm hx);have cU:=fL y (zm hy);have gx:=qM _ _ hx;rw [show a+(u - a)=u by omega] at gx;have gy:=qL _ _ hy;rw [show m+(n - 1 - u - m)=n - 1 - u by omega] at gy;have lR:((n - 1:Nat):Int) - u=((n - 1 - u:Nat):Int):=zO;have l1:=my 0 0 116 gx;have l2:=my 0 0 116 gy
     repeat (first|simp only [↓wR,zT,simprocAttr,h,bC,lR,↓l1,↓l2,ph,cV.1,cU.1]|simp (disch:=omega) only [zW])
     refine ⟨zK,.inl ?_⟩;rw [A6 (g:=170) (a:=[]) (b:=[.ptr 1 0])];rotate_left
     ·rfl
     simp only [↓wR,zT,simprocAttr,Ni];refine ⟨by apply hc;kernel_rfl,?_⟩;rw [az];refine ⟨fun hl=>?_,fun hl=>?_⟩
     ·have aY:(fo s.type) y x=false:=zq hl
      repeat (first|simp only [↓wR,zT,simprocAttr,hl]|simp (disch:=omega) only [zW])
      exact ⟨(u+1,j),⟨by show s0<=u+1;omega,by show u+1<=j;omega,p3,fun c e _ hcc cC=>by have aM:L[u+1 - 1 - a]? = some c:=hcc;have bD:R[n - (u+1) - m]? = some e:=cC;rw [show u+1 - 1 - a=u - a by omega,hx] at aM;rw [show n - (u+1) - m=n - 1 - u - m by omega,hy] at bD;cases aM;cases bD;exact aY,p5⟩,by show j - (u+1)<j - i;omega,zF⟩
     ·have aY:(fo s.type) y x=true:=zp (Decidable.not_not.1 hl)
      repeat (first|simp only [↓wR,zT,simprocAttr,hl]|simp (disch:=omega) only [zW])
      exact ⟨(i,u),⟨p1,by show i<=u;omega,by show u<=r0;omega,p4,fun c e _ hcc cC=>by have aM:L[u - a]? = some c:=hcc;have bD:R[n - 1 - u - m]? = some e:=cC;rw [hx] at aM;rw [hy] at bD;cases aM;cases bD;exact aY⟩,by show u - i<j - i;omega,zF⟩
    ·have cJ:j=i:=zO;subst cJ;obtain ⟨X1,X2,c1,c2,c3,c4,c5,c6⟩:=iV j p1 p3 p4 p5;have hen:(n:Int) - j=((n - j:Nat):Int):=zO;obtain ⟨en,fH⟩:∃ en,en=n - j:=⟨_,rfl⟩;rw [<- fH] at c1 c2 c5 c6 hen;obtain ⟨X3,mQ⟩:∃ X3,X3=A++fu (fo s.type) L R++Z:=⟨_,rfl⟩;rw [<- mQ] at c5 c6 ⊢;have b1:m<en↔j<mid:=zO;have b2:mid<en↔j<m:=zO;by_cases k1:a<j<;>by_cases k2:j<m<;>by_cases k3:j<mid<;>by_cases k4:en<b<;>first
      |(exfalso;omega)
      |(
       have d1:=k1;have d2:=k2;have d3:=k3;have d4:=k4;have hwr:IntKind.i64.wrap (en:Int)=en:=ag _ zO zO;have d5:decide (m<en)=decide (j<mid):=decide_eq_decide.2 b1;have d6:decide (mid<en)=decide (j<m):=decide_eq_decide.2 b2
       (try rw [c2 zO])
       simp only [↓wR,zT,simprocAttr,h,hen,hwr,B2,d1,d2,d3,d4,d5,d6]
       (try (refine fy (c1 zO zO) ?_;rintro _ _ ⟨rfl,rfl⟩;simp only [↓wR,zT,simprocAttr,dm,h,hen,hwr,B2,d1,d2,d3,d4,d5,d6]))
       (try rw [c4 zO])
       (try (refine fy (c3 zO zO) ?_;rintro _ _ ⟨rfl,rfl⟩;simp only [↓wR,zT,simprocAttr,dm,h,hen,hwr,B2,d1,d2,d3,d4,d5,d6]))
       (try rw [c6 zO])
       (try (refine fy (c5 zO zO) ?_;rintro _ _ ⟨rfl,rfl⟩;simp only [↓wR,zT,simprocAttr,dm,h,hen,hwr,B2,d1,d2,d3,d4,d5,d6]))
       simp only [↓wR,zT,simprocAttr,i4,ir,ig])
   ·have e3:((a:Nat):Int)=((s0:Nat):Int):=by rw [hs0,if_neg zO]
    have e4:((m:Nat):Int)=((r0:Nat):Int):=by rw [iG,if_neg zO]
    repeat (first|simp only [↓wR,zT,simprocAttr,hg,eU]|simp (disch:=omega) only [zW])
    refine da [0,1,2,3,4,18,19,20,21,22] (fun (p:Nat × Nat)=>[.sl 0 0 N 4,zi a,zi m,zi b,(.fn (.func 170) [] [.ptr 1 0]),zi mid,zi n,zi p.1,zi p.2,zi (((n - 1:Nat):Int))]) (fun _=>[some (.row (cellsOf ai true ((X0))) 0 0 116),(zY s)]) (fun p=>s0<=p.1/\p.1<=p.2/\p.2<=r0/\(∀ c e,s0<p.1->L[p.1 - 1 - a]? = some c->R[n - p.1 - m]? = some e->(fo s.type) e c=false)/\(∀ c e,p.2<r0->L[p.2 - a]? = some c->R[n - 1 - p.2 - m]? = some e->(fo s.type) e c=true)) (fun p=>p.2 - p.1) (s0,r0) ⟨zza _,oD.2.1,zza _,fun _ _ q=>absurd q (Nat.lt_irrefl _),fun _ _ q=>absurd q (Nat.lt_irrefl _)⟩ (by simp only [↓wR,zT,simprocAttr];rw [<- e3,<- e4]) zS ?_;rintro ⟨i,j⟩ ⟨p1,p2,p3,p4,p5⟩;simp only [] at p1 p2 p3 p4 p5 ⊢;simp only [↓wR,zT,simprocAttr];rw [az];refine ⟨fun h=>?_,fun h=>?_⟩
    ·have hlt:i<j:=zO;obtain ⟨u,hu⟩:∃ u,u=(i+j) / 2:=⟨_,rfl⟩;have lD:i<=u/\u<j:=zO;have bC:=half i j zO;rw [<- hu] at bC;obtain ⟨x,hx⟩:∃ x,L[u - a]? = some x:=⟨_,zh zO⟩;obtain ⟨y,hy⟩:∃ y,R[n - 1 - u - m]? = some y:=⟨_,zh zO⟩;have cV:=eT x (zm hx);have cU:=fL y (zm hy);have gx:=qM _ _ hx;rw [show a+(u - a)=u by omega] at gx;have gy:=qL _ _ hy;rw [show m+(n - 1 - u - m)=n - 1 - u by omega] at gy;have lR:((n - 1:Nat):Int) - u=((n - 1 - u:Nat):Int):=zO;have l1:=my 0 0 116 gx;have l2:=my 0 0 116 gy
     repeat (first|simp only [↓wR,zT,simprocAttr,h,bC,lR,↓l1,↓l2,ph,cV.1,cU.1]|simp (disch:=omega) only [zW])
     refine ⟨zK,.inl ?_⟩;rw [A6 (g:=170) (a:=[]) (b:=[.ptr 1 0])];rotate_left
     ·rfl
     simp only [↓wR,zT,simprocAttr,Ni];refine ⟨by apply hc;kernel_rfl,?_⟩;rw [az];refine ⟨fun hl=>?_,fun hl=>?_⟩
     ·have aY:(fo s.type) y x=false:=zq hl
      repeat (first|simp only [↓wR,zT,simprocAttr,hl]|simp (disch:=omega) only [zW])
      exact ⟨(u+1,j),⟨by show s0<=u+1;omega,by show u+1<=j;omega,p3,fun c e _ hcc cC=>by have aM:L[u+1 - 1 - a]? = some c:=hcc;have bD:R[n - (u+1) - m]? = some e:=cC;rw [show u+1 - 1 - a=u - a by omega,hx] at aM;rw [show n - (u+1) - m=n - 1 - u - m by omega,hy] at bD;cases aM;cases bD;exact aY,p5⟩,by show j - (u+1)<j - i;omega,zF⟩
     ·have aY:(fo s.type) y x=true:=zp (Decidable.not_not.1 hl)
      repeat (first|simp only [↓wR,zT,simprocAttr,hl]|simp (disch:=omega) only [zW])
      exact ⟨(i,u),⟨p1,by show i<=u;omega,by show u<=r0;omega,p4,fun c e _ hcc cC=>by have aM:L[u - a]? = some c:=hcc;have bD:R[n - 1 - u - m]? = some e:=cC;rw [hx] at aM;rw [hy] at bD;cases aM;cases bD;exact aY⟩,by show u - i<j - i;omega,zF⟩
    ·have cJ:j=i:=zO;subst cJ;obtain ⟨X1,X2,c1,c2,c3,c4,c5,c6⟩:=iV j p1 p3 p4 p5;have hen:(n:Int) - j=((n - j:Nat):Int):=zO;obtain ⟨en,fH⟩:∃ en,en=n - j:=⟨_,rfl⟩;rw [<- fH] at c1 c2 c5 c6 hen;obtain ⟨X3,mQ⟩:∃ X3,X3=A++fu (fo s.type) L R++Z:=⟨_,rfl⟩;rw [<- mQ] at c5 c6 ⊢;have b1:m<en↔j<mid:=zO;have b2:mid<en↔j<m:=zO;by_cases k1:a<j<;>by_cases k2:j<m<;>by_cases k3:j<mid<;>by_cases k4:en<b<;>first
      |(exfalso;omega)
      |(
       have d1:=k1;have d2:=k2;have d3:=k3;have d4:=k4;have hwr:IntKind.i64.wrap (en:Int)=en:=ag _ zO zO;have d5:decide (m<en)=decide (j<mid):=decide_eq_decide.2 b1;have d6:decide (mid<en)=decide (j<m):=decide_eq_decide.2 b2
       (try rw [c2 zO])
       simp only [↓wR,zT,simprocAttr,h,hen,hwr,B2,d1,d2,d3,d4,d5,d6]
       (try (refine fy (c1 zO zO) ?_;rintro _ _ ⟨rfl,rfl⟩;simp only [↓wR,zT,simprocAttr,dm,h,hen,hwr,B2,d1,d2,d3,d4,d5,d6]))
       (try rw [c4 zO])
       (try (refine fy (c3 zO zO) ?_;rintro _ _ ⟨rfl,rfl⟩;simp only [↓wR,zT,simprocAttr,dm,h,hen,hwr,B2,d1,d2,d3,d4,d5,d6]))
       (try rw [c6 zO])
       (try (refine fy (c5 zO zO) ?_;rintro _ _ ⟨rfl,rfl⟩;simp only [↓wR,zT,simprocAttr,dm,h,hen,hwr,B2,d1,d2,d3,d4,d5,d6]))
       simp only [↓wR,zT,simprocAttr,i4,ir,ig])
theorem agw (s:aw) (N:Nat) (X:List bp) (hN:N=X.length) (hs:N<=1048576) (hV:∀ x ∈ X,vq s.type x) :
 iz PP 198 [.sl 0 0 N 4,zi N,(.fn (.func 170) [] [.ptr 1 0])] (ay [some (.row (cellsOf ai true ((X))) 0 0 116),(zY s)])
  (fun r st'=>r = .gj []/\st'=ay [some (.row (cellsOf ai true ((ec (fo s.type) X))) 0 0 116),(zY s)]):=by
 refine dr _ rfl ?_ (fun r st' h=>h);refine cb (T:=[]) (ak.nil PP) mixed Tryz.func198 rfl zK zK zK zK ?_;unfold Tryz.f198;simp only [↓wR,zT,simprocAttr];refine da [0,1,2,6,7,8] (fun (x:List bp × List bp)=>[.sl 0 0 N 4,zi N,(.fn (.func 170) [] [.ptr 1 0]),zi 20,zi x.1.length,zi (((x.1.length+20:Nat):Int))]) (fun x=>[some (.row (cellsOf ai true ((x.1++x.2))) 0 0 116),(zY s)]) (fun x=>x.1++ju (fo s.type) 20 x.2=ju (fo s.type) 20 X/\x.1.length+x.2.length=N/\∀ y ∈ x.2,vq s.type y) (fun x=>x.2.length) ([],X) ⟨rfl,by rw [hN];simp,hV⟩ zS zS ?_;rintro ⟨D,Y⟩ ⟨h1,h2,h3⟩;simp only [] at h1 h2 h3 ⊢;simp only [↓wR,zT,simprocAttr];rw [az];refine ⟨fun h=>?_,fun h=>?_⟩
 ·have hle : 20<=Y.length:=zO;have hY:Y=Y.take 20++Y.drop 20:=(zzm 20 Y).symm;have bY:(Y.take 20).length=20:=by rw [zzl];omega
  have aT:=Tq s N D.length (D.length+20) D (Y.take 20) (Y.drop 20) (by simp only [za,zzl,zzt];omega) hs rfl zO (fun x hx=>h3 x (zzr hx));rw [show D++Y.take 20++Y.drop 20=D++Y by rw [zzc,zzm]] at aT;have hb1:((D.length+20:Nat):Int)+20=((D.length+20+20:Nat):Int):=zO
  repeat (first|simp only [↓wR,zT,simprocAttr,h]|simp (disch:=omega) only [zW])
  refine fy aT ?_;rintro _ _ ⟨rfl,rfl⟩
  repeat (first|simp only [↓wR,zT,simprocAttr,dm,hb1]|simp (disch:=omega) only [zW])
  refine ⟨(D++ec (fo s.type) (Y.take 20),Y.drop 20),⟨?_,?_,fun y hy=>h3 y (zz8 hy)⟩,?_,?_,?_⟩
  ·rw [<- h1,E4 (l:=Y) (by decide) hle,zzc]
  ·simp only [za,fl,zzt,bY];omega
  ·simp only [zzt];omega
  ·simp only [za,fl,bY]<;>rfl
  ·rfl
 ·have hle:Y.length<20:=zO;have aT:=Tq s N D.length N D Y [] (by simp only [za,List.length_nil];omega) hs rfl zO h3;rw [zzn,zzn,show D++ec (fo s.type) Y=ju (fo s.type) 20 X by rw [<- h1,tl zO]] at aT
  repeat (first|simp only [↓wR,zT,simprocAttr,h]|simp (disch:=omega) only [zW])
  refine fy aT ?_;rintro _ _ ⟨rfl,rfl⟩
  repeat (first|simp only [↓wR,zT,simprocAttr,dm]|simp (disch:=omega) only [zW])
  refine da [0,1,2,6] (fun (k:Nat)=>[.sl 0 0 N 4,zi N,(.fn (.func 170) [] [.ptr 1 0]),zi k]) (fun k=>[some (.row (cellsOf ai true ((ju (fo s.type) k X))) 0 0 116),(zY s)]) (fun k=>0<k/\k<=2 * N+40) (fun k=>N - k) 20 ⟨by decide,zO⟩ zS zS ?_;clear h1 h2 h3 h hle aT D Y;rintro k ⟨hk0,eN⟩;simp only [↓wR,zT,simprocAttr];rw [az];refine ⟨fun h=>?_,fun h=>?_⟩
  ·have e2:(2:Int) * k=((k+k:Nat):Int):=zO
   repeat (first|simp only [↓wR,zT,simprocAttr,h,e2]|simp (disch:=omega) only [zW])
   refine da [0,1,2,6,7,8] (fun (x:List bp × List bp)=>[.sl 0 0 N 4,zi N,(.fn (.func 170) [] [.ptr 1 0]),zi k,zi x.1.length,zi (((x.1.length+(k+k):Nat):Int))]) (fun x=>[some (.row (cellsOf ai true ((x.1++ju (fo s.type) k x.2))) 0 0 116),(zY s)]) (fun x=>x.1++ju (fo s.type) (k+k) x.2=ju (fo s.type) (k+k) X/\x.1.length+x.2.length=N/\∀ y ∈ x.2,vq s.type y) (fun x=>x.2.length) ([],X) ⟨rfl,by rw [hN];simp,hV⟩ (by simp only [↓wR,zT,simprocAttr]<;>simp) zS ?_;rintro ⟨D,Y⟩ ⟨h1,h2,h3⟩;simp only [] at h1 h2 h3 ⊢;have hm1:(D.length:Int)+k=((D.length+k:Nat):Int):=zO;simp only [↓wR,zT,simprocAttr];rw [az];refine ⟨fun h4=>?_,fun h4=>?_⟩
   ·have hle:k+k<=Y.length:=zO;have hb1:((D.length+(k+k):Nat):Int)+((k+k:Nat):Int)=((D.length+(k+k)+(k+k):Nat):Int):=zO;have l1:(Y.take k).length=k:=by rw [zzl];omega
    have l2:((Y.drop k).take k).length=k:=by rw [zzl,zzt];omega
    have cY:=Ta s (k+k) N D.length (D.length+k) (D.length+(k+k)) D (ec (fo s.type) (Y.take k)) (ec (fo s.type) ((Y.drop k).take k)) (ju (fo s.type) k (Y.drop (k+k))) zO (by simp only [za,fl,l1,l2,arw hk0 _ _ (zza _),zzt];omega) hs rfl (by rw [fl,l1]) (by rw [fl,l2];omega) (by rw [fl,l1];exact hk0) (by rw [fl,l2];exact hk0) (fun x hx=>h3 x (zzr (lx.1 hx))) (fun x hx=>h3 x (zz8 (zzr (lx.1 hx)))) (om (sr s.type) _ (fun y hy=>h3 y (zzr hy))) (om (sr s.type) _ (fun y hy=>h3 y (zz8 (zzr hy))));rw [Iu (sr s.type) _ _ (fun y hy=>h3 y (zzr hy)) (fun y hy=>h3 y (zz8 (zzr hy))),am5,show D++ec (fo s.type) (Y.take k)++ec (fo s.type) ((Y.drop k).take k)++ju (fo s.type) k (Y.drop (k+k))=D++ju (fo s.type) k Y by rw [apy hk0 hle];simp] at cY
    repeat (first|simp only [↓wR,zT,simprocAttr,h4,hm1]|simp (disch:=omega) only [zW])
    refine fy cY ?_;rintro _ _ ⟨rfl,rfl⟩
    repeat (first|simp only [↓wR,zT,simprocAttr,dm,e2,hb1]|simp (disch:=omega) only [zW])
    refine ⟨(D++ec (fo s.type) (Y.take (k+k)),Y.drop (k+k)),⟨?_,?_,fun y hy=>h3 y (zz8 hy)⟩,?_,?_,?_⟩
    ·rw [<- h1,E4 (l:=Y) zO hle,zzc]
    ·simp only [za,fl,zzt,zzl];omega
    ·simp only [zzt];omega
    ·have:(D++ec (fo s.type) (Y.take (k+k))).length=D.length+(k+k):=by simp only [za,fl,zzl];omega
     simp only [this]
    ·rfl
   ·have hle:Y.length<k+k:=zO;have e3:(k:Int) * 2=((k+k:Nat):Int):=zO
    repeat (first|simp only [↓wR,zT,simprocAttr,h4,hm1]|simp (disch:=omega) only [zW])
    rw [az];refine ⟨fun h5=>?_,fun h5=>?_⟩
    ·have hlt:k<Y.length:=zO;have l1:(Y.take k).length=k:=by rw [zzl];omega
     have cY:=Ta s (k+k) N D.length (D.length+k) N D (ec (fo s.type) (Y.take k)) (ec (fo s.type) (Y.drop k)) [] zO (by simp only [za,fl,l1,zzt,List.length_nil];omega) hs rfl (by rw [fl,l1]) (by rw [fl,zzt];omega) (by rw [fl,l1];exact hk0) (by rw [fl,zzt];omega) (fun x hx=>h3 x (zzr (lx.1 hx))) (fun x hx=>h3 x (zz8 (lx.1 hx))) (om (sr s.type) _ (fun y hy=>h3 y (zzr hy))) (om (sr s.type) _ (fun y hy=>h3 y (zz8 hy)));rw [Iu (sr s.type) _ _ (fun y hy=>h3 y (zzr hy)) (fun y hy=>h3 y (zz8 hy)),zzm,zzn,zzn,show D++ec (fo s.type) (Y.take k)++ec (fo s.type) (Y.drop k)=D++ju (fo s.type) k Y by rw [akx hk0 hlt zO];simp,show D++ec (fo s.type) Y=ju (fo s.type) (k+k) X by rw [<- h1,tl zO]] at cY
     repeat (first|simp only [↓wR,zT,simprocAttr,h5]|simp (disch:=omega) only [zW])
     refine fy cY ?_;rintro _ _ ⟨rfl,rfl⟩
     repeat (first|simp only [↓wR,zT,simprocAttr,dm,e3]|simp (disch:=omega) only [zW])
     exact ⟨k+k,⟨zO,zO⟩,zO,zF,zF⟩
    ·have hlt:Y.length<=k:=zO;rw [show D++ju (fo s.type) k Y=ju (fo s.type) (k+k) X by rw [<- h1,tl hlt,tl zO]]
     repeat (first|simp only [↓wR,zT,simprocAttr,h5,e3]|simp (disch:=omega) only [zW])
     exact ⟨k+k,⟨zO,zO⟩,zO,zF,zF⟩
  ·have hle:X.length<=k:=zO;rw [tl hle];simp only [↓wR,zT,simprocAttr,h,i4,ir,ig]
theorem ags (s:aw) (N:Nat) (X:List bp) (hN:N=X.length) (hs:N<=1048576) (hV:∀ x ∈ X,vq s.type x) :
 iz PP 169 [.sl 0 0 N 4,(.fn (.func 170) [] [.ptr 1 0])] (ay [some (.row (cellsOf ai true ((X))) 0 0 116),(zY s)])
  (fun r st'=>r = .gj []/\st'=ay [some (.row (cellsOf ai true ((ec (fo s.type) X))) 0 0 116),(zY s)]):=by
 refine dr _ rfl ?_ (fun r st' h=>h);refine cb (T:=[]) (ak.nil PP) mixed Tryz.func169 rfl zK zK zK zK ?_;unfold Tryz.f169;simp only [↓wR,zT,simprocAttr];refine fy (agw s N X hN hs hV) ?_;rintro _ _ ⟨rfl,rfl⟩;simp only [↓wR,zT,simprocAttr,dm,i4,ir,ig]
theorem ag6 (N:Nat) (X:List aw) (hN:N=X.length) (hs:N<=1048576) (hV:∀ x ∈ X,cw x) :
 iz PP 194 [.sl 0 0 N 5,zi N,(.sc (.func (.func 164) #[] #[]))] (ay [some (.row (cellsOf aj true ((X))) 0 0 63)])
  (fun r st'=>r = .gj []/\st'=ay [some (.row (cellsOf aj true ((ec fj X))) 0 0 63)]):=by
 refine dr _ rfl ?_ (fun r st' h=>h);refine cb (T:=[]) (ak.nil PP) mixed Tryz.func194 rfl zK zK zK zK ?_;unfold Tryz.f194;simp only [↓wR,zT,simprocAttr];refine da [0,1,2,6,7,8] (fun (x:List aw × List aw)=>[.sl 0 0 N 5,zi N,(.sc (.func (.func 164) #[] #[])),zi 20,zi x.1.length,zi (((x.1.length+20:Nat):Int))]) (fun x=>[some (.row (cellsOf aj true ((x.1++x.2))) 0 0 63)]) (fun x=>x.1++ju fj 20 x.2=ju fj 20 X/\x.1.length+x.2.length=N/\∀ y ∈ x.2,cw y) (fun x=>x.2.length) ([],X) ⟨rfl,by rw [hN];simp,hV⟩ zS zS ?_;rintro ⟨D,Y⟩ ⟨h1,h2,h3⟩;simp only [] at h1 h2 h3 ⊢;simp only [↓wR,zT,simprocAttr];rw [az];refine ⟨fun h=>?_,fun h=>?_⟩
 ·have hle : 20<=Y.length:=zO;have hY:Y=Y.take 20++Y.drop 20:=(zzm 20 Y).symm;have bY:(Y.take 20).length=20:=by rw [zzl];omega
  have aT:=Qr N D.length (D.length+20) D (Y.take 20) (Y.drop 20) (by simp only [za,zzl,zzt];omega) hs rfl zO (fun x hx=>h3 x (zzr hx));rw [show D++Y.take 20++Y.drop 20=D++Y by rw [zzc,zzm]] at aT;have hb1:((D.length+20:Nat):Int)+20=((D.length+20+20:Nat):Int):=zO
  repeat (first|simp only [↓wR,zT,simprocAttr,h]|simp (disch:=omega) only [zW])
  refine fy aT ?_;rintro _ _ ⟨rfl,rfl⟩
  repeat (first|simp only [↓wR,zT,simprocAttr,dm,hb1]|simp (disch:=omega) only [zW])
  refine ⟨(D++ec fj (Y.take 20),Y.drop 20),⟨?_,?_,fun y hy=>h3 y (zz8 hy)⟩,?_,?_,?_⟩
  ·rw [<- h1,E4 (l:=Y) (by decide) hle,zzc]
  ·simp only [za,fl,zzt,bY];omega
  ·simp only [zzt];omega
  ·simp only [za,fl,bY]<;>rfl
  ·rfl
 ·have hle:Y.length<20:=zO;have aT:=Qr N D.length N D Y [] (by simp only [za,List.length_nil];omega) hs rfl zO h3;rw [zzn,zzn,show D++ec fj Y=ju fj 20 X by rw [<- h1,tl zO]] at aT
  repeat (first|simp only [↓wR,zT,simprocAttr,h]|simp (disch:=omega) only [zW])
  refine fy aT ?_;rintro _ _ ⟨rfl,rfl⟩
  repeat (first|simp only [↓wR,zT,simprocAttr,dm]|simp (disch:=omega) only [zW])
  refine da [0,1,2,6] (fun (k:Nat)=>[.sl 0 0 N 5,zi N,(.sc (.func (.func 164) #[] #[])),zi k]) (fun k=>[some (.row (cellsOf aj true ((ju fj k X))) 0 0 63)]) (fun k=>0<k/\k<=2 * N+40) (fun k=>N - k) 20 ⟨by decide,zO⟩ zS zS ?_;clear h1 h2 h3 h hle aT D Y;rintro k ⟨hk0,eN⟩;simp only [↓wR,zT,simprocAttr];rw [az];refine ⟨fun h=>?_,fun h=>?_⟩
  ·have e2:(2:Int) * k=((k+k:Nat):Int):=zO
   repeat (first|simp only [↓wR,zT,simprocAttr,h,e2]|simp (disch:=omega) only [zW])
   refine da [0,1,2,6,7,8] (fun (x:List aw × List aw)=>[.sl 0 0 N 5,zi N,(.sc (.func (.func 164) #[] #[])),zi k,zi x.1.length,zi (((x.1.length+(k+k):Nat):Int))]) (fun x=>[some (.row (cellsOf aj true ((x.1++ju fj k x.2))) 0 0 63)]) (fun x=>x.1++ju fj (k+k) x.2=ju fj (k+k) X/\x.1.length+x.2.length=N/\∀ y ∈ x.2,cw y) (fun x=>x.2.length) ([],X) ⟨rfl,by rw [hN];simp,hV⟩ (by simp only [↓wR,zT,simprocAttr]<;>simp) zS ?_;rintro ⟨D,Y⟩ ⟨h1,h2,h3⟩;simp only [] at h1 h2 h3 ⊢;have hm1:(D.length:Int)+k=((D.length+k:Nat):Int):=zO;simp only [↓wR,zT,simprocAttr];rw [az];refine ⟨fun h4=>?_,fun h4=>?_⟩
   ·have hle:k+k<=Y.length:=zO;have hb1:((D.length+(k+k):Nat):Int)+((k+k:Nat):Int)=((D.length+(k+k)+(k+k):Nat):Int):=zO;have l1:(Y.take k).length=k:=by rw [zzl];omega
    have l2:((Y.drop k).take k).length=k:=by rw [zzl,zzt];omega
    have cY:=Q3 (k+k) N D.length (D.length+k) (D.length+(k+k)) D (ec fj (Y.take k)) (ec fj ((Y.drop k).take k)) (ju fj k (Y.drop (k+k))) zO (by simp only [za,fl,l1,l2,arw hk0 _ _ (zza _),zzt];omega) hs rfl (by rw [fl,l1]) (by rw [fl,l2];omega) (by rw [fl,l1];exact hk0) (by rw [fl,l2];exact hk0) (fun x hx=>h3 x (zzr (lx.1 hx))) (fun x hx=>h3 x (zz8 (zzr (lx.1 hx)))) (om sq _ (fun y hy=>h3 y (zzr hy))) (om sq _ (fun y hy=>h3 y (zz8 (zzr hy))));rw [Iu sq _ _ (fun y hy=>h3 y (zzr hy)) (fun y hy=>h3 y (zz8 (zzr hy))),am5,show D++ec fj (Y.take k)++ec fj ((Y.drop k).take k)++ju fj k (Y.drop (k+k))=D++ju fj k Y by rw [apy hk0 hle];simp] at cY
    repeat (first|simp only [↓wR,zT,simprocAttr,h4,hm1]|simp (disch:=omega) only [zW])
    refine fy cY ?_;rintro _ _ ⟨rfl,rfl⟩
    repeat (first|simp only [↓wR,zT,simprocAttr,dm,e2,hb1]|simp (disch:=omega) only [zW])
    refine ⟨(D++ec fj (Y.take (k+k)),Y.drop (k+k)),⟨?_,?_,fun y hy=>h3 y (zz8 hy)⟩,?_,?_,?_⟩
    ·rw [<- h1,E4 (l:=Y) zO hle,zzc]
    ·simp only [za,fl,zzt,zzl];omega
    ·simp only [zzt];omega
    ·have:(D++ec fj (Y.take (k+k))).length=D.length+(k+k):=by simp only [za,fl,zzl];omega
     simp only [this]
    ·rfl
   ·have hle:Y.length<k+k:=zO;have e3:(k:Int) * 2=((k+k:Nat):Int):=zO
    repeat (first|simp only [↓wR,zT,simprocAttr,h4,hm1]|simp (disch:=omega) only [zW])
    rw [az];refine ⟨fun h5=>?_,fun h5=>?_⟩
    ·have hlt:k<Y.length:=zO;have l1:(Y.take k).length=k:=by rw [zzl];omega
     have cY:=Q3 (k+k) N D.length (D.length+k) N D (ec fj (Y.take k)) (ec fj (Y.drop k)) [] zO (by simp only [za,fl,l1,zzt,List.length_nil];omega) hs rfl (by rw [fl,l1]) (by rw [fl,zzt];omega) (by rw [fl,l1];exact hk0) (by rw [fl,zzt];omega) (fun x hx=>h3 x (zzr (lx.1 hx))) (fun x hx=>h3 x (zz8 (lx.1 hx))) (om sq _ (fun y hy=>h3 y (zzr hy))) (om sq _ (fun y hy=>h3 y (zz8 hy)));rw [Iu sq _ _ (fun y hy=>h3 y (zzr hy)) (fun y hy=>h3 y (zz8 hy)),zzm,zzn,zzn,show D++ec fj (Y.take k)++ec fj (Y.drop k)=D++ju fj k Y by rw [akx hk0 hlt zO];simp,show D++ec fj Y=ju fj (k+k) X by rw [<- h1,tl zO]] at cY
     repeat (first|simp only [↓wR,zT,simprocAttr,h5]|simp (disch:=omega) only [zW])
     refine fy cY ?_;rintro _ _ ⟨rfl,rfl⟩
     repeat (first|simp only [↓wR,zT,simprocAttr,dm,e3]|simp (disch:=omega) only [zW])
     exact ⟨k+k,⟨zO,zO⟩,zO,zF,zF⟩
    ·have hlt:Y.length<=k:=zO;rw [show D++ju fj k Y=ju fj (k+k) X by rw [<- h1,tl hlt,tl zO]]
     repeat (first|simp only [↓wR,zT,simprocAttr,h5,e3]|simp (disch:=omega) only [zW])
     exact ⟨k+k,⟨zO,zO⟩,zO,zF,zF⟩
  ·have hle:X.length<=k:=zO;rw [tl hle];simp only [↓wR,zT,simprocAttr,h,i4,ir,ig]
theorem agy (N:Nat) (X:List aw) (hN:N=X.length) (hs:N<=1048576) (hV:∀ x ∈ X,cw x) :
 iz PP 163 [.sl 0 0 N 5,(.sc (.func (.func 164) #[] #[]))] (ay [some (.row (cellsOf aj true ((X))) 0 0 63)])
  (fun r st'=>r = .gj []/\st'=ay [some (.row (cellsOf aj true ((ec fj X))) 0 0 63)]):=by
 refine dr _ rfl ?_ (fun r st' h=>h);refine cb (T:=[]) (ak.nil PP) mixed Tryz.func163 rfl zK zK zK zK ?_;unfold Tryz.f163;simp only [↓wR,zT,simprocAttr];refine fy (ag6 N X hN hs hV) ?_;rintro _ _ ⟨rfl,rfl⟩;simp only [↓wR,zT,simprocAttr,dm,i4,ir,ig]
theorem awn (l:List aw) (hl:vz l) (hl2:l.length<=1048576):wl PP [aF2] 0 (Tryz.f121.body.getD .skip) (di PP Tryz.f121.results.toList (fun r st=>(r1 (bw aj)).get true st.h r=some (ec fj l))) (cj 0 [(bw aj).val false l]) (ay []):=by
 have hlen:=hl.1;unfold Tryz.f121;simp only [↓wR,zT,simprocAttr];refine i9 [6,7,8,3] (fun (x:List aw)=>[zs l,zi l.length,zi x.length,.sl 0 0 x.length 5]) (fun x=>[some (.row (cellsOf aj true ((x))) 0 0 63)]) (fun x=>x.length<=l.length/\x++l.drop x.length=l) (fun x=>l.length - x.length) [] ⟨zzb _,rfl⟩ zX ?_;rintro x ⟨hi,hx⟩;simp only [↓wR,zT,simprocAttr];rw [az];refine ⟨fun h=>?_,fun h=>?_⟩
 ·obtain ⟨c,hc,aH,hlt⟩:=fi (zp h);rw [aH] at hx;have hcs:=hl.2 c (zm hc);have aD:(x.length * 5+5) * 64<=140737488355328:=zO
  repeat (first|simp only [↓wR,zT,simprocAttr,h,hc,Ga,hcs,aD]|simp (disch:=omega) only [zW])
  refine ⟨x++[c],⟨by simp;omega,by simpa using hx⟩,by simp;omega,zF,?_⟩;rw [Bd]
 ·rw [gz (zq h),zzn] at hx;subst hx;simp only [↓wR,zT,simprocAttr,h];refine fy (agy x.length x rfl hl2 hl.2) ?_;rintro _ _ ⟨rfl,rfl⟩;simp only [↓wR,zT,simprocAttr,dm];exact jy aj true _ true (ec fj x) 0 0 _ x.length (by rw [fl]) rfl zK
noncomputable def M4 (x:List aw × Unit):Option AV:=if vz x.1/\x.1.length<=1048576 then some ((r1 (bw aj)).E true (ec fj x.1)) else none
theorem aog (x:List aw × Unit) (r:AV) (h:M4 x=some r):bo PP 121 ((aC (bw aj) a0).E x) r:=by obtain ⟨hc,rfl⟩:=zI h;exact bf (ak.cons (aq akq) (ak.nil PP)) Tryz.func121 zK zK zK zL (r1 (bw aj)) true (ec fj x.1) (awn x.1 hc.1 hc.2)
noncomputable abbrev aIm:zE:=(121,true,dg (aC (bw aj) a0) M4)
theorem aks (s:aw) (hs:cw s):iz PP 81 [aj.val false s] (ay [])
 (fun r st'=>r = .agg [zt s.owner,.sc (.int .u16 s.type.toNat),.sc (.int .u16 s.cls.toNat),.sc (.int .u32 s.b9.toNat),.sl 0 0 s.data.length 4]/\st'=ay [some (.row (cellsOf ai true ((s.data))) 0 0 116)]):=by
 have ho:=hs.owner;have hd:=hs.data;have hn:=hd.len;refine dr _ rfl ?_ (fun r st' h=>h);simp only [ji];refine cb (T:=[nc,qg]) (ak.cons (aq ua) (ak.cons (aq H8) (ak.nil PP))) mixed Tryz.func81 rfl zK zK zK zK ?_;unfold Tryz.f81;simp only [↓wR,zT,simprocAttr,rm,ho];refine i9 [2,13,14,15,3] (fun (x:List bp)=>[.ptr 0 0,zd s.data,zi s.data.length,zi x.length,.ptr 1 0]) (fun x=>[some (.row [.sc (.slice none 0 0),.sc (.int .u16 0),.sc (.int .u16 0),.sc (.int .u32 0),.sc (.slice none 0 0)] 0 2 63),some (.row [au.val true s.owner,.sc (.int .u16 s.type.toNat),.sc (.int .u16 s.cls.toNat),.sc (.int .u32 s.b9.toNat),.sl 2 0 x.length 4] 0 2 63),some (.row (cellsOf ai true ((x))) 0 0 116)]) (fun x=>x.length<=s.data.length/\x++s.data.drop x.length=s.data) (fun x=>s.data.length - x.length) [] ⟨zzb _,rfl⟩ zX ?_;rintro x ⟨hi,hx⟩;simp only [↓wR,zT,simprocAttr];rw [az];refine ⟨fun h=>?_,fun h=>?_⟩
 ·obtain ⟨c,hc,aH,hlt⟩:=fi (zp h);rw [aH] at hx;have hcs:=hd.mem c (zm hc);simp only [↓wR,zT,simprocAttr,h,hc];refine ⟨zK,.inl ?_⟩;have aD:(x.length * 4+4) * 96<=140737488355328:=zO;simp only [↓wR,zT,simprocAttr,u0,hcs,aD];refine ⟨zK,x++[c],⟨by simp;omega,by simpa using hx⟩,by simp;omega,zF,?_⟩;rw [tx,za];rfl
 ·rw [gz (zq h)] at hx;rw [zzn] at hx;subst hx;simp only [↓wR,zT,simprocAttr,h,i4,ir,ig,cr]
noncomputable def dq (s:aw):aw:=if s.data.all (fun d=>decide (c8 s.type d=0))=true then k6 s.owner s.type s.cls s.b9 (ec (fo s.type) s.data) else s
theorem aCq (s:aw) (hs:cw s) (hl:s.data.length<=1048576):wl PP [ml] 0 (Tryz.f122.body.getD .skip) (di PP Tryz.f122.results.toList (fun r st=>(r1 aj).get true st.h r=some (dq s))) (cj 0 [aj.val false s]) (ay []):=by
 have ho:=hs.owner;have hd:=hs.data;have hn:=hd.len;unfold Tryz.f122;simp only [ji];simp only [↓wR,zT,simprocAttr];refine n6 [] (aks s hs) (by decide) (by simp only [↓wR,zT,simprocAttr]) (by simp only [↓wR,zT,simprocAttr]) (zB rfl) (by simp only [↓wR,zT,simprocAttr,ji]) (by simp only [↓wR,zT,simprocAttr]) ⟨zB rfl,zB rfl⟩ ?_;simp only [↓wR,zT,simprocAttr,dm,kf,lu,oi,uz];refine da [1,2,3,9,10,11] (fun (i:Nat)=>[.ptr 0 0,.ptr 1 0,.ptr 2 0,zd s.data,zi s.data.length,zi i]) (fun _=>[(zY s),some (.row [.sc (.slice none 0 0),.sc (.int .u16 0),.sc (.int .u16 0),.sc (.int .u32 0),.sc (.slice none 0 0)] 0 2 63),some (.row [au.val true s.owner,.sc (.int .u16 s.type.toNat),.sc (.int .u16 s.cls.toNat),.sc (.int .u32 s.b9.toNat),.sl 3 0 s.data.length 4] 0 2 63),some (.row (cellsOf ai true ((s.data))) 0 0 116)]) (fun i=>i<=s.data.length/\s.data.all (fun d=>decide (c8 s.type d=0))=(s.data.drop i).all (fun d=>decide (c8 s.type d=0))) (fun i=>s.data.length - i) 0 ⟨zzb _,rfl⟩ zS zS ?_;rintro i ⟨hi,hx⟩;simp only [↓wR,zT,simprocAttr];rw [az];refine ⟨fun h=>?_,fun h=>?_⟩
 ·obtain ⟨c,hc,aH,hlt⟩:=fi (zp h);rw [aH,List.all_cons] at hx;have hcs:=hd.mem c (zm hc);simp only [↓wR,zT,simprocAttr,h,hc,kq,hcs];rw [de];refine ⟨fun ⟨h2,e2⟩=>?_,fun ⟨h2,e2⟩=>?_⟩
  ·have hv:dq s=s:=by unfold dq;rw [hx,zq e2];rfl
   simp only [↓wR,zT,simprocAttr,h2];rw [hv]
  ·have e3:c8 s.type c=0:=zO;rw [zp e3,Bool.true_and] at hx
   repeat (first|simp only [↓wR,zT,simprocAttr,h2]|simp (disch:=omega) only [zW])
   exact ⟨i+1,⟨hlt,hx⟩,zO,zF⟩
 ·rw [gz (zq h),List.all_nil] at hx;have hv:dq s=k6 s.owner s.type s.cls s.b9 (ec (fo s.type) s.data):=by unfold dq;rw [if_pos hx]
  have hg:∀ d ∈ s.data,vq s.type d:=fun d mK=>⟨hd.mem d mK,of_decide_eq_true (zz9.1 hx d mK)⟩
  simp only [↓wR,zT,simprocAttr,h];refine n6 [3,0] (ags s s.data.length s.data rfl hl hg) (by decide) (by simp only [↓wR,zT,simprocAttr]) (by simp only [↓wR,zT,simprocAttr]) (zB rfl) (by simp only [↓wR,zT,simprocAttr]) (by simp only [↓wR,zT,simprocAttr]) ⟨zB rfl,zB rfl⟩ ?_;simp only [↓wR,zT,simprocAttr,dm,kf,lu,oi,uz];rw [hv,jy ai true _ true (ec (fo s.type) s.data) 0 0 _ s.data.length (by rw [fl]) rfl zK]
noncomputable def Gc (x:aw × Unit):Option AV:=if cw x.1/\x.1.data.length<=1048576 then some ((r1 aj).E true (dq x.1)) else none
theorem ahn (x:aw × Unit) (r:AV) (h:Gc x=some r):bo PP 122 ((aC aj a0).E x) r:=by obtain ⟨hc,rfl⟩:=zI h;exact bf (ak.cons (aq x5) (ak.nil PP)) Tryz.func122 zK zK zK zL (r1 aj) true (dq x.1) (aCq x.1 hc.1 hc.2)
noncomputable abbrev aGx:zE:=(122,true,dg (aC aj a0) Gc)
theorem aza (l:Name):AV.fresh.go (l.map (ah.val false))=true:=Du (fun c hc=>by obtain ⟨x,_,rfl⟩:=zyl.1 hc;exact Sq ah x)
theorem aar (l:List aw):AV.fresh.go (l.map (aj.val true))=true:=Du (fun c hc=>by obtain ⟨x,_,rfl⟩:=zyl.1 hc;exact Sq aj x)
theorem al7 {α:Type} {μ : α->Nat} {l r:List α} (h:l.Perm r):dk μ l=dk μ r:=by
 induction h with
 |nil=>rfl
 |cons a _ ih=>simp only [dk,List.foldr_cons] at ih ⊢;rw [ih]
 |swap a b l=>simp only [dk,List.foldr_cons];omega
 |trans _ _ i j=>exact i.trans j
theorem aFv {α:Type} {μ : α->Nat} {f : α -> α} (h:∀ x,μ (f x) = μ x) (l:List α):dk μ (l.map f)=dk μ l:=by
 induction l with
 |nil=>rfl
 |cons a l ih=>simp only [dk,List.map_cons,List.foldr_cons] at ih ⊢;rw [ih,h]
theorem afs (s:aw):og (dq s)=og s:=by
 unfold dq
 split
 ·unfold og;show _=_;have:=al7 (μ:=ly) (Ip (lt:=fo s.type) s.data);simp only [awh,aA1] at *
  first|omega|rw [this]
 ·rfl
noncomputable def we (l:List aw):List aw:=(ec fj l).map dq
theorem arp (l:List aw):dk og (we l)=dk og l:=by unfold we;rw [aFv afs,al7 (Ip l)]
noncomputable def Is (n:Name) (l:List aw):cf × Int:=if ox (B0 n (we l))=0 then (B0 n (we l),0) else (B0 [] [],ox (B0 n (we l)))
theorem aGa (n:Name) (l:List aw) (hw:br n+dk og l<=16777216) (hl:l.length<=1048576) (hd:∀ s ∈ l,s.data.length<=1048576):wl PP [nc,aIm,aGx,aH5] 0 (Tryz.f69.body.getD .skip) (di PP Tryz.f69.results.toList (fun r st=>(r2 c7 (bh .i64)).get true st.h r=some (Is n l))) (cj 0 [au.val false n,(bw aj).val false l]) (ay []):=by
 have hq:∀ a b c d,eh a b c=d->eh a b c=d:=fun _ _ _ _ h=>h
 have hn:bj n:=by unfold bj;omega
 have cM:zx l:=by unfold zx;omega
 have hm:vz l:=⟨zzu hl (by decide),cM.mem⟩;obtain ⟨L,hL⟩:∃ L,L=ec fj l:=⟨_,rfl⟩;have EB:L.length=l.length:=by rw [hL,fl]
 have BJ:∀ s ∈ L,cw s/\s.data.length<=1048576:=fun s h=>by rw [hL,lx] at h;exact ⟨cM.mem s h,hd s h⟩
 have hz:dj (B0 n (L.map dq)):=by have:=arp l;unfold we at this;rw [<- hL] at this;show br n+dk og (L.map dq)<=16777216;omega
 have zC:Is n l=if ox (B0 n (L.map dq))=0 then (B0 n (L.map dq),0) else (B0 [] [],ox (B0 n (L.map dq))):=by unfold Is we;rw [<- hL]
 rw [zC];unfold Tryz.f69;simp only [cr];simp only [↓wR,zT,simprocAttr,rm,hn,M4,hm,hl,<- hL];refine i9 [4,14,15,16,6] (fun (i:Nat)=>[.ptr 0 0,.vl true 5 (L.map (aj.val true)),zi L.length,zi i,.ptr 1 0]) (fun i=>[some (.row [.sc (.slice none 0 0),.sc (.slice none 0 0)] 0 2 26),some (.row [au.val true n,.sl 2 0 i 5] 0 2 26),some (.row (cellsOf aj true (((L.take i).map dq))) 0 0 63)]) (fun i=>i<=L.length) (fun i=>L.length - i) 0 (zzb _) zX ?_;intro i hi;simp only [↓wR,zT,simprocAttr];rw [az];refine ⟨fun h=>?_,fun h=>?_⟩
 ·obtain ⟨c,hc,aH,hlt⟩:=fi (zp h);obtain ⟨c1,c2⟩:=BJ c (zm hc);have hlen:((L.take i).map dq).length=i:=by rw [zzo,zzl];omega
  have aD:(i * 5+5) * 64<=140737488355328:=zO;have bN:(L.take (i+1)).map dq=(L.take i).map dq++[dq c]:=by rw [jg hc,zzw];rfl
  simp only [↓wR,zT,simprocAttr,h,hc];refine ⟨zK,.inl ?_⟩
  repeat (first|simp only [↓wR,zT,simprocAttr,Gc,c1,c2,hlen,aD]|simp (disch:=omega) only [zW])
  refine ⟨by apply hq;kernel_rfl,i+1,hlt,zO,zF,?_⟩;rw [bN,Bd]
 ·have hin:i=L.length:=zO;subst hin;rw [zz7];simp only [↓wR,zT,simprocAttr,h,Ng,hz];rw [de];refine ⟨fun ⟨h2,e2⟩=>?_,fun ⟨h2,e2⟩=>?_⟩
  ·rw [if_neg e2];simp only [↓wR,zT,simprocAttr,h2]
   try rfl
  ·rw [if_pos zO];simp only [↓wR,zT,simprocAttr,h2]
   try rfl
noncomputable def Tl (x:Name × List aw × Unit):Option AV:=if br x.1+dk og x.2.1<=16777216/\x.2.1.length<=1048576/\∀ s ∈ x.2.1,s.data.length<=1048576 then some ((r2 c7 (bh .i64)).E true (Is x.1 x.2.1)) else none
theorem aun (x:Name × List aw × Unit) (r:AV) (h:Tl x=some r):bo PP 69 ((aC au (aC (bw aj) a0)).E x) r:=by obtain ⟨hc,rfl⟩:=zI h;exact bf (ak.cons (aq ua) (ak.cons (aq aog) (ak.cons (aq ahn) (ak.cons (aq apk) (ak.nil PP))))) Tryz.func69 zK zK zK zL (r2 c7 (bh .i64)) true (Is x.1 x.2.1) (aGa x.1 x.2.1 hc.1 hc.2.1 hc.2.2)
noncomputable abbrev aKt:zE:=(69,true,dg (aC au (aC (bw aj) a0)) Tl)
theorem aA0 {α:Type} (μ : α->Nat) (l r:List α):dk μ (l++r)=dk μ l+dk μ r:=by
 induction l with
 |nil=>simp [dk]
 |cons a l ih=>simp only [dk,List.cons_append,List.foldr_cons] at *;omega
theorem atg (x:dt) (ho:bj x.owner) (hd:ca x.data):wl PP [Fe,Xk] 0 (Tryz.f67.body.getD .skip) (di PP Tryz.f67.results.toList (fun r st=>(r1 bu).get true st.h r=some x)) (cj 0 [bu.val false x]) (ay []):=by
 have dQ:=sv ho;have hq:∀ a b c d,eh a b c=d->eh a b c=d:=fun _ _ _ _ h=>h
 unfold Tryz.f67;simp only [Ih];simp only [↓wR,zT,simprocAttr];refine ⟨zK,.inl ?_⟩;simp only [↓wR,zT,simprocAttr,rn,dQ,tf,hd];apply hq;kernel_rfl
noncomputable def nw (x:dt × Unit):Option AV:=if bj x.1.owner/\ca x.1.data then some ((r1 bu).E true (x.1)) else none
theorem Rx (x:dt × Unit) (r:AV) (h:nw x=some r):bo PP 67 ((aC bu a0).E x) r:=by obtain ⟨hc,rfl⟩:=zI h;exact bf (ak.cons (aq v8) (ak.cons (aq Hy) (ak.nil PP))) Tryz.func67 zK zK zK zL (r1 bu) true (x.1) (atg x.1 hc.1 hc.2)
noncomputable abbrev u4:zE:=(67,true,dg (aC bu a0) nw)
theorem agk (l:List dt) (hg:m9 l):iz PP 33 [(bw bu).val false l] (ay [])
 (fun r st'=>r = .sl 0 0 l.length 8/\st'=ay [some (.row (cellsOf bu true (l)) 0 0 124)]):=by
 have cG:=hg.len;have hgo:∀ c ∈ l,bj c.owner/\ca c.data:=fun c hc=>⟨hg.owner c hc,by
  have h1:jb c<dk jb l:=u3 hc;have h2:=hg.data;unfold ca;unfold jb at *;omega⟩
 refine dr _ rfl ?_ (fun r st' h=>h);simp only [nv];refine cb (T:=[u4]) (ak.cons (aq Rx) (ak.nil PP)) mixed Tryz.func33 rfl zK zK zK zK ?_;unfold Tryz.f33;simp only [↓wR,zT,simprocAttr];refine i9 [0,4,3] (fun (x:List dt)=>[zr l,zi x.length,.sl 0 0 x.length 8]) (fun x=>[some (.row (cellsOf bu true (x)) 0 0 124)]) (fun x=>x.length<=l.length/\x++l.drop x.length=l) (fun x=>l.length - x.length) [] ⟨zzb _,rfl⟩ zX ?_;rintro x ⟨hi,hx⟩;simp only [↓wR,zT,simprocAttr];rw [az];refine ⟨fun h=>?_,fun h=>?_⟩
 ·obtain ⟨c,hc,aH,hlt⟩:=fi (zp h);rw [aH] at hx;have hcs:=hgo c (zm hc);have aD:(x.length * 8+8) * 160<=140737488355328:=zO
  repeat (first|simp only [↓wR,zT,simprocAttr,h,hc,nw,hcs,aD]|simp (disch:=omega) only [zW])
  refine ⟨x++[c],⟨by simp;omega,by simpa using hx⟩,by simp;omega,zF,?_⟩;rw [amy]
 ·rw [gz (zq h),zzn] at hx;subst hx;simp only [↓wR,zT,simprocAttr,h,i4,ir,ig]
noncomputable def pk:Code:=match Tryz.f70.body.getD .skip with
 |.seq _ (.seq _ (.seq (.seq _ (.block _ (.loop b))) _))=>b
 |_=>.skip
theorem aGq (q:List dt) (p:Nat) (r:dt) (hr:q[p]? = some r) (L:List aw) (c:List AV) (hc:Iw L c) (dZ:AV.names.go c=[]) (hcr:∀ τ,c.map (AV.cx τ)=c) (hl:L.length<=1048576) (hL:∀ s ∈ L,bj s.owner)
 (hk:atR r.owner r.type r.cls L 0 = -1) (ho:bj r.owner) (hd:ca r.data) (h1:cg r.owner=0) (h2:c8 r.type r.data=0) (hpl:q.length<=1048576) :
 wl PP [u4,uc,ma,Nq] 0 pk (ou 0 [0,4,5] (fun vs os=>vs=[zr q,.sl 0 0 (L.length+1) 5,zi (p+1)]/\os=[some (.row (c++[zt r.owner,.sc (.int .u16 r.type.toNat),.sc (.int .u16 r.cls.toNat),.sc (.int .u32 r.b9.toNat),.sl 1 0 1 4]) 0 0 63),some (.row (cellsOf ai true ([r.data])) 0 0 116)]) (fun _ _ _=>False))
  (fm [0,4,5] [zr q,.sl 0 0 (L.length) 5,zi p]) (ay [some (.row (c) 0 0 63)]):=by
 have hq:∀ a b c d,eh a b c=d->eh a b c=d:=fun _ _ _ _ h=>h
 have hlt:p<q.length:=(zg.1 hr).1;have hg:decide ((p:Int)<q.length)=true:=zp zO;have aW:=aC8 L c hc dZ hcr true r.owner r.type r.cls hl hL ho;rw [hk] at aW;have hcl:=hc.len;have hP:c.take (L.length * 5)=c:=zzp zO;have aD:(L.length * 5+5) * 160<=140737488355328:=zO;unfold pk Tryz.f70;simp only [↓wR,zT,simprocAttr]
 repeat (first|simp only [↓wR,zT,simprocAttr,hg,hr,nw,ho,hd,n9,ho.fit,h1,jo,h2]|simp (disch:=omega) only [zW])
 refine n6 [0] aW (by decide) (by simp only [↓wR,zT,simprocAttr]) (by simp only [↓wR,zT,simprocAttr]) (zB rfl) (by simp only [↓wR,zT,simprocAttr]) (by simp only [↓wR,zT,simprocAttr,hcr]) ⟨zB rfl,zB rfl⟩ ?_
 repeat (first|simp only [↓wR,zT,simprocAttr,dm,kf,lu,oi,uz,hcr,dZ,hP,aD]|simp (disch:=omega) only [zW])
 have uE:decide (L.length * 5=c.length)=true:=zp zO;rw [uE,xd];rfl
theorem aw7:∀ (X Z:List AV),AV.names.go (X++Z)=AV.names.go X++AV.names.go Z
 | [],Z=>rfl
 |a::X,Z=>by show a.names++AV.names.go (X++Z)=(a.names++AV.names.go X)++AV.names.go Z;rw [aw7 X Z,zzc]
theorem aci {X Y:List AV} {a0 a1 a2 a3:AV} {m:Nat} (bT:AV.names.go X=[]) (cD:AV.names.go Y=[]) (h0:a0.names=[]) (h1:a1.names=[]) (h2:a2.names=[]) (h3:a3.names=[]):AV.names.go (X++a0::a1::a2::a3 :: .sl 1 0 m 4::Y)=[1]:=by rw [aw7,bT];simp only [AV.names.go,h0,h1,h2,h3,cD,AV.names,List.nil_append,zzn]
theorem aGe (q:List dt) (p:Nat) (r:dt) (hr:q[p]? = some r) (L:List aw) (i:Nat) (X Y:List AV) (s:aw) (hX:X.length=i * 5) (bT:AV.names.go X=[]) (dD:∀ τ,X.map (AV.cx τ)=X) (cD:AV.names.go Y=[]) (dJ:∀ τ,Y.map (AV.cx τ)=Y) (hi:i<L.length)
 (hc:Iw L (X ++ zt s.owner :: .sc (.int .u16 s.type.toNat) :: .sc (.int .u16 s.cls.toNat) :: .sc (.int .u32 s.b9.toNat) :: .sl 1 0 s.data.length 4::Y)) (hl:L.length<=1048576) (hL:∀ s ∈ L,bj s.owner)
 (hk:atR r.owner r.type r.cls L 0=i) (ho:bj r.owner) (hd:ca r.data) (h1:cg r.owner=0) (h2:c8 r.type r.data=0) (hpl:q.length<=1048576) (bO:kg s.data) (hn : 0<s.data.length) (sZ:s.data.length<512) (hh:m6 r.type s.data r.data=false) :
 wl PP [u4,uc,ma,Nq] 0 pk (ou 0 [0,4,5] (fun vs os=>vs=[zr q,.sl 0 0 (L.length) 5,zi (p+1)]/\os=[some (.row (X ++ zt s.owner :: .sc (.int .u16 s.type.toNat) :: .sc (.int .u16 s.cls.toNat) :: .sc (.int .u32 (m5 s.b9 r.b9).toNat) :: .sl 1 0 (s.data.length+1) 4::Y) 0 0 63),some (.row (cellsOf ai true (s.data++[r.data])) 0 0 116)]) (fun _ _ _=>False))
  (fm [0,4,5] [zr q,.sl 0 0 (L.length) 5,zi p]) (ay [some (.row (X ++ zt s.owner :: .sc (.int .u16 s.type.toNat) :: .sc (.int .u16 s.cls.toNat) :: .sc (.int .u32 s.b9.toNat) :: .sl 1 0 s.data.length 4::Y) 0 0 63),some (.row (cellsOf ai true (s.data)) 0 0 116)]):=by
 have hq:∀ a b c d,eh a b c=d->eh a b c=d:=fun _ _ _ _ h=>h
 have hlt:p<q.length:=(zg.1 hr).1;have hg:decide ((p:Int)<q.length)=true:=zp zO;have aW:=Xf L _ hc X Y _ _ _ _ s.data.length s.data rfl (aci bT cD rfl rfl rfl rfl) (fun τ ht=>by have e0:=Gk τ s.owner;rw [zzw,dD];generalize zt s.owner=z at e0 ⊢;simp only [List.map_cons,e0,dJ,AV.cx,ht]) true r.owner r.type r.cls hl hL ho
 rw [hk] at aW;have l3:∀ a0 a1 a2 a3 a4 k st et,jk PP 60 (i * 5+3) (.row (X++a0::a1::a2::a3::a4::Y) k st et) = .pure a3:=fun a0 a1 a2 a3 a4 k st et=>ko zK (pn X Y hX a0 a1 a2 a3 a4).2.1 k st et
 have l4:∀ ty (_:mc PP ty=some false) a0 a1 a2 a3 a4 k st et,jk PP ty (i * 5+4) (.row (X++a0::a1::a2::a3::a4::Y) k st et) = .pure a4:=fun ty dE a0 a1 a2 a3 a4 k st et=>ko dE (pn X Y hX a0 a1 a2 a3 a4).2.2 k st et
 have s3:∀ a0 a1 a2 a3 a4 x id k et,lf id (i * 5+3) 1 [.sc (.int .u32 x)] (.row (X++a0::a1::a2::a3::a4::Y) 0 k et)=(ki id (.row (X++a0::a1::a2 :: .sc (.int .u32 x)::a4::Y) 0 k et)).bind fun _=>.pure (.sc undef):=fun a0 a1 a2 a3 a4 x id k et=>by rw [pc (by simp;omega) _ (by rfl),(sx X Y hX a0 a1 a2 a3 a4 _).1]
 have s4:∀ a0 a1 a2 a3 a4 o f l z id k et,lf id (i * 5+4) 1 [.sl o f l z] (.row (X++a0::a1::a2::a3::a4::Y) 0 k et)=(ki id (.row (X++a0::a1::a2::a3 :: .sl o f l z::Y) 0 k et)).bind fun _=>.pure (.sc undef):=fun a0 a1 a2 a3 a4 o f l z id k et=>by rw [pc (by simp;omega) _ rfl,(sx X Y hX a0 a1 a2 a3 a4 _).2]
 have hdec:∀ fr h kk st et,yc fr st 4 ai.kd et=true->lg ai fr h 0 s.data.length (.row (cellsOf ai true s.data) kk st et)=some s.data:=fun fr h kk st et hro=>jy ai fr h true _ kk st et _ rfl rfl hro
 have hP:(cellsOf ai true s.data).take (s.data.length * 4)=cellsOf ai true s.data:=zzp (by rw [jq];exact zza _);have hge:decide (((s.data.length:Nat):Int) ≥ 512)=false:=zq zO;have aD:(s.data.length * 4+4) * 96<=140737488355328:=zO;have iL:decide ((i:Int)<0)=false:=zq zO;unfold pk Tryz.f70;simp only [↓wR,zT,simprocAttr]
 repeat (first|simp only [↓wR,zT,simprocAttr,hg,hr,nw,ho,hd,n9,ho.fit,h1,jo,h2]|simp (disch:=omega) only [zW])
 refine n6 [0,1] aW (by decide) (by simp only [↓wR,zT,simprocAttr]) (by simp only [↓wR,zT,simprocAttr]) (zB rfl) (by simp only [↓wR,zT,simprocAttr]) (by simp only [↓wR,zT,simprocAttr,dD,dJ]) ⟨zB rfl,zB rfl⟩ ?_
 repeat (first|simp only [↓wR,zT,simprocAttr,dm,kf,lu,oi,uz,dD,dJ,bT,cD,iL,hi,↓l3,↓l4,↓s3]|simp (disch:=omega) only [zW])
 refine ⟨zK,.inl ?_⟩;refine ⟨by apply hq;kernel_rfl,?_⟩;rw [az];refine ⟨fun h5=>?_,fun h5=>?_⟩
 ·have bX:m5 s.b9 r.b9=r.b9:=by unfold m5;rw [if_pos zO]
  rw [bX]
  repeat (first|simp only [↓wR,zT,simprocAttr,h5,bT,cD,hi,↓l3,↓l4,↓s3]|simp (disch:=omega) only [zW])
  refine ⟨zK,.inl ?_⟩
  repeat (first|simp only [↓wR,zT,simprocAttr,A5,hd,bO,hdec,hh,hge,hP,aD,bT,cD,hi,↓l3,↓l4,↓s3,↓s4]|simp (disch:=omega) only [zW])
  refine ⟨by apply hq;kernel_rfl,?_⟩;refine ⟨zK,.inl ?_⟩;refine ⟨by apply hq;kernel_rfl,?_⟩;simp only [↓wR,zT,simprocAttr,dD,dJ];rw [tx]
 ·have bX:m5 s.b9 r.b9=s.b9:=by unfold m5;rw [if_neg zO]
  rw [bX]
  repeat (first|simp only [↓wR,zT,simprocAttr,h5,bT,cD,hi,↓l3,↓l4,↓s3]|simp (disch:=omega) only [zW])
  refine ⟨zK,.inl ?_⟩
  repeat (first|simp only [↓wR,zT,simprocAttr,A5,hd,bO,hdec,hh,hge,hP,aD,bT,cD,hi,↓l3,↓l4,↓s3,↓s4]|simp (disch:=omega) only [zW])
  refine ⟨by apply hq;kernel_rfl,?_⟩;refine ⟨zK,.inl ?_⟩;refine ⟨by apply hq;kernel_rfl,?_⟩;simp only [↓wR,zT,simprocAttr,dD,dJ];rw [tx]
theorem aFx (q:List dt) (p:Nat) (r:dt) (hr:q[p]? = some r) (L:List aw) (i:Nat) (X Y:List AV) (s:aw) (hX:X.length=i * 5) (bT:AV.names.go X=[]) (dD:∀ τ,X.map (AV.cx τ)=X) (cD:AV.names.go Y=[]) (dJ:∀ τ,Y.map (AV.cx τ)=Y) (hi:i<L.length)
 (hc:Iw L (X ++ zt s.owner :: .sc (.int .u16 s.type.toNat) :: .sc (.int .u16 s.cls.toNat) :: .sc (.int .u32 s.b9.toNat) :: .sl 1 0 s.data.length 4::Y)) (hl:L.length<=1048576) (hL:∀ s ∈ L,bj s.owner)
 (hk:atR r.owner r.type r.cls L 0=i) (ho:bj r.owner) (hd:ca r.data) (h1:cg r.owner=0) (h2:c8 r.type r.data=0) (hpl:q.length<=1048576) (bO:kg s.data) (hn : 0<s.data.length) (hh:m6 r.type s.data r.data=true) :
 wl PP [u4,uc,ma,Nq] 0 pk (ou 0 [0,4,5] (fun vs os=>vs=[zr q,.sl 0 0 (L.length) 5,zi (p+1)]/\os=[some (.row (X ++ zt s.owner :: .sc (.int .u16 s.type.toNat) :: .sc (.int .u16 s.cls.toNat) :: .sc (.int .u32 (m5 s.b9 r.b9).toNat) :: .sl 1 0 s.data.length 4::Y) 0 0 63),some (.row (cellsOf ai true (s.data)) 0 0 116)]) (fun _ _ _=>False))
  (fm [0,4,5] [zr q,.sl 0 0 (L.length) 5,zi p]) (ay [some (.row (X ++ zt s.owner :: .sc (.int .u16 s.type.toNat) :: .sc (.int .u16 s.cls.toNat) :: .sc (.int .u32 s.b9.toNat) :: .sl 1 0 s.data.length 4::Y) 0 0 63),some (.row (cellsOf ai true (s.data)) 0 0 116)]):=by
 have hq:∀ a b c d,eh a b c=d->eh a b c=d:=fun _ _ _ _ h=>h
 have hlt:p<q.length:=(zg.1 hr).1;have hg:decide ((p:Int)<q.length)=true:=zp zO;have aW:=Xf L _ hc X Y _ _ _ _ s.data.length s.data rfl (aci bT cD rfl rfl rfl rfl) (fun τ ht=>by have e0:=Gk τ s.owner;rw [zzw,dD];generalize zt s.owner=z at e0 ⊢;simp only [List.map_cons,e0,dJ,AV.cx,ht]) true r.owner r.type r.cls hl hL ho
 rw [hk] at aW;have l3:∀ a0 a1 a2 a3 a4 k st et,jk PP 60 (i * 5+3) (.row (X++a0::a1::a2::a3::a4::Y) k st et) = .pure a3:=fun a0 a1 a2 a3 a4 k st et=>ko zK (pn X Y hX a0 a1 a2 a3 a4).2.1 k st et
 have l4:∀ ty (_:mc PP ty=some false) a0 a1 a2 a3 a4 k st et,jk PP ty (i * 5+4) (.row (X++a0::a1::a2::a3::a4::Y) k st et) = .pure a4:=fun ty dE a0 a1 a2 a3 a4 k st et=>ko dE (pn X Y hX a0 a1 a2 a3 a4).2.2 k st et
 have s3:∀ a0 a1 a2 a3 a4 x id k et,lf id (i * 5+3) 1 [.sc (.int .u32 x)] (.row (X++a0::a1::a2::a3::a4::Y) 0 k et)=(ki id (.row (X++a0::a1::a2 :: .sc (.int .u32 x)::a4::Y) 0 k et)).bind fun _=>.pure (.sc undef):=fun a0 a1 a2 a3 a4 x id k et=>by rw [pc (by simp;omega) _ (by rfl),(sx X Y hX a0 a1 a2 a3 a4 _).1]
 have s4:∀ a0 a1 a2 a3 a4 o f l z id k et,lf id (i * 5+4) 1 [.sl o f l z] (.row (X++a0::a1::a2::a3::a4::Y) 0 k et)=(ki id (.row (X++a0::a1::a2::a3 :: .sl o f l z::Y) 0 k et)).bind fun _=>.pure (.sc undef):=fun a0 a1 a2 a3 a4 o f l z id k et=>by rw [pc (by simp;omega) _ rfl,(sx X Y hX a0 a1 a2 a3 a4 _).2]
 have hdec:∀ fr h kk st et,yc fr st 4 ai.kd et=true->lg ai fr h 0 s.data.length (.row (cellsOf ai true s.data) kk st et)=some s.data:=fun fr h kk st et hro=>jy ai fr h true _ kk st et _ rfl rfl hro
 have hP:(cellsOf ai true s.data).take (s.data.length * 4)=cellsOf ai true s.data:=zzp (by rw [jq];exact zza _);have iL:decide ((i:Int)<0)=false:=zq zO;unfold pk Tryz.f70;simp only [↓wR,zT,simprocAttr]
 repeat (first|simp only [↓wR,zT,simprocAttr,hg,hr,nw,ho,hd,n9,ho.fit,h1,jo,h2]|simp (disch:=omega) only [zW])
 refine n6 [0,1] aW (by decide) (by simp only [↓wR,zT,simprocAttr]) (by simp only [↓wR,zT,simprocAttr]) (zB rfl) (by simp only [↓wR,zT,simprocAttr]) (by simp only [↓wR,zT,simprocAttr,dD,dJ]) ⟨zB rfl,zB rfl⟩ ?_
 repeat (first|simp only [↓wR,zT,simprocAttr,dm,kf,lu,oi,uz,dD,dJ,bT,cD,iL,hi,↓l3,↓l4,↓s3]|simp (disch:=omega) only [zW])
 refine ⟨zK,.inl ?_⟩;refine ⟨by apply hq;kernel_rfl,?_⟩;rw [az];refine ⟨fun h5=>?_,fun h5=>?_⟩
 ·have bX:m5 s.b9 r.b9=r.b9:=by unfold m5;rw [if_pos zO]
  rw [bX]
  repeat (first|simp only [↓wR,zT,simprocAttr,h5,bT,cD,hi,↓l3,↓l4,↓s3]|simp (disch:=omega) only [zW])
  refine ⟨zK,.inl ?_⟩
  repeat (first|simp only [↓wR,zT,simprocAttr,A5,hd,bO,hdec,hh,bT,cD,hi,↓l3,↓l4,↓s3,↓s4]|simp (disch:=omega) only [zW])
  refine ⟨by apply hq;kernel_rfl,?_⟩;simp only [↓wR,zT,simprocAttr,dD,dJ]
 ·have bX:m5 s.b9 r.b9=s.b9:=by unfold m5;rw [if_neg zO]
  rw [bX]
  repeat (first|simp only [↓wR,zT,simprocAttr,h5,bT,cD,hi,↓l3,↓l4,↓s3]|simp (disch:=omega) only [zW])
  refine ⟨zK,.inl ?_⟩
  repeat (first|simp only [↓wR,zT,simprocAttr,A5,hd,bO,hdec,hh,bT,cD,hi,↓l3,↓l4,↓s3,↓s4]|simp (disch:=omega) only [zW])
  refine ⟨by apply hq;kernel_rfl,?_⟩;simp only [↓wR,zT,simprocAttr,dD,dJ]
theorem aB1 (q:List dt) (p:Nat) (r:dt) (hr:q[p]? = some r) (L:List aw) (i:Nat) (X Y:List AV) (s:aw) (hX:X.length=i * 5) (bT:AV.names.go X=[]) (dD:∀ τ,X.map (AV.cx τ)=X) (cD:AV.names.go Y=[]) (dJ:∀ τ,Y.map (AV.cx τ)=Y) (hi:i<L.length)
 (hc:Iw L (X ++ zt s.owner :: .sc (.int .u16 s.type.toNat) :: .sc (.int .u16 s.cls.toNat) :: .sc (.int .u32 s.b9.toNat) :: .sl 1 0 s.data.length 4::Y)) (hl:L.length<=1048576) (hL:∀ s ∈ L,bj s.owner)
 (hk:atR r.owner r.type r.cls L 0=i) (ho:bj r.owner) (hd:ca r.data) (h1:cg r.owner=0) (h2:c8 r.type r.data=0) (hpl:q.length<=1048576) (bO:kg s.data) (hn : 0<s.data.length) (sZ : 512<=s.data.length) (hh:m6 r.type s.data r.data=false) :
 wl PP [u4,uc,ma,Nq] 0 pk (ou 0 [0,4,5] (fun _ _=>False) (fun e L st=>match e with|.ret=>di PP Tryz.f70.results.toList (fun rr st=>(r2 (bw aj) (bh .i64)).get true st.h rr=some ([],(3))) .ret L st|_=>False))
  (fm [0,4,5] [zr q,.sl 0 0 (L.length) 5,zi p]) (ay [some (.row (X ++ zt s.owner :: .sc (.int .u16 s.type.toNat) :: .sc (.int .u16 s.cls.toNat) :: .sc (.int .u32 s.b9.toNat) :: .sl 1 0 s.data.length 4::Y) 0 0 63),some (.row (cellsOf ai true (s.data)) 0 0 116)]):=by
 have hq:∀ a b c d,eh a b c=d->eh a b c=d:=fun _ _ _ _ h=>h
 have hlt:p<q.length:=(zg.1 hr).1;have hg:decide ((p:Int)<q.length)=true:=zp zO;have aW:=Xf L _ hc X Y _ _ _ _ s.data.length s.data rfl (aci bT cD rfl rfl rfl rfl) (fun τ ht=>by have e0:=Gk τ s.owner;rw [zzw,dD];generalize zt s.owner=z at e0 ⊢;simp only [List.map_cons,e0,dJ,AV.cx,ht]) true r.owner r.type r.cls hl hL ho
 rw [hk] at aW;have l3:∀ a0 a1 a2 a3 a4 k st et,jk PP 60 (i * 5+3) (.row (X++a0::a1::a2::a3::a4::Y) k st et) = .pure a3:=fun a0 a1 a2 a3 a4 k st et=>ko zK (pn X Y hX a0 a1 a2 a3 a4).2.1 k st et
 have l4:∀ ty (_:mc PP ty=some false) a0 a1 a2 a3 a4 k st et,jk PP ty (i * 5+4) (.row (X++a0::a1::a2::a3::a4::Y) k st et) = .pure a4:=fun ty dE a0 a1 a2 a3 a4 k st et=>ko dE (pn X Y hX a0 a1 a2 a3 a4).2.2 k st et
 have s3:∀ a0 a1 a2 a3 a4 x id k et,lf id (i * 5+3) 1 [.sc (.int .u32 x)] (.row (X++a0::a1::a2::a3::a4::Y) 0 k et)=(ki id (.row (X++a0::a1::a2 :: .sc (.int .u32 x)::a4::Y) 0 k et)).bind fun _=>.pure (.sc undef):=fun a0 a1 a2 a3 a4 x id k et=>by rw [pc (by simp;omega) _ (by rfl),(sx X Y hX a0 a1 a2 a3 a4 _).1]
 have s4:∀ a0 a1 a2 a3 a4 o f l z id k et,lf id (i * 5+4) 1 [.sl o f l z] (.row (X++a0::a1::a2::a3::a4::Y) 0 k et)=(ki id (.row (X++a0::a1::a2::a3 :: .sl o f l z::Y) 0 k et)).bind fun _=>.pure (.sc undef):=fun a0 a1 a2 a3 a4 o f l z id k et=>by rw [pc (by simp;omega) _ rfl,(sx X Y hX a0 a1 a2 a3 a4 _).2]
 have hdec:∀ fr h kk st et,yc fr st 4 ai.kd et=true->lg ai fr h 0 s.data.length (.row (cellsOf ai true s.data) kk st et)=some s.data:=fun fr h kk st et hro=>jy ai fr h true _ kk st et _ rfl rfl hro
 have hP:(cellsOf ai true s.data).take (s.data.length * 4)=cellsOf ai true s.data:=zzp (by rw [jq];exact zza _);have hge:decide (((s.data.length:Nat):Int) ≥ 512)=true:=zp zO;have iL:decide ((i:Int)<0)=false:=zq zO;unfold pk Tryz.f70;simp only [↓wR,zT,simprocAttr]
 repeat (first|simp only [↓wR,zT,simprocAttr,hg,hr,nw,ho,hd,n9,ho.fit,h1,jo,h2]|simp (disch:=omega) only [zW])
 refine n6 [0,1] aW (by decide) (by simp only [↓wR,zT,simprocAttr]) (by simp only [↓wR,zT,simprocAttr]) (zB rfl) (by simp only [↓wR,zT,simprocAttr]) (by simp only [↓wR,zT,simprocAttr,dD,dJ]) ⟨zB rfl,zB rfl⟩ ?_
 repeat (first|simp only [↓wR,zT,simprocAttr,dm,kf,lu,oi,uz,dD,dJ,bT,cD,iL,hi,↓l3,↓l4,↓s3]|simp (disch:=omega) only [zW])
 refine ⟨zK,.inl ?_⟩;refine ⟨by apply hq;kernel_rfl,?_⟩;rw [az];refine ⟨fun h5=>?_,fun h5=>?_⟩
 ·repeat (first|simp only [↓wR,zT,simprocAttr,h5,bT,cD,hi,↓l3,↓l4,↓s3]|simp (disch:=omega) only [zW])
  refine ⟨zK,.inl ?_⟩
  repeat (first|simp only [↓wR,zT,simprocAttr,A5,hd,bO,hdec,hh,hge,bT,cD,hi,↓l3,↓l4,↓s3,↓s4]|simp (disch:=omega) only [zW])
  apply hq;kernel_rfl
 ·repeat (first|simp only [↓wR,zT,simprocAttr,h5,bT,cD,hi,↓l3,↓l4,↓s3]|simp (disch:=omega) only [zW])
  refine ⟨zK,.inl ?_⟩
  repeat (first|simp only [↓wR,zT,simprocAttr,A5,hd,bO,hdec,hh,hge,bT,cD,hi,↓l3,↓l4,↓s3,↓s4]|simp (disch:=omega) only [zW])
  apply hq;kernel_rfl
theorem aDi (q:List dt) (p:Nat) (r:dt) (hr:q[p]? = some r) (m:Nat) (c:List AV) (ho:bj r.owner) (hd:ca r.data) (h1:cg r.owner≠0) (hpl:q.length<=1048576) :
 wl PP [u4,uc,ma,Nq] 0 pk (ou 0 [0,4,5] (fun _ _=>False) (fun e L st=>match e with|.ret=>di PP Tryz.f70.results.toList (fun rr st=>(r2 (bw aj) (bh .i64)).get true st.h rr=some ([],(cg r.owner))) .ret L st|_=>False)) (fm [0,4,5] [zr q,.sl 0 0 (m) 5,zi p]) (ay [some (.row (c) 0 0 63)]):=by
 have hlt:p<q.length:=(zg.1 hr).1;have hg:decide ((p:Int)<q.length)=true:=zp zO;unfold pk Tryz.f70;simp only [↓wR,zT,simprocAttr]
 repeat (first|simp only [↓wR,zT,simprocAttr,hg,hr,nw,ho,hd,n9,ho.fit]|simp (disch:=omega) only [zW])
 rw [de];refine ⟨fun ⟨h3,e3⟩=>?_,fun ⟨h3,e3⟩=>?_⟩
 ·simp only [↓wR,zT,simprocAttr,h3]
 ·omega
theorem aBl (q:List dt) (p:Nat) (r:dt) (hr:q[p]? = some r) (m:Nat) (c:List AV) (ho:bj r.owner) (hd:ca r.data) (h1:cg r.owner=0) (h2:c8 r.type r.data≠0) (hpl:q.length<=1048576) :
 wl PP [u4,uc,ma,Nq] 0 pk (ou 0 [0,4,5] (fun _ _=>False) (fun e L st=>match e with|.ret=>di PP Tryz.f70.results.toList (fun rr st=>(r2 (bw aj) (bh .i64)).get true st.h rr=some ([],(c8 r.type r.data))) .ret L st|_=>False)) (fm [0,4,5] [zr q,.sl 0 0 (m) 5,zi p]) (ay [some (.row (c) 0 0 63)]):=by
 have hlt:p<q.length:=(zg.1 hr).1;have hg:decide ((p:Int)<q.length)=true:=zp zO;unfold pk Tryz.f70;simp only [↓wR,zT,simprocAttr]
 repeat (first|simp only [↓wR,zT,simprocAttr,hg,hr,nw,ho,hd,n9,ho.fit,h1,jo]|simp (disch:=omega) only [zW])
 rw [de];refine ⟨fun ⟨h3,e3⟩=>?_,fun ⟨h3,e3⟩=>?_⟩
 ·simp only [↓wR,zT,simprocAttr,h3]
 ·omega
theorem aFo (q:List dt) (m:Nat) (O:List (Option bk)) :
 wl PP [u4,uc,ma,Nq] 0 pk (ou 0 [0,4,5] (fun _ _=>False) (fun e L st=>e = .exit 0/\lk L 4 = .sl 0 0 m 5/\st=ay O)) (fm [0,4,5] [zr q,.sl 0 0 (m) 5,zi q.length]) (ay O):=by
 have hg:decide ((q.length:Int)<q.length)=false:=zq zO;unfold pk Tryz.f70;simp only [↓wR,zT,simprocAttr,hg]
theorem aFf (m p:Nat) (q:List dt) (t:Nat):(lk (fm [0,4,5] [zr q,.sl 0 0 (m) 5,zi p]) t).cx (qz 1)=lk (fm [0,4,5] [zr q,.sl 0 0 (m) 5,zi p]) t:=by
 have hv:(zr q).cx (qz 1) = zr q:=I0 (bw bu) (qz 1) false q;simp only [fm,pq]
 split
 ·exact hv
 split
 ·rfl
 split
 ·rfl
 ·rfl
structure RAt (B:dz) (q:List dt) (p:Nat) (L:List aw) (vs:List Value) (bs:List Nat) (g:Gh) (a:Act) (w:World):Prop where
 here:ew B Tryz.f70.ntmps (fm [0,4,5] [zr q,.sl 0 0 (L.length) 5,zi p]) (ay [some (.row (dh (L) (vs)) 0 0 63)]) g a w
 lv:vs.length=L.length
 lb:bs.length=L.length
 nd:∀ (j k:Nat) b,j≠k->bs[j]? = some b->bs[k]? ≠ some b
 own:∀ (j:Nat) s v b,L[j]? = some s->vs[j]? = some v->bs[j]? = some b->iu B g (ay [some (.row (dh (L) (vs)) 0 0 63)]) w (cellsOf ai true s.data) 116 s.data.length 4 v b
theorem aen {B:dz} (aF:B.iw) (hp:B.bg=0) (hO:∀ b,¬ B.O b) {q:List dt} {p:Nat} {L:List aw} {vs:List Value} {bs:List Nat} {i:Nat} {s:aw} {g:Gh} {a:Act} {w:World} (hs:L[i]? = some s) (hn : 0<s.data.length) (hlv:vs.length=L.length) (fC:bs.length=L.length)
 (hh:ew B Tryz.f70.ntmps (fm [0,4,5] [zr q,.sl 0 0 (L.length) 5,zi p]) (ay [some (.row (dh (L.take i) (vs.take i)++zt s.owner :: .sc (.int .u16 s.type.toNat) :: .sc (.int .u16 s.cls.toNat) :: .sc (.int .u32 s.b9.toNat) :: .sl 1 0 s.data.length 4::dh (L.drop (i+1)) (vs.drop (i+1))) 0 0 63),some (.row (cellsOf ai true (s.data)) 0 0 116)]) g a w)
 (cR:∀ (j k:Nat) b,j≠i->k≠i->j≠k->bs[j]? = some b->bs[k]? ≠ some b)
 (hown:∀ (j:Nat) s2 v b,j≠i->L[j]? = some s2->vs[j]? = some v->bs[j]? = some b->iu B g (ay [some (.row (dh (L.take i) (vs.take i)++zt s.owner :: .sc (.int .u16 s.type.toNat) :: .sc (.int .u16 s.cls.toNat) :: .sc (.int .u32 s.b9.toNat) :: .sl 1 0 s.data.length 4::dh (L.drop (i+1)) (vs.drop (i+1))) 0 0 63),some (.row (cellsOf ai true (s.data)) 0 0 116)]) w (cellsOf ai true s2.data) 116 s2.data.length 4 v b) :
 ∃ vs' dV g',RAt B q p L vs' dV g' a w:=by
 obtain ⟨hi,gF⟩:=zg.1 hs;have e1:∀ x:AV,dh (L.take i) (vs.take i)++zt s.owner :: .sc (.int .u16 s.type.toNat) :: .sc (.int .u16 s.cls.toNat) :: .sc (.int .u32 s.b9.toNat)::x::dh (L.drop (i+1)) (vs.drop (i+1))=(dh (L.take i) (vs.take i)++[zt s.owner,.sc (.int .u16 s.type.toNat),.sc (.int .u16 s.cls.toNat),.sc (.int .u32 s.b9.toNat)])++x::dh (L.drop (i+1)) (vs.drop (i+1)):=fun x=>by rw [zzc];rfl
 have hcl:∀ l:List bp,jt (cellsOf ai true l):=fun l=>oq ai _ true l
 rw [e1] at hh;have hX:(dh (L.take i) (vs.take i)++[zt s.owner,.sc (.int .u16 s.type.toNat),.sc (.int .u16 s.cls.toNat),.sc (.int .u32 s.b9.toNat)]).map (AV.cx (qz 1))=dh (L.take i) (vs.take i)++[zt s.owner,.sc (.int .u16 s.type.toNat),.sc (.int .u16 s.cls.toNat),.sc (.int .u32 s.b9.toNat)]:=by rw [zzw,m7];simp only [List.map_cons,List.map_nil,Gk];rfl
 obtain ⟨v,b,g',H,O,kZ⟩:=aK7 (t0:=4) (m:=L.length) (z:=5) aF hO hp hn (hcl s.data) rfl zO hX (m7 _ _ _) (aFf _ _ _) hh;have e2:(dh (L.take i) (vs.take i)++[zt s.owner,.sc (.int .u16 s.type.toNat),.sc (.int .u16 s.cls.toNat),.sc (.int .u32 s.b9.toNat)])++AV.sc v::dh (L.drop (i+1)) (vs.drop (i+1))=dh L (vs.set i v):=by have:=W4 s v hlv hi;rw [<- gF,List.set_getElem_self] at this;rw [this,<- e1,gF];rfl
 rw [e2] at H O;refine ⟨vs.set i v,bs.set i b,g',H,by simpa using hlv,by simpa using fC,fun j k c hjk hj hk=>?_,fun j s2 v2 b2 h1 h2 h3=>?_⟩
 ·by_cases ej:j=i
  ·subst ej;rw [List.getElem?_set_self zO] at hj;cases hj;rw [zyf hjk] at hk;have dB:k<L.length:=by have:=(zg.1 hk).1;omega
   exact (kZ _ _ _ _ _ _ (hcl _) (by rw [<- e1];exact hown k L[k] vs[k] b (Ne.symm hjk) (zh dB) (zh zO) hk)).1 rfl
  ·rw [zyf (Ne.symm ej)] at hj;by_cases ek:k=i
   ·subst ek;rw [List.getElem?_set_self zO] at hk;cases hk;have fW:j<L.length:=by have:=(zg.1 hj).1;omega
    exact (kZ _ _ _ _ _ _ (hcl _) (by rw [<- e1];exact hown j L[j] vs[j] b ej (zh fW) (zh zO) hj)).1 rfl
   ·rw [zyf (Ne.symm ek)] at hk;exact cR j k c ej ek hjk hj hk
 ·by_cases ej:j=i
  ·subst ej;rw [List.getElem?_set_self zO] at h2 h3;cases h2;cases h3;rw [hs] at h1;cases h1;exact O
  ·rw [zyf (Ne.symm ej)] at h2 h3;have:=(kZ _ _ _ _ _ _ (hcl _) (by rw [<- e1];exact hown j s2 v2 b2 ej h1 h2 h3)).2;rw [e2] at this;exact this
theorem keyBytes_inj:∀ (a b:Name),(∀ l ∈ a,l.size<256)->(∀ l ∈ b,l.size<256)->keyBytes a=keyBytes b->a=b
 | [],[],_,_,_=>rfl
 | [],y::b,_,_,h=>by simp [keyBytes] at h
 |x::a,[],_,_,h=>by simp [keyBytes] at h
 |x::a,y::b,ha,hb,h=>by
  have h':UInt8.ofNat x.size::x.data.toList++keyBytes a=UInt8.ofNat y.size::y.data.toList++keyBytes b:=h;simp only [List.cons_append,List.cons.injEq] at h';obtain ⟨h1,h2⟩:=h';have hx:=ha x (by simp);have hy:=hb y (by simp);have hs:x.size=y.size:=by have:=congrArg UInt8.toNat h1;simp only [UInt8.toNat_ofNat'] at this;omega
  have hlx:x.data.toList.length=x.size:=zya;have DY:y.data.toList.length=y.size:=zya;obtain ⟨q1,q2⟩:=List.append_inj h2 zO;have gX:x=y:=by obtain ⟨dx⟩:=x;obtain ⟨dy⟩:=y;have:dx=dy:=Array.ext' q1;rw [this]
  rw [gX,keyBytes_inj a b (fun l hl=>ha l (by simp [hl])) (fun l hl=>hb l (by simp [hl])) q2]
theorem Y7 {n:Name} (h:cg n=0):∀ l ∈ n,l.size<256:=fun l hl=>by
 unfold cg at h
 split at h
 ·cases h
 rename_i hb;have:¬ jw l≠0:=fun hne=>hb (by
  unfold u5;rw [List.any_eq_true];exact ⟨l,hl,zp hne⟩)
 unfold jw at this
 split at this
 ·exact absurd (by decide) this
 ·omega
theorem auk {a b:Name} (ha:cg a=0) (hb:cg b=0):Am a=Am b↔fv a=fv b:=by
 refine ⟨fun h=>?_,fun h=>by unfold Am;rw [h]⟩;unfold Am at h;have h1:(keyBytes (fv a)).toArray=(keyBytes (fv b)).toArray:=by rw [ByteArray.mk.injEq] at h;exact h
 have h2:keyBytes (fv a)=keyBytes (fv b):=by simpa using congrArg Array.toList h1
 refine keyBytes_inj _ _ (fun l hl=>?_) (fun l hl=>?_) h2
 ·obtain ⟨m,hm,rfl⟩:=zyl.1 hl;rw [C8];exact Y7 ha m hm
 ·obtain ⟨m,hm,rfl⟩:=zyl.1 hl;rw [C8];exact Y7 hb m hm
theorem X8 {k:mh}:∀ (ks:List mh) (i:Nat),ln k i ks=none↔k ∉ ks
 | [],i=>by simp [ln]
 |a::r,i=>by
  unfold ln;by_cases e:k=a
  ·rw [if_pos e];simp [e]
  ·rw [if_neg e,X8 r (i+1)];simp [e]
theorem D6 {k:mh}:∀ (ks:List mh) (i j:Nat),ln k i ks=some j->∃ p,j=i+p/\ks[p]? = some k
 | [],i,j,h=>by cases h
 |a::r,i,j,h=>by
  unfold ln at h;by_cases e:k=a
  ·rw [if_pos e] at h;cases h;exact ⟨0,rfl,by rw [e];rfl⟩
  ·rw [if_neg e] at h;obtain ⟨p,h1,h2⟩:=D6 r (i+1) j h;exact ⟨p+1,zO,h2⟩
structure z7 (q:List dt) (L:List aw):Prop where
 keys:(L.map ef).Nodup
 ahc:∀ s ∈ L,cg s.owner=0/\(∃ r ∈ q,jf r=ef s/\r.b9=s.b9)/\∀ r ∈ q,jf r=ef s->s.b9.toNat<=r.b9.toNat
 data:∀ s ∈ L,∀ d ∈ s.data,c8 s.type d=0/\∃ r ∈ q,jf r=ef s/\r.data=d
 apart:∀ s ∈ L,me s.type [] s.data=0
 asx:∀ s ∈ L,0<s.data.length
 all:∀ r ∈ q,cg r.owner=0/\c8 r.type r.data=0/\∃ s ∈ L,ef s=jf r/\m6 s.type s.data r.data=true
theorem z7.nil:z7 [] []:=⟨List.nodup_nil,fun s hs=>(by cases hs),fun s hs=>(by cases hs),fun s hs=>(by cases hs),fun s hs=>(by cases hs),fun r hr=>(by cases hr)⟩
theorem J5 (t:UInt16) (d:bp):∀ (l acc:List bp),me t acc l=0->c8 t d=0->m6 t (acc++l) d=false->me t acc (l++[d])=0
 | [],acc,_,h1,h2=>by rw [zzn] at h2;show me t acc [d]=0;rw [me,if_neg (by rw [h1];simp),if_neg (by rw [h2];simp)];rfl
 |x::l,acc,h,h1,h2=>by
  rw [me] at h;show me t acc (x::(l++[d]))=0;rw [me]
  split at h
  ·exact absurd h (by assumption)
  rename_i e1
  split at h
  ·cases h
  rename_i e2;rw [if_neg e1,if_neg e2];exact J5 t d l (acc++[x]) h h1 (by rw [zzc];exact h2)
theorem z7.new {q:List dt} {L:List aw} (h:z7 q L) {r:dt} (h1:cg r.owner=0) (h2:c8 r.type r.data=0) (hk:ln (jf r) 0 (L.map ef)=none):z7 (q++[r]) (L++[k6 r.owner r.type r.cls r.b9 [r.data]]):=by
 have fV:=(X8 _ 0).1 hk;have hkey:ef (k6 r.owner r.type r.cls r.b9 [r.data])=jf r:=rfl;have oI:m6 r.type [r.data] r.data=true:=by unfold m6;rw [List.any_cons,aax h2];rfl
 have sY:∀ r' ∈ q,jf r'≠jf r:=fun r' hr' e=>by obtain ⟨_,_,s,hs,e2,_⟩:=h.all r' hr';exact fV (zyl.2 ⟨s,hs,by rw [e2,e]⟩)
 have sX:∀ s ∈ L,ef s≠jf r:=fun s hs e=>fV (zyl.2 ⟨s,hs,e⟩)
 refine ⟨?_,fun s hs=>?_,fun s hs d hd=>?_,fun s hs=>?_,fun s hs=>?_,fun r' hr'=>?_⟩
 ·rw [zzw,List.map_cons,List.map_nil,hkey,List.nodup_append];exact ⟨h.keys,by simp,fun a ha b hb e=>fV (by simp only [zz0] at hb;rw [<- hb,<- e];exact ha)⟩
 ·rcases zzq.1 hs with jP|hs
  ·obtain ⟨a1,⟨r1,a2,a3⟩,a4⟩:=h.ahc s jP;refine ⟨a1,⟨r1,by simp [a2],a3⟩,fun r' hr' e=>?_⟩;rcases zzq.1 hr' with hr'|hr'
   ·exact a4 r' hr' e
   ·simp only [zz0] at hr';subst hr';exact absurd e.symm (sX s jP)
  ·simp only [zz0] at hs;subst hs;refine ⟨h1,⟨r,by simp,rfl,rfl⟩,fun r' hr' e=>?_⟩;rcases zzq.1 hr' with hr'|hr'
   ·exact absurd e (sY r' hr')
   ·simp only [zz0] at hr';subst hr';exact zza _
 ·rcases zzq.1 hs with hs|hs
  ·obtain ⟨a1,r1,a2,a3⟩:=h.data s hs d hd;exact ⟨a1,r1,by simp [a2],a3⟩
  ·simp only [zz0] at hs;subst hs;have hd:d=r.data:=zz0.1 hd;subst hd;exact ⟨h2,r,by simp,rfl,rfl⟩
 ·rcases zzq.1 hs with hs|hs
  ·exact h.apart s hs
  ·simp only [zz0] at hs;subst hs;exact J5 r.type r.data [] [] rfl h2 rfl
 ·rcases zzq.1 hs with hs|hs
  ·exact h.asx s hs
  ·simp only [zz0] at hs;subst hs;show 0<1;omega
 ·rcases zzq.1 hr' with hr'|hr'
  ·obtain ⟨a1,a2,s,hs,a3⟩:=h.all r' hr';exact ⟨a1,a2,s,by simp [hs],a3⟩
  ·simp only [zz0] at hr';subst hr';exact ⟨h1,h2,k6 r'.owner r'.type r'.cls r'.b9 [r'.data],by simp,rfl,oI⟩
theorem aE2 (a b:UInt32):(m5 a b).toNat<=a.toNat/\(m5 a b).toNat<=b.toNat/\(m5 a b=a\/m5 a b=b):=by
 unfold m5
 split
 ·exact ⟨zO,zza _,.inr rfl⟩
 ·exact ⟨zza _,zO,.inl rfl⟩
theorem z7.ye {q:List dt} {L:List aw} (h:z7 q L) {r:dt} {i:Nat} {s:aw} {d':List bp} (hs:L[i]? = some s) (hk:jf r=ef s) (h1:cg r.owner=0) (h2:c8 r.type r.data=0)
 (hd:∀ d ∈ d',d ∈ s.data\/d=r.data) (ha:me s.type [] d'=0) (bA:∀ x,m6 s.type s.data x=true->m6 s.type d' x=true) (hr:m6 s.type d' r.data=true) (hn : 0<d'.length) :
 z7 (q++[r]) (L.set i (k6 s.owner s.type s.cls (m5 s.b9 r.b9) d')):=by
 obtain ⟨hi,gF⟩:=zg.1 hs;have jP:=zm hs;have hkey:ef (k6 s.owner s.type s.cls (m5 s.b9 r.b9) d')=ef s:=rfl;have dE:r.type=s.type:=by have:=congrArg (fun k:mh=>k.2.1) hk;exact this
 obtain ⟨m1,m2,m3⟩:=aE2 s.b9 r.b9;have hmem:∀ x ∈ L.set i (k6 s.owner s.type s.cls (m5 s.b9 r.b9) d'),x=k6 s.owner s.type s.cls (m5 s.b9 r.b9) d'\/(x ∈ L/\ef x≠ef s):=fun x hx=>by
  obtain ⟨j,hj⟩:=List.mem_iff_getElem?.1 hx;by_cases e:i=j
  ·subst e;rw [List.getElem?_set_self hi] at hj;cases hj;exact .inl rfl
  ·rw [zyf e] at hj;refine .inr ⟨zm hj,fun ek=>e ?_⟩;have cR:=h.keys;obtain ⟨kP,iQ⟩:=zg.1 hj;have:=(List.getElem_inj (i:=i) (j:=j) (h₀:=by simpa using hi) (h₁:=by simpa using kP) cR).1 (by simp only [List.getElem_map,gF,iQ,ek]);exact this
 obtain ⟨b1,⟨r1,b2,b3,b4⟩,b5⟩:=h.ahc s jP;refine ⟨by rw [ais hs hkey];exact h.keys,fun x hx=>?_,fun x hx d wH=>?_,fun x hx=>?_,fun x hx=>?_,fun r' hr'=>?_⟩
 ·rcases hmem x hx with rfl|⟨hx,hne⟩
  ·refine ⟨b1,?_,fun r' hr' e=>?_⟩
   ·rcases m3 with m3|m3
    ·exact ⟨r1,by simp [b2],b3,b4.trans m3.symm⟩
    ·exact ⟨r,by simp,hk,m3.symm⟩
   ·rcases zzq.1 hr' with hr'|hr'
    ·exact zzu m1 (b5 r' hr' e)
    ·simp only [zz0] at hr';subst hr';exact m2
  ·obtain ⟨a1,⟨r2,a2,a3⟩,a4⟩:=h.ahc x hx;refine ⟨a1,⟨r2,by simp [a2],a3⟩,fun r' hr' e=>?_⟩;rcases zzq.1 hr' with hr'|hr'
   ·exact a4 r' hr' e
   ·simp only [zz0] at hr';subst hr';exact absurd (e.symm.trans hk) hne
 ·rcases hmem x hx with rfl|⟨hx,hne⟩
  ·rcases hd d wH with q1|q1
   ·obtain ⟨c1,r2,c2,c3⟩:=h.data s jP d q1;exact ⟨c1,r2,by simp [c2],c3⟩
   ·subst q1;exact ⟨by show c8 s.type r.data=0;rw [<- dE];exact h2,r,by simp,hk,rfl⟩
  ·obtain ⟨c1,r2,c2,c3⟩:=h.data x hx d wH;exact ⟨c1,r2,by simp [c2],c3⟩
 ·rcases hmem x hx with rfl|⟨hx,hne⟩
  ·exact ha
  ·exact h.apart x hx
 ·rcases hmem x hx with rfl|⟨hx,hne⟩
  ·exact hn
  ·exact h.asx x hx
 ·have lq:k6 s.owner s.type s.cls (m5 s.b9 r.b9) d' ∈ L.set i (k6 s.owner s.type s.cls (m5 s.b9 r.b9) d'):=zm (List.getElem?_set_self hi);rcases zzq.1 hr' with hr'|hr'
  ·obtain ⟨a1,a2,x,hx,a3,a4⟩:=h.all r' hr';refine ⟨a1,a2,?_⟩;obtain ⟨j,hj⟩:=List.mem_iff_getElem?.1 hx;by_cases e:i=j
   ·subst e;rw [hs] at hj;cases hj;exact ⟨_,lq,a3,bA _ a4⟩
   ·exact ⟨x,zm ((zyf e).trans hj),a3,a4⟩
  ·simp only [zz0] at hr';subst hr';exact ⟨h1,h2,_,lq,hk.symm,hr⟩
theorem Gu:∀ (rest q:List dt) (L a:List aw),z7 q L->fe rest L=(a,0)->z7 (q++rest) a
 | [],q,L,a,h,e=>by rw [fe] at e;cases e;rw [zzn];exact h
 |r::rest,q,L,a,h,e=>by
  rw [fe] at e
  split at e
  ·rename_i h1;have:=congrArg (fun x:List aw × Int=>x.2) e;exact absurd this h1
  rename_i h1;have h1:cg r.owner=0:=Decidable.not_not.1 h1
  split at e
  ·rename_i h2;have:=congrArg (fun x:List aw × Int=>x.2) e;exact absurd this h2
  rename_i h2;have h2:c8 r.type r.data=0:=Decidable.not_not.1 h2;rw [show q++r::rest=(q++[r])++rest by rw [zzc];rfl];cases hk:ln (jf r) 0 (L.map ef) with
  |none=>
   rw [hk] at e;exact Gu rest _ _ a (h.new h1 h2 hk) e
  |some i=>
   rw [hk] at e;simp only at e;obtain ⟨p,hp,kO⟩:=D6 _ 0 i hk;rw [Nat.zero_add] at hp;subst hp;rw [zzj,zzk] at kO;obtain ⟨s,hs,nG⟩:=kO;rw [hs] at e;simp only at e;have jP:=zm hs;have dE:r.type=s.type:=by have:=congrArg (fun k:mh=>k.2.1) nG;exact this.symm
   have h2':c8 s.type r.data=0:=by rw [<- dE];exact h2
   split at e
   ·rename_i hh;exact Gu rest _ _ a (h.ye hs nG.symm h1 h2 (fun d hd=>.inl hd) (h.apart s jP) (fun x hx=>hx) hh (h.asx s jP)) e
   rename_i hh
   split at e
   ·have:=congrArg (fun x:List aw × Int=>x.2) e;cases this
   have bH:m6 s.type s.data r.data=false:=by simpa using hh
   refine Gu rest _ _ a (h.ye hs nG.symm h1 h2 (fun d hd=>?_) (J5 s.type r.data s.data [] (h.apart s jP) h2' bH) (fun x hx=>?_) ?_ (by simp)) e
   ·rcases zzq.1 hd with q1|q1
    ·exact .inl q1
    ·exact .inr (zz0.1 q1)
   ·unfold m6 at hx ⊢;rw [List.any_append,hx];rfl
   ·unfold m6;rw [List.any_append,List.any_cons,aax h2'];simp
theorem xu:ak PP [u4,uc,ma,Nq]:=.cons (aq Rx) (.cons (aq Cd) (.cons (aq wv) (.cons (aq aii) (.nil PP))))
theorem ald {r:dt} (h1:cg r.owner=0):∀ (L:List aw) (i:Nat),(∀ s ∈ L,cg s.owner=0)->atR r.owner r.type r.cls L i=match ln (jf r) i (L.map ef) with|none=>-1|some j=>(j:Int)
 | [],_,_=>rfl
 |s::L,i,h=>by
  have hs:=h s (by simp);have ih:=ald h1 L (i+1) (fun x hx=>h x (by simp [hx]));rw [atR,List.map_cons,ln];have pO:(jf r=ef s)↔Da r.owner r.type r.cls s=true:=by
   unfold jf ef Da;rw [Prod.mk.injEq,Prod.mk.injEq,auk h1 hs];simp only [zzh,decide_eq_true_eq,gh];constructor
   ·rintro ⟨q1,q2,q3⟩;exact ⟨by rw [q2],by rw [q3],q1.symm⟩
   ·rintro ⟨q1,q2,q3⟩;exact ⟨q3.symm,(UInt16.toNat_inj.1 zO),(UInt16.toNat_inj.1 zO)⟩
  by_cases hk:jf r=ef s
  ·rw [if_pos hk,if_pos (pO.1 hk)]
  ·rw [if_neg hk,if_neg (fun q=>hk (pO.2 q)),ih]
theorem ac8:∀ (L:List aw) (vs:List Value),vs.length=L.length->Iw L (dh L vs)
 | [],vs,h=>⟨by have:vs=[]:=zzf h;subst this;rfl,fun j s hs=>by simp at hs⟩
 |s::L,[],h=>by simp at h
 |s::L,v::vs,h=>by
  have ih:=ac8 L vs (by simpa using h);refine ⟨A0 _ _ h,fun j x hx=>?_⟩;show (D8 s v++dh L vs)[j * 5]? = _/\(D8 s v++dh L vs)[j * 5+1]? = _/\(D8 s v++dh L vs)[j * 5+2]? = _;have h5:(D8 s v).length=5:=rfl;cases j with
  |zero=>
   rw [List.getElem?_cons_zero] at hx;cases hx;exact ⟨rfl,rfl,rfl⟩
  |succ j=>
   rw [List.getElem?_cons_succ] at hx;obtain ⟨q1,q2,q3⟩:=ih.own j x hx;rw [zzd zO,zzd zO,zzd zO,h5];rw [show (j+1) * 5 - 5=j * 5 by omega,show (j+1) * 5+1 - 5=j * 5+1 by omega,show (j+1) * 5+2 - 5=j * 5+2 by omega];exact ⟨q1,q2,q3⟩
theorem Xd {B:dz} {st0 st':St} {g g':Gh} {a':Act} {w w':World} {L':SL} {V:List AV} {O:List (Option bk)} (aF:B.iw) (hp:B.bg=0) (hh:ew B Tryz.f70.ntmps L' st' g' a' w') (hb:ub (lr g st0.h w B.bg (fun _=>False)) g' st'.h w')
 (hv:Go.Vm.dq 0 [0,4,5] L' st'=V) (ho:gk 0 [0,4,5] L' st'=O):∃ g2,ew B Tryz.f70.ntmps (fm [0,4,5] V) (ay O) g2 a' w'/\∀ cs e n sz v b,jt cs->iu B g st0 w cs e n sz v b->iu B g2 (ay O) w' cs e n sz v b:=by
 have H:=hh.canon aF zO [0,4,5];rw [hp,hv,ho] at H;refine ⟨_,H,fun cs e n sz v b hcl hd=>?_⟩;have:=(hd.keep hcl hb).canon zO hcl [0,4,5] L';rw [hp,ho] at this;exact this
def Ur (B:dz) (q:List dt) (p:Nat) (x:List aw × Int) (a:Act) (w:World):Prop:=
 ∃ L vs bs g,x=fe (q.drop p) L/\L.length<=p/\(∀ s ∈ L,0<s.data.length/\dk ly s.data<=dk jb (q.take p)/\bj s.owner/\cg s.owner=0)/\RAt B q p L vs bs g a w
theorem ait {B:dz} (aF:B.iw) (hp:B.bg=0) (hO:∀ b,¬ B.O b) (aL:B.n0<=B.w.heap.size) {q:List dt} (hq:m9 q) {p:Nat} {r:dt} (hr:q[p]? = some r) {L:List aw} {vs:List Value} {bs:List Nat} {g:Gh} {a:Act} {w:World}
 (h:RAt B q p L vs bs g a w) (iZ:L.length<=p) (hw:∀ s ∈ L,0<s.data.length/\dk ly s.data<=dk jb (q.take p)/\bj s.owner/\cg s.owner=0) (h1:cg r.owner=0) (h2:c8 r.type r.data=0) (hk:ln (jf r) 0 (L.map ef)=none) :
 pk.wpIn (fw none) 0 PP (fun ex a' w'=>ex = .normal/\Ur B q (p+1) (fe (q.drop p) L) a' w') a w:=by
 have hlt:p<q.length:=(zg.1 hr).1;have cN:=zm hr;have lL:jb r<dk jb q:=u3 cN;have eH:=hq.len;have iH:=hq.data;have hd:ca r.data:=by unfold ca;unfold jb at lL iH;unfold jb at *;omega
 have bK:q.drop p=r::q.drop (p+1):=by rw [zzs hlt];obtain ⟨_,e⟩:=zg.1 hr;rw [e]
 have cX:q.take (p+1)=q.take p++[r]:=jg hr;have hwt:dk jb (q.take (p+1))=dk jb (q.take p)+(ly r.data+0+1):=by rw [cX,ux];rfl
 have hat:=ald h1 L 0 (fun s hs=>(hw s hs).2.2.2);rw [hk] at hat;have hstep:=aGq q p r hr L (dh L vs) (ac8 _ _ h.lv) (m8 _ _) (fun τ=>m7 τ _ _) zO (fun s hs=>(hw s hs).2.2.1) hat (hq.owner r cN) hd h1 h2 eH;refine wpIn_mono (piece xu zK aF zO aL zK (by rw [hp];exact hstep) h.here) ?_;rintro ex a' w' ⟨e,L',st',g',rfl,hQ,bH,hb⟩;cases e with
 |ret=>exact hQ.elim
 |exit id=>exact hQ.elim
 |normal=>
  obtain ⟨e1,e2⟩:=hQ;obtain ⟨g2,H,keep⟩:=Xd aF hp bH hb e1 e2;have hcl:∀ l:List bp,jt (cellsOf ai true l):=fun l=>oq ai _ true l
  have hs1:(L++[k6 r.owner r.type r.cls r.b9 [r.data]])[L.length]? = some (k6 r.owner r.type r.cls r.b9 [r.data]):=by rw [zzd (zza _),Nat.sub_self];rfl
  have lZ:(L++[k6 r.owner r.type r.cls r.b9 [r.data]]).map ef=L.map ef++[jf r]:=by rw [zzw];rfl
  have t1:(L++[k6 r.owner r.type r.cls r.b9 [r.data]]).take L.length=L:=List.take_left' rfl;have t2:(vs++[undef]).take L.length=vs:=List.take_left' h.lv;have t3:(L++[k6 r.owner r.type r.cls r.b9 [r.data]]).drop (L.length+1)=[]:=zzx (by simp);have iY:(ay [some (.row (dh ((L++[k6 r.owner r.type r.cls r.b9 [r.data]]).take L.length) ((vs++[undef]).take L.length) ++ zt r.owner :: .sc (.int .u16 r.type.toNat) :: .sc (.int .u16 r.cls.toNat) :: .sc (.int .u32 r.b9.toNat) :: .sl 1 0 1 4::dh ((L++[k6 r.owner r.type r.cls r.b9 [r.data]]).drop (L.length+1)) ((vs++[undef]).drop (L.length+1))) 0 0 63),some (.row (cellsOf ai true ([r.data])) 0 0 116)]) =
   ay [some (.row (dh L vs++[zt r.owner,.sc (.int .u16 r.type.toNat),.sc (.int .u16 r.cls.toNat),.sc (.int .u32 r.b9.toNat),.sl 1 0 1 4]) 0 0 63),some (.row (cellsOf ai true ([r.data])) 0 0 116)]:=by
   rw [t1,t2,t3];rfl
  have fC:=h.lb;have hlv:=h.lv;obtain ⟨vs',dV,g3,hat⟩:=aen (i:=L.length) (L:=L++[k6 r.owner r.type r.cls r.b9 [r.data]]) (vs:=vs++[undef]) (bs:=bs++[0]) aF hp hO hs1 (by show 0<1;omega) (by simp [hlv]) (by simp [fC]) (g:=g2) (a:=a') (w:=w') (q:=q) (p:=p+1)
   (by
    have e3:(L++[k6 r.owner r.type r.cls r.b9 [r.data]]).length=L.length+1:=by rw [za];rfl
    rw [e3];exact (congrArg (fun x=>ew B Tryz.f70.ntmps (fm [0,4,5] [zr q,.sl 0 0 (L.length+1) 5,zi (p+1)]) x g2 a' w') iY).mpr H)
   (fun j k b hj hk hjk h5 h6=>by
    have hj':j<bs.length:=by have:=(zg.1 h5).1;simp at this;omega
    have fV:k<bs.length:=by have:=(zg.1 h6).1;simp at this;omega
    rw [zzi hj'] at h5;rw [zzi fV] at h6;exact h.nd j k b hjk h5 h6)
   (fun j s2 v b hj h5 h6 h7=>by
    have hj':j<bs.length:=by have:=(zg.1 h7).1;simp at this;omega
    rw [zzi zO] at h5 h6 h7;exact (congrArg (fun x=>iu B g2 x w' (cellsOf ai true s2.data) 116 s2.data.length 4 v b) iY).mpr (keep _ _ _ _ _ _ (hcl _) (h.own j s2 v b h5 h6 h7)))
  refine ⟨rfl,_,vs',dV,g3,?_,by simp;omega,fun s hs=>?_,hat⟩
  ·rw [bK,fe,if_neg (by rw [h1];simp),if_neg (by rw [h2];simp),hk]
  ·rcases zzq.1 hs with q1|q1
   ·have:=hw s q1;exact ⟨this.1,zO,this.2.2⟩
   ·simp only [zz0] at q1;subst q1;refine ⟨by show 0<1;omega,?_,hq.owner r cN,h1⟩;show ly r.data+0+1<=_;omega
theorem aG0 {L:List aw} {vs:List Value} {i:Nat} {s:aw} (hl:vs.length=L.length) (hs:L[i]? = some s):Iw L (dh (L.take i) (vs.take i)++zt s.owner :: .sc (.int .u16 s.type.toNat) :: .sc (.int .u16 s.cls.toNat) :: .sc (.int .u32 s.b9.toNat) :: .sl 1 0 s.data.length 4::dh (L.drop (i+1)) (vs.drop (i+1))):=by
 obtain ⟨hi,_⟩:=zg.1 hs;have hv:vs[i]? = some (vs[i]'zO):=zh zO;have h0:=ac8 L vs hl;have hX:(dh (L.take i) (vs.take i)).length=i * 5:=by rw [A0 _ _ (by simp;omega),zzl,Nat.min_eq_left zO]
 rw [ab2 hl hs hv] at h0;have e:=(sx (dh (L.take i) (vs.take i)) (dh (L.drop (i+1)) (vs.drop (i+1))) hX (zt s.owner) (.sc (.int .u16 s.type.toNat)) (.sc (.int .u16 s.cls.toNat)) (.sc (.int .u32 s.b9.toNat)) (.sc (vs[i]'zO)) (.sl 1 0 s.data.length 4)).2;have wY:Iw L (dh (L.take i) (vs.take i)++zt s.owner :: .sc (.int .u16 s.type.toNat) :: .sc (.int .u16 s.cls.toNat) :: .sc (.int .u32 s.b9.toNat) :: .sc (vs[i]'zO)::dh (L.drop (i+1)) (vs.drop (i+1))):=h0;rw [<- e];refine ⟨by rw [List.length_set];exact wY.len,fun j x hx=>?_⟩;obtain ⟨q1,q2,q3⟩:=wY.own j x hx;rw [zyf zO,zyf zO,zyf zO];exact ⟨q1,q2,q3⟩
theorem aCd {B:dz} (aF:B.iw) {q:List dt} {p:Nat} {L:List aw} {vs:List Value} {bs:List Nat} {g:Gh} {a:Act} {w:World} {i:Nat} {s:aw} (h:RAt B q p L vs bs g a w) (hs:L[i]? = some s) :
 ∃ g',ew B Tryz.f70.ntmps (fm [0,4,5] [zr q,.sl 0 0 (L.length) 5,zi p]) (ay [some (.row (dh ((L).take (i)) ((vs).take (i))++zt s.owner :: .sc (.int .u16 s.type.toNat) :: .sc (.int .u16 s.cls.toNat) :: .sc (.int .u32 (s.b9).toNat) :: .sl 1 0 (s.data.length) 4::dh ((L).drop ((i)+1)) ((vs).drop ((i)+1))) 0 0 63),some (.row (cellsOf ai true (s.data)) 0 0 116)]) g' a w /\
  ∀ (j:Nat) s2 v b,j≠i->L[j]? = some s2->vs[j]? = some v->bs[j]? = some b->iu B g' (ay [some (.row (dh ((L).take (i)) ((vs).take (i))++zt s.owner :: .sc (.int .u16 s.type.toNat) :: .sc (.int .u16 s.cls.toNat) :: .sc (.int .u32 (s.b9).toNat) :: .sl 1 0 (s.data.length) 4::dh ((L).drop ((i)+1)) ((vs).drop ((i)+1))) 0 0 63),some (.row (cellsOf ai true (s.data)) 0 0 116)]) w (cellsOf ai true s2.data) 116 s2.data.length 4 v b:=by
 obtain ⟨hi,gF⟩:=zg.1 hs;have hlv:=h.lv;have fC:=h.lb;have hv:vs[i]? = some (vs[i]'zO):=zh zO;have hb:bs[i]? = some (bs[i]'zO):=zh zO;have hcl:∀ l:List bp,jt (cellsOf ai true l):=fun l=>oq ai _ true l
 have e1:∀ x:AV,dh (L.take i) (vs.take i)++zt s.owner :: .sc (.int .u16 s.type.toNat) :: .sc (.int .u16 s.cls.toNat) :: .sc (.int .u32 s.b9.toNat)::x::dh (L.drop (i+1)) (vs.drop (i+1))=(dh (L.take i) (vs.take i)++[zt s.owner,.sc (.int .u16 s.type.toNat),.sc (.int .u16 s.cls.toNat),.sc (.int .u32 s.b9.toNat)])++x::dh (L.drop (i+1)) (vs.drop (i+1)):=fun x=>by rw [zzc];rfl
 have e2:dh L vs=(dh (L.take i) (vs.take i)++[zt s.owner,.sc (.int .u16 s.type.toNat),.sc (.int .u16 s.cls.toNat),.sc (.int .u32 s.b9.toNat)])++AV.sc (vs[i]'zO)::dh (L.drop (i+1)) (vs.drop (i+1)):=by rw [ab2 hlv hs hv,<- e1];rfl
 have H:=h.here;have O:=h.own i s _ _ hs hv hb;rw [e2] at H O;obtain ⟨g',H2,keep⟩:=aE3 (t0:=4) (m:=L.length) (z:=5) aF rfl zO H O;rw [<- e1] at H2;refine ⟨g',H2,fun j s2 v b hj h1 h2 h3=>?_⟩;have hne:b≠bs[i]'zO:=fun e=>h.nd j i b hj h3 (by rw [hb,e])
 have q1:=h.own j s2 v b h1 h2 h3;rw [e2] at q1;have:=keep _ _ _ _ _ _ (hcl _) hne q1;rw [<- e1] at this;exact this
theorem aju {B:dz} (aF:B.iw) (hp:B.bg=0) (hO:∀ b,¬ B.O b) {q:List dt} {p:Nat} {L:List aw} {vs:List Value} {bs:List Nat} {g0 g:Gh} {a0 a:Act} {w0 w:World} {i:Nat} {s:aw} {t:UInt32} {d:List bp} (h:RAt B q p L vs bs g0 a0 w0) (hs:L[i]? = some s) (hd : 0<d.length)
 (H:ew B Tryz.f70.ntmps (fm [0,4,5] [zr q,.sl 0 0 (L.length) 5,zi (p+1)]) (ay [some (.row (dh ((L).take (i)) ((vs).take (i))++zt s.owner :: .sc (.int .u16 s.type.toNat) :: .sc (.int .u16 s.cls.toNat) :: .sc (.int .u32 (t).toNat) :: .sl 1 0 (d.length) 4::dh ((L).drop ((i)+1)) ((vs).drop ((i)+1))) 0 0 63),some (.row (cellsOf ai true (d)) 0 0 116)]) g a w)
 (keep:∀ (j:Nat) s2 v b,j≠i->L[j]? = some s2->vs[j]? = some v->bs[j]? = some b->iu B g (ay [some (.row (dh ((L).take (i)) ((vs).take (i))++zt s.owner :: .sc (.int .u16 s.type.toNat) :: .sc (.int .u16 s.cls.toNat) :: .sc (.int .u32 (t).toNat) :: .sl 1 0 (d.length) 4::dh ((L).drop ((i)+1)) ((vs).drop ((i)+1))) 0 0 63),some (.row (cellsOf ai true (d)) 0 0 116)]) w (cellsOf ai true s2.data) 116 s2.data.length 4 v b) :
 ∃ vs' dV g',RAt B q (p+1) (L.set i (k6 s.owner s.type s.cls (t) (d))) vs' dV g' a w:=by
 obtain ⟨hi,gF⟩:=zg.1 hs;obtain ⟨t1,t2,t3⟩:=aim (s':=(k6 s.owner s.type s.cls (t) (d))) hi;have iY:(ay [some (.row (dh ((L.set i (k6 s.owner s.type s.cls (t) (d))).take i) (vs.take i)++zt s.owner :: .sc (.int .u16 s.type.toNat) :: .sc (.int .u16 s.cls.toNat) :: .sc (.int .u32 t.toNat) :: .sl 1 0 d.length 4::dh ((L.set i (k6 s.owner s.type s.cls (t) (d))).drop (i+1)) (vs.drop (i+1))) 0 0 63),some (.row (cellsOf ai true (d)) 0 0 116)])=ay [some (.row (dh ((L).take (i)) ((vs).take (i))++zt s.owner :: .sc (.int .u16 s.type.toNat) :: .sc (.int .u16 s.cls.toNat) :: .sc (.int .u32 (t).toNat) :: .sl 1 0 (d.length) 4::dh ((L).drop ((i)+1)) ((vs).drop ((i)+1))) 0 0 63),some (.row (cellsOf ai true (d)) 0 0 116)]:=by rw [t1,t2]
 refine aen (i:=i) (vs:=vs) (bs:=bs) (g:=g) aF hp hO t3 hd (by rw [List.length_set];exact h.lv) (by rw [List.length_set];exact h.lb) ?_ (fun j k b _ _ hjk h5 h6=>h.nd j k b hjk h5 h6) (fun j s2 v b hj h5 h6 h7=>?_)
 ·rw [show (L.set i (k6 s.owner s.type s.cls (t) (d))).length=L.length by rw [List.length_set]];exact (congrArg (fun x=>ew B Tryz.f70.ntmps (fm [0,4,5] [zr q,.sl 0 0 (L.length) 5,zi (p+1)]) x g a w) iY).mpr H
 ·rw [zyf (Ne.symm hj)] at h5;exact (congrArg (fun x=>iu B g x w (cellsOf ai true s2.data) 116 s2.data.length 4 v b) iY).mpr (keep j s2 v b hj h5 h6 h7)
theorem air {B:dz} (aF:B.iw) (hp:B.bg=0) (hO:∀ b,¬ B.O b) (aL:B.n0<=B.w.heap.size) {q:List dt} (hq:m9 q) {p:Nat} {r:dt} (hr:q[p]? = some r) {L:List aw} {vs:List Value} {bs:List Nat} {g:Gh} {a:Act} {w:World} {i:Nat} {s:aw}
 (h:RAt B q p L vs bs g a w) (iZ:L.length<=p) (hw:∀ s ∈ L,0<s.data.length/\dk ly s.data<=dk jb (q.take p)/\bj s.owner/\cg s.owner=0) (h1:cg r.owner=0) (h2:c8 r.type r.data=0) (hk:ln (jf r) 0 (L.map ef)=some i) (hs:L[i]? = some s) :
 pk.wpIn (fw none) 0 PP (fun ex a' w'=>(ex = .normal/\Ur B q (p+1) (fe (q.drop p) L) a' w')\/(ex = .ret/\Fin B Tryz.f70.ntmps (di PP Tryz.f70.results.toList (fun rr st=>(r2 (bw aj) (bh .i64)).get true st.h rr=some (fe (q.drop p) L))) .ret a' w')) a w:=by
 have hlt:p<q.length:=(zg.1 hr).1;have cN:=zm hr;have lL:jb r<dk jb q:=u3 cN;have eH:=hq.len;have iH:=hq.data;have hd:ca r.data:=by unfold ca;unfold jb at *;omega
 have bK:q.drop p=r::q.drop (p+1):=by rw [zzs hlt];obtain ⟨_,e⟩:=zg.1 hr;rw [e]
 have cX:q.take (p+1)=q.take p++[r]:=jg hr;have hwt:dk jb (q.take (p+1))=dk jb (q.take p)+(ly r.data+0+1):=by rw [cX,ux];rfl
 have yJ:dk jb q=dk jb (q.take p)+dk jb (q.drop p):=by rw [<- ux,zzm]
 have hmap:(L.map ef).length=L.length:=by rw [zzo]
 obtain ⟨hi,gF⟩:=zg.1 hs;have hsm:=zm hs;obtain ⟨hn,yI,gD,fQ⟩:=hw s hsm;have bO:kg s.data:=by unfold kg;omega
 have hlv:=h.lv;have hX:(dh (L.take i) (vs.take i)).length=i * 5:=by rw [A0 _ _ (by simp;omega),zzl,Nat.min_eq_left zO]
 have hcl:∀ l:List bp,jt (cellsOf ai true l):=fun l=>oq ai _ true l
 obtain ⟨g1,H1,eE⟩:=aCd aF h hs;have jX:=ald h1 L 0 (fun s hs=>(hw s hs).2.2.2);rw [hk] at jX;have dE:s.type=r.type:=by obtain ⟨j,hj,hjk⟩:=D6 _ _ _ hk;rw [Nat.zero_add] at hj;subst hj;rw [zzj,hs] at hjk;have:=Option.some.inj hjk;unfold ef jf at this;rw [Prod.mk.injEq,Prod.mk.injEq] at this;exact this.2.1
 have hrow:=aG0 h.lv hs;have ki:∀ (s':aw),(0<s'.data.length/\dk ly s'.data<=dk jb (q.take (p+1))/\bj s'.owner/\cg s'.owner=0)->∀ x ∈ L.set i s',0<x.data.length/\dk ly x.data<=dk jb (q.take (p+1))/\bj x.owner/\cg x.owner=0:=fun s' hs' x hx=>by
  rcases List.mem_or_eq_of_mem_set hx with q1|q1
  ·have:=hw x q1;exact ⟨this.1,zO,this.2.2⟩
  ·subst q1;exact hs'
 have aQ:fe (q.drop p) L=if m6 s.type s.data r.data=true then fe (q.drop (p+1)) (L.set i (k6 s.owner s.type s.cls (m5 s.b9 r.b9) (s.data))) else if 512<=s.data.length then ([],3) else fe (q.drop (p+1)) (L.set i (k6 s.owner s.type s.cls (m5 s.b9 r.b9) (s.data++[r.data]))):=by rw [bK,fe,if_neg (by rw [h1];simp),if_neg (by rw [h2];simp),hk];simp only [hs]
 by_cases hh:m6 s.type s.data r.data=true
 ·rw [if_pos hh] at aQ;have hstep:=aFx q p r hr L i (dh (L.take i) (vs.take i)) (dh (L.drop (i+1)) (vs.drop (i+1))) s hX (m8 _ _) (fun τ=>m7 τ _ _) (m8 _ _) (fun τ=>m7 τ _ _) hi hrow zO (fun s hs=>(hw s hs).2.2.1) jX (hq.owner r cN) hd h1 h2 eH bO hn (by rw [<- dE];exact hh);refine wpIn_mono (piece xu zK aF zO aL zK (by rw [hp];exact hstep) H1) ?_;rintro ex a' w' ⟨e,L',st',g',rfl,hQ,bH,hb⟩;cases e with
  |ret=>exact hQ.elim
  |exit id=>exact hQ.elim
  |normal=>
   obtain ⟨e1,e2⟩:=hQ;obtain ⟨g2,H,keep⟩:=Xd aF hp bH hb e1 e2;obtain ⟨vs',dV,g3,hat⟩:=aju aF hp hO h hs hn H (fun j s2 v b hj h5 h6 h7=>keep _ _ _ _ _ _ (hcl _) (eE j s2 v b hj h5 h6 h7));exact .inl ⟨rfl,_,vs',dV,g3,aQ,by rw [List.length_set];omega,ki _ ⟨hn,by show dk ly s.data<=_;omega,gD,fQ⟩,hat⟩
 have bH:m6 s.type s.data r.data=false:=by simpa using hh
 rw [if_neg hh] at aQ;by_cases h5 : 512<=s.data.length
 ·rw [if_pos h5] at aQ;have hstep:=aB1 q p r hr L i (dh (L.take i) (vs.take i)) (dh (L.drop (i+1)) (vs.drop (i+1))) s hX (m8 _ _) (fun τ=>m7 τ _ _) (m8 _ _) (fun τ=>m7 τ _ _) hi hrow zO (fun s hs=>(hw s hs).2.2.1) jX (hq.owner r cN) hd h1 h2 eH bO hn h5 (by rw [<- dE];exact bH);refine wpIn_mono (piece xu zK aF zO aL zK (by rw [hp];exact hstep) H1) ?_;rintro ex a' w' ⟨e,L',st',g',rfl,hQ,bF,hb⟩;cases e with
  |normal=>exact hQ.elim
  |exit id=>exact hQ.elim
  |ret=>
   refine .inr ⟨rfl,?_⟩;rw [aQ];exact ⟨.ret,L',st',g',rfl,hQ,bF.cur,bF.sl,bF.uf⟩
 ·rw [if_neg h5] at aQ;have hstep:=aGe q p r hr L i (dh (L.take i) (vs.take i)) (dh (L.drop (i+1)) (vs.drop (i+1))) s hX (m8 _ _) (fun τ=>m7 τ _ _) (m8 _ _) (fun τ=>m7 τ _ _) hi hrow zO (fun s hs=>(hw s hs).2.2.1) jX (hq.owner r cN) hd h1 h2 eH bO hn zO (by rw [<- dE];exact bH);refine wpIn_mono (piece xu zK aF zO aL zK (by rw [hp];exact hstep) H1) ?_;rintro ex a' w' ⟨e,L',st',g',rfl,hQ,bF,hb⟩;cases e with
  |ret=>exact hQ.elim
  |exit id=>exact hQ.elim
  |normal=>
   obtain ⟨e1,e2⟩:=hQ;have hl2:s.data.length+1=(s.data++[r.data]).length:=by simp
   rw [hl2] at e2;obtain ⟨g2,H,keep⟩:=Xd aF hp bF hb e1 e2;obtain ⟨vs',dV,g3,hat⟩:=aju aF hp hO h hs (by simp) H (fun j s2 v b hj h5 h6 h7=>keep _ _ _ _ _ _ (hcl _) (eE j s2 v b hj h5 h6 h7));refine .inl ⟨rfl,_,vs',dV,g3,aQ,by rw [List.length_set];omega,ki _ ⟨by show 0<(s.data++[r.data]).length;simp,?_,gD,fQ⟩,hat⟩;show dk ly (s.data++[r.data])<=_;rw [ux];show dk ly s.data+(ly r.data+0+1)<=_;omega
theorem aCv {B:dz} (aF:B.iw) (hp:B.bg=0) (hO:∀ b,¬ B.O b) (aL:B.n0<=B.w.heap.size) {q:List dt} (hq:m9 q) {p:Nat} (hlt:p<q.length) {x:List aw × Int} {a:Act} {w:World} (h:Ur B q p x a w) :
 pk.wpIn (fw none) 0 PP (fun ex a' w'=>(ex = .normal/\Ur B q (p+1) x a' w')\/(ex = .ret/\Fin B Tryz.f70.ntmps (di PP Tryz.f70.results.toList (fun rr st=>(r2 (bw aj) (bh .i64)).get true st.h rr=some (x))) .ret a' w')) a w:=by
 obtain ⟨L,vs,bs,g,rfl,iZ,hw,hat⟩:=h;obtain ⟨r,hr⟩:∃ r,q[p]? = some r:=⟨_,zh hlt⟩;have cN:=zm hr;have lL:jb r<dk jb q:=u3 cN;have eH:=hq.len;have iH:=hq.data;have hd:ca r.data:=by unfold ca;unfold jb at *;omega
 have bK:q.drop p=r::q.drop (p+1):=by rw [zzs hlt];obtain ⟨_,e⟩:=zg.1 hr;rw [e]
 have hlv:=hat.lv;by_cases h1:cg r.owner=0;rotate_left
 ·have hstep:=aDi q p r hr L.length (dh L vs) (hq.owner r cN) hd h1 eH;have aQ:fe (q.drop p) L=([],cg r.owner):=by rw [bK,fe,if_pos h1]
  refine wpIn_mono (piece xu zK aF zO aL zK (by rw [hp];exact hstep) hat.here) ?_;rintro ex a' w' ⟨e,L',st',g',rfl,hQ,bF,hb⟩;cases e with
  |normal=>exact hQ.elim
  |exit id=>exact hQ.elim
  |ret=>
   refine .inr ⟨rfl,?_⟩;rw [aQ];exact ⟨.ret,L',st',g',rfl,hQ,bF.cur,bF.sl,bF.uf⟩
 by_cases h2:c8 r.type r.data=0;rotate_left
 ·have hstep:=aBl q p r hr L.length (dh L vs) (hq.owner r cN) hd h1 h2 eH;have aQ:fe (q.drop p) L=([],c8 r.type r.data):=by rw [bK,fe,if_neg (by rw [h1];simp),if_pos h2]
  refine wpIn_mono (piece xu zK aF zO aL zK (by rw [hp];exact hstep) hat.here) ?_;rintro ex a' w' ⟨e,L',st',g',rfl,hQ,bF,hb⟩;cases e with
  |normal=>exact hQ.elim
  |exit id=>exact hQ.elim
  |ret=>
   refine .inr ⟨rfl,?_⟩;rw [aQ];exact ⟨.ret,L',st',g',rfl,hQ,bF.cur,bF.sl,bF.uf⟩
 cases hk:ln (jf r) 0 (L.map ef) with
 |none=>exact wpIn_mono (ait aF hp hO aL hq hr hat iZ hw h1 h2 hk) (fun ex a' w' h=>.inl h)
 |some i=>
  have hi:=(Gj _ 0 i hk).2;rw [zzo,Nat.zero_add] at hi;exact air aF hp hO aL hq hr hat iZ hw h1 h2 hk (zh hi)
theorem afy {B:dz} {q:List dt} {p:Nat} {L:List aw} {vs:List Value} {bs:List Nat} {g:Gh} {a:Act} {w:World} (h:RAt B q p L vs bs g a w):∀ (k:Nat),k<=L.length ->
 ∃ g',ew B Tryz.f70.ntmps (fm [0,4,5] [zr q,.sl 0 0 (L.length) 5,zi p]) (ay [some (.row (cellsOf aj true (L.take k)++dh (L.drop k) (vs.drop k)) 0 0 63)]) g' a w /\
  ∀ (j:Nat) s v b,k<=j->L[j]? = some s->vs[j]? = some v->bs[j]? = some b->iu B g' (ay [some (.row (cellsOf aj true (L.take k)++dh (L.drop k) (vs.drop k)) 0 0 63)]) w (cellsOf ai true s.data) 116 s.data.length 4 v b
 |0,_=>⟨g,h.here,fun j s v b _ h1 h2 h3=>h.own j s v b h1 h2 h3⟩
 |k+1,hk=>by
  obtain ⟨g1,H,own⟩:=afy h k zO;have hlv:=h.lv;have fC:=h.lb;have hcl:∀ l:List bp,jt (cellsOf ai true l):=fun l=>oq ai _ true l
  have hs:L[k]? = some (L[k]'zO):=zh zO;have hv:vs[k]? = some (vs[k]'zO):=zh zO;have hb:bs[k]? = some (bs[k]'zO):=zh zO;generalize L[k]'zO=s at hs;generalize vs[k]'zO=v at hv;generalize bs[k]'zO=b at hb;have d1:L.drop k=s::L.drop (k+1):=by obtain ⟨hi,rfl⟩:=zg.1 hs;exact zzs hi
  have d2:vs.drop k=v::vs.drop (k+1):=by obtain ⟨hi,rfl⟩:=zg.1 hv;exact zzs hi
  have e1:cellsOf aj true (L.take k)++dh (L.drop k) (vs.drop k)=(cellsOf aj true (L.take k)++[zt s.owner,.sc (.int .u16 s.type.toNat),.sc (.int .u16 s.cls.toNat),.sc (.int .u32 s.b9.toNat)])++AV.sc v::dh (L.drop (k+1)) (vs.drop (k+1)):=by rw [d1,d2,zzc];rfl
  have e2:(cellsOf aj true (L.take k)++[zt s.owner,.sc (.int .u16 s.type.toNat),.sc (.int .u16 s.cls.toNat),.sc (.int .u32 s.b9.toNat)])++AV.vl true 4 (s.data.map (ai.val true))::dh (L.drop (k+1)) (vs.drop (k+1))=cellsOf aj true (L.take (k+1))++dh (L.drop (k+1)) (vs.drop (k+1)):=by rw [jg hs,uy,xd,zzc,zzc];rfl
  have O:=own k s v b (zza _) hs hv hb;rw [e1] at H O;have gO:(s.data.map (ai.val true)).flatMap AV.cells=cellsOf ai true s.data:=Rf true s.data;have O':iu B g1 (ay [some (.row ((cellsOf aj true (L.take k)++[zt s.owner,.sc (.int .u16 s.type.toNat),.sc (.int .u16 s.cls.toNat),.sc (.int .u32 s.b9.toNat)])++AV.sc v::dh (L.drop (k+1)) (vs.drop (k+1))) 0 0 63)]) w ((s.data.map (ai.val true)).flatMap AV.cells) 116 s.data.length 4 v b:=by rw [gO];exact O
  obtain ⟨g2,H2,keep⟩:=aIv (t0:=4) (m:=L.length) (z:=5) (n:=s.data.length) zK (by decide) rfl zO (by rw [gO];exact hcl _) (fun e he=>by obtain ⟨d,_,rfl⟩:=zyl.1 he;rfl) (by simp) H O'
  rw [e2] at H2 keep;refine ⟨g2,H2,fun j s2 v2 b2 hj h1 h2 h3=>?_⟩;have hne:b2≠b:=fun e=>h.nd j k b2 zO h3 (by rw [hb,e])
  have:=own j s2 v2 b2 zO h1 h2 h3;rw [e1] at this;exact keep _ _ _ _ _ _ (hcl _) hne this
noncomputable def au4:Code:=match Tryz.f70.body.getD .skip with
 |.seq a (.seq _ (.seq (.seq _ (.block _ (.loop _))) _))=>a
 |_=>.skip
noncomputable def as6:Code:=match Tryz.f70.body.getD .skip with
 |.seq _ (.seq a (.seq (.seq _ (.block _ (.loop _))) _))=>a
 |_=>.skip
noncomputable def atb:Code:=match Tryz.f70.body.getD .skip with
 |.seq _ (.seq _ (.seq (.seq a (.block _ (.loop _))) _))=>a
 |_=>.skip
noncomputable def ath:Code:=match Tryz.f70.body.getD .skip with
 |.seq _ (.seq _ (.seq (.seq _ (.block _ (.loop _))) a))=>a
 |_=>.skip
theorem aCb:Tryz.f70.body.getD .skip = .seq au4 (.seq as6 (.seq (.seq atb (.block 0 (.loop pk))) ath)):=zK
theorem aGs (q:List dt):wl PP [u4,uc,ma,Nq] 0 au4 (Io (wl PP [u4,uc,ma,Nq] 0 as6 (Io (wl PP [u4,uc,ma,Nq] 0 atb (Io (fun L st=>kh 0 (Go.Vm.dq 0 [0,4,5] L st) (gk 0 [0,4,5] L st) [zr q,.sl 0 0 (0) 5,zi 0] [some (.row ([]) 0 0 63)]))))))
 (cj 0 [(bw bu).val false q]) (ay []):=by
 unfold au4 as6 atb Tryz.f70;simp only [↓wR,zT,simprocAttr,Io]
 (refine kh.lax [] (by first|exact zB rfl|(simp [cz];omega)) ?_ ?_<;>repeat' first|exact ft.nil|exact cq.nil|exact gn.same _|exact gn.nil _ _ _|exact gn.qb _ _|exact cq.refl _ _|apply ft.cons|apply cq.ghost|apply cq.same|apply cq.row)
theorem aCr (L:List aw) (m:Nat) (S:SL) (hS:lk S 4 = .sl 0 0 m 5) (hk:m=L.length):wl PP [u4,uc,ma,Nq] 0 ath (di PP Tryz.f70.results.toList (fun rr st=>(r2 (bw aj) (bh .i64)).get true st.h rr=some ((L,0)))) S (ay [some (.row (cellsOf aj true L) 0 0 63)]):=by
 have hdec:∀ fr h kk st et,yc fr st 5 aj.kd et=true->lg aj fr h 0 L.length (.row (cellsOf aj true L) kk st et)=some L:=fun fr h kk st et hro=>jy aj fr h true _ kk st et _ rfl rfl hro
 rw [hk] at hS;unfold ath Tryz.f70;simp only [↓wR,zT,simprocAttr,hS,hdec]
theorem av3 {B:dz} (aF:B.iw) (hp:B.bg=0) (hO:∀ b,¬ B.O b) (aL:B.n0<=B.w.heap.size) {q:List dt} (hq:m9 q) {g:Gh} {a:Act} {w:World} (hh:ew B Tryz.f70.ntmps (cj 0 [(bw bu).val false q]) (ay []) g a w) :
 (Tryz.f70.body.getD .skip).wpIn (fw none) 0 PP (Fin B Tryz.f70.ntmps (di PP Tryz.f70.results.toList (fun rr st=>(r2 (bw aj) (bh .i64)).get true st.h rr=some (fe q [])))) a w:=by
 rw [aCb];refine wpIn_seq (wpIn_mono (piece xu zK aF zO aL zK (by rw [hp];exact aGs q) hh) ?_);rintro ex a w ⟨e,L',st',g,rfl,hQ,hh,_⟩;cases e with
 |ret=>exact hQ.elim
 |exit id=>exact hQ.elim
 |normal=>
 refine wpIn_seq (wpIn_mono (piece xu zK aF zO aL zK (by rw [hp];exact hQ) hh) ?_);rintro ex a w ⟨e,L',st',g,rfl,hQ,hh,_⟩;cases e with
 |ret=>exact hQ.elim
 |exit id=>exact hQ.elim
 |normal=>
 refine wpIn_seq (wpIn_seq (wpIn_mono (piece xu zK aF zO aL zK (by rw [hp];exact hQ) hh) ?_));rintro ex a w ⟨e,L',st',g,rfl,hQ,hh,_⟩;cases e with
 |ret=>exact hQ.elim
 |exit id=>exact hQ.elim
 |normal=>
 refine wpIn_block ?_;have hW:kh 0 (Go.Vm.dq 0 [0,4,5] L' st') (gk 0 [0,4,5] L' st') [zr q,.sl 0 0 (0) 5,zi 0] [some (.row ([]) 0 0 63)]:=hQ;obtain ⟨V,O,g1,⟨rfl,rfl⟩,k1,k2,k3,_⟩:=I3 (X:=fun vs os=>vs=[zr q,.sl 0 0 (0) 5,zi 0]/\os=[some (.row ([]) 0 0 63)]) aF zO [0,4,5] (by rw [hp];exact ⟨_,_,hW,rfl,rfl⟩) hh.cur hh.sl;have h0:Ur B q 0 (fe q []) a w:=by refine ⟨[],[],[],g1,rfl,zza _,fun s hs=>(by cases hs),⟨⟨k1,k2,k3 _ _ _ (Ag zO [0,4,5] hh.uf)⟩,rfl,rfl,fun j k b _ h1=>(by simp at h1),fun j s v b h1=>(by simp at h1)⟩⟩
 refine Pe (fun (p:Nat) a w=>p<=q.length/\Ur B q p (fe q []) a w) (fun p=>q.length - p) ?_ 0 a w ⟨zzb _,h0⟩;rintro p a w ⟨hpl,hI⟩;by_cases hlt:p<q.length
 ·refine wpIn_mono (aCv aF hp hO aL hq hlt hI) ?_;rintro ex a' w' (⟨rfl,h⟩|⟨rfl,h⟩)
  ·exact ⟨p+1,zO,hlt,h⟩
  ·exact h
 ·have sN:p=q.length:=zO;subst sN;obtain ⟨L,vs,bs,g2,hx,iZ,hw,hat⟩:=hI;rw [List.drop_length] at hx;obtain ⟨g3,H,_⟩:=afy hat L.length (zza _);have e0:cellsOf aj true (L.take L.length)++dh (L.drop L.length) (vs.drop L.length)=cellsOf aj true L:=by
   rw [zz7,List.drop_length];exact zzn _
  rw [e0] at H;refine wpIn_mono (piece xu zK aF zO aL zK (by rw [hp];exact aFo q L.length [some (.row (cellsOf aj true L) 0 0 63)]) H) ?_;rintro ex a' w' ⟨e,S,st',g',rfl,hQ,hh,_⟩;cases e with
  |normal=>exact hQ.elim
  |ret=>exact (by cases hQ.1)
  |exit id=>
   obtain ⟨e1,e2,rfl⟩:=hQ;cases e1;refine wpIn_mono (piece xu zK aF zO aL zK (by rw [hp];exact aCr L L.length S e2 rfl) hh) ?_;rintro ex a' w' ⟨e,S,st',g',rfl,hQ,hh,_⟩;rw [hx];exact ⟨e,S,st',g',rfl,hQ,hh.cur,hh.sl,hh.uf⟩
noncomputable def S5 (x:List dt × Unit):Option AV:=open Classical in if m9 x.1 then some ((r2 (bw aj) (bh .i64)).E true (fe x.1 [])) else none
theorem asc (x:List dt × Unit) (r:AV) (h:S5 x=some r):bo PP 70 ((aC (bw bu) a0).E x) r:=by obtain ⟨hc,rfl⟩:=zI h;exact yp (body:=Tryz.f70.body.getD .skip) Tryz.func70 zK zK zL (r2 (bw aj) (bh .i64)) true (fe x.1 []) (fun B g a w aF hp hO aL hh=>av3 aF hp hO aL hc hh)
noncomputable abbrev aKr:zE:=(70,true,dg (aC (bw bu) a0) S5)
theorem aHk {l:List aw} {x:aw} {k:Nat} (hr:ke fj l) (hk:k<=l.length) (h1:∀ y,l[k]? = some y->fj x y=true) (h2:∀ y,0<k->l[k - 1]? = some y->fj x y=false):l7 fj x l=l.take k++x::l.drop k:=by
 have:=J3 (lt:=fj) (x:=x) (l.take k) (l.drop k) (fun y hy=>?_) (fun y hy=>?_)
 ·rwa [zzm] at this
 ·obtain ⟨i,hi,hy⟩:=List.getElem_of_mem hy;have hi':i<k:=by simp at hi;omega
  have hz:l[k - 1]? = some (l[k - 1]'zO):=zh zO;have oA:=h2 _ zO hz;rw [List.getElem_take] at hy;subst hy;by_cases e:i=k - 1
  ·subst e;exact oA
  ·have:=List.pairwise_iff_getElem.1 hr i (k - 1) zO zO zO;exact Ud.trans _ _ _ trivial trivial trivial this oA
 ·rw [List.head?_drop] at hy;exact h1 y hy
set_option maxHeartbeats 4000000 in
theorem aB2 (l:List aw) (hl:vz l) (hl2:l.length<=1048576):wl PP [aIw,acn] 0 (Tryz.f127.body.getD .skip) (di PP Tryz.f127.results.toList (fun r st=>(r1 (bw aj)).get true st.h r=some (ec fj l))) (cj 0 [(bw aj).val false l]) (ay []):=by
 unfold Tryz.f127;simp only [↓wR,zT,simprocAttr];refine i9 [0,4,3] (fun (i:Nat)=>[zs l,zi i,.sl 0 0 (ec fj (l.take i)).length 5]) (fun i=>[some (.row (cellsOf aj true (ec fj (l.take i))) 0 0 63)]) (fun i=>i<=l.length) (fun i=>l.length - i) 0 (zzb _) zX ?_;intro i hi;obtain ⟨x,hx⟩:∃ x,x=ec fj (l.take i):=⟨_,rfl⟩;rw [<- hx];have aV:x.length=i:=by rw [hx,fl,zzl];omega
 have qZ:∀ s ∈ x,cw s:=fun s hs=>hl.2 s (zzr (lx.1 (hx ▸ hs)))
 have rX:ke fj x:=by rw [hx];exact om Ud _ (fun _ _=>trivial)
 simp only [↓wR,zT,simprocAttr];rw [az];refine ⟨fun h=>?_,fun h=>?_⟩
 ·obtain ⟨c,hc,aH,hlt⟩:=fi (zp h);have hcs:=hl.2 c (zm hc);have cP:ec fj (l.take (i+1))=l7 fj c x:=by
   obtain ⟨hk,rfl⟩:=zg.1 hc;rw [zz5 hk,wb,<- hx]
  simp only [↓wR,zT,simprocAttr,h];refine da [0,3,4,5] (fun (k:Nat)=>[zs l,.sl 0 0 x.length 5,zi i,zi k]) (fun _=>[some (.row (cellsOf aj true (x)) 0 0 63)]) (fun k=>k<=x.length/\∀ y,x[k]? = some y->fj c y=true) (fun k=>k) x.length ⟨zza _,fun y hy=>by rw [zzy (zza _)] at hy;cases hy⟩ zS zS ?_;rintro k ⟨hk,tI⟩;simp only [↓wR,zT,simprocAttr];refine ⟨zK,.inl ?_⟩;have hT:(cellsOf aj true x).take ((k - 0) * 5)=cellsOf aj true (x.take k):=by rw [Nat.sub_zero];exact Jw aj true x k
  have uM:(cellsOf aj true (x.take k)).length=k * 5:=by rw [jq,zzl,Nat.min_eq_left hk];rfl
  have hD:(cellsOf aj true x).drop (k * 5)=cellsOf aj true (x.drop k):=Eg aj true x k;have hDl:(cellsOf aj true (x.drop k)).length=(x.length - k) * 5:=by rw [jq,zzt];rfl
  have uS:(cellsOf aj true (x.drop k)).take ((x.length - k) * 5)=cellsOf aj true (x.drop k):=by rw [<- hDl];exact zz7
  have hb5:(k - 0) * 5<=x.length * 5:=zO;have aT:=fun h=>aHk (x:=c) (k:=k) rX hk tI h
  rw [az];refine ⟨fun h2=>?_,fun h2=>?_⟩
  ·obtain ⟨y,hy⟩:∃ y,x[k - 1]? = some y:=⟨_,zh zO⟩;have nZ:=qZ y (zm hy);have e1:((k:Int) - 1).toNat=k - 1:=zO;have tG:=fun k st et=>oa k st et hy
   repeat (first|simp only [↓wR,zT,simprocAttr,h2,hc,e1,tG,Ja,hcs,nZ]|simp (disch:=omega) only [zW])
   refine ⟨zK,?_⟩;rw [dv];refine ⟨fun h3=>?_,fun h3=>?_⟩
   ·repeat (first|simp only [↓wR,zT,simprocAttr,h3]|simp (disch:=omega) only [zW])
    exact ⟨k - 1,⟨zO,fun z hz=>by rw [hy] at hz;cases hz;exact h3⟩,zO,zF⟩
   ·have hin:=aT (fun z _ hz=>by rw [hy] at hz;cases hz;exact h3);rw [hin] at cP;clear aT;have uN:(cellsOf aj true (x.take k)).isEmpty=false:=by rw [List.isEmpty_eq_false_iff_exists_mem];exact ⟨_,zyo (n:=0) zO⟩
    have bY:k * 5 * 56<=140737488355328:=zO;have hcc:=(Bd true (x.take k) c).symm;have hcl:(cellsOf aj true (x.take k++[c])).length=(k+1) * 5:=by rw [jq,za,zzl,Nat.min_eq_left hk];rfl
    have uB:(cellsOf aj true (x.take k++[c])).take ((k+1) * 5)=cellsOf aj true (x.take k++[c]):=by rw [<- hcl];exact zz7
    have hj:cellsOf aj true (x.take k++[c])++cellsOf aj true (x.drop k)=cellsOf aj true (ec fj (l.take (i+1))):=by rw [cP,<- uy,zzc];rfl
    have hl3:((k+1) * 5+(x.length - k) * 5) * 56<=140737488355328:=zO;have cM:(ec fj (l.take (i+1))).length=x.length+1:=by rw [cP];simp;omega
    have hs5:k+1+(x.length - k) * 5 / 5=x.length+1:=zO
    repeat (first|simp only [↓wR,zT,simprocAttr,h3,hk,hT,uM,uN,hb5,bY,hc,vp,hcs,hD,hDl,uS,hcc,hcl,uB,hj,hl3,hs5]|simp (disch:=omega) only [zW])
    exact ⟨i+1,hlt,zO,by rw [cM,show k+1+(x.length - k)=x.length+1 by omega];rfl,rfl⟩
  ·have hin:=aT (fun z hz=>by omega);rw [hin] at cP;clear aT;simp only [↓wR,zT,simprocAttr,h2];refine ⟨zK,?_⟩;have hk0:k=0:=zO;subst hk0;have fJ:(cellsOf aj true x).take ((x.length - 0) * 5)=cellsOf aj true x:=by rw [Nat.sub_zero,<- show (cellsOf aj true x).length=x.length * 5 from jq aj true x];exact zz7
   have uL:(cellsOf aj true x).length=x.length * 5:=jq aj true x;have hj:zt c.owner::AV.sc (.int .u16 c.type.toNat)::AV.sc (.int .u16 c.cls.toNat)::AV.sc (.int .u32 c.b9.toNat)::AV.vl true 4 (c.data.map (ai.val true))::cellsOf aj true x=cellsOf aj true (ec fj (l.take (i+1))):=by rw [cP,List.take_zero,List.nil_append,List.drop_zero,Ey];rfl
   have hl3:(5+x.length * 5) * 56<=140737488355328:=zO;have cM:(ec fj (l.take (i+1))).length=x.length+1:=by rw [cP];simp
   have hs5 : 1+x.length * 5 / 5=x.length+1:=zO
   repeat (first|simp only [↓wR,zT,simprocAttr,hk,hc,vp,hcs,fJ,uL,hj,hl3,hs5]|simp (disch:=omega) only [zW])
   exact ⟨i+1,hlt,zO,by rw [cM,Nat.add_comm 1];rfl,rfl⟩
 ·have cA:l.take i=l:=zzp zO;rw [cA] at hx;have hd:∀ fr h k st et,yc fr st 5 aj.kd et=true->lg aj fr h 0 x.length (.row (cellsOf aj true x) k st et)=some x:=fun fr h k st et hro=>jy aj fr h true x k st et x.length rfl (by cases fr<;>rfl) hro
  rw [<- hx];simp only [↓wR,zT,simprocAttr,h]
noncomputable def Qv (x:List aw × Unit):Option AV:=if vz x.1/\x.1.length<=1048576 then some ((r1 (bw aj)).E true (ec fj x.1)) else none
theorem aur (x:List aw × Unit) (r:AV) (h:Qv x=some r):bo PP 127 ((aC (bw aj) a0).E x) r:=by obtain ⟨hc,rfl⟩:=zI h;exact bf (ak.cons (aq apv) (ak.cons (aq Jt) (ak.nil PP))) Tryz.func127 zK zK zK zL (r1 (bw aj)) true (ec fj x.1) (aB2 x.1 hc.1 hc.2)
noncomputable abbrev aKm:zE:=(127,true,dg (aC (bw aj) a0) Qv)
theorem amz (s:aw) (hs:cw s):wl PP [uc,ma,Nq] 0 (Tryz.f104.body.getD .skip) (di PP Tryz.f104.results.toList (fun r st=>(r1 (bh .i64)).get true st.h r=some (ud s))) (cj 0 [aj.val false s]) (ay []):=by
 have ho:=hs.owner;have hd:=hs.data;have hn:=hd.len;unfold Tryz.f104;simp only [ji];simp only [↓wR,zT,simprocAttr,n9,ho.fit];unfold ud;rw [de];refine ⟨fun ⟨h,he⟩=>?_,fun ⟨h,he⟩=>?_⟩
 ·rw [if_pos he];simp only [↓wR,zT,simprocAttr,h]
 rw [if_neg zO];simp only [↓wR,zT,simprocAttr,h];rw [cp];refine ⟨fun ⟨h1,e1⟩=>?_,fun ⟨h1,e1⟩=>?_⟩
 ·rw [if_pos zO];simp only [↓wR,zT,simprocAttr,h1]
 rw [if_neg zO];simp only [↓wR,zT,simprocAttr,h1];rw [az];refine ⟨fun h2=>?_,fun h2=>?_⟩
 ·rw [if_pos zO];simp only [↓wR,zT,simprocAttr,h2]
 rw [if_neg zO];simp only [↓wR,zT,simprocAttr,h2];refine da [1,4] (fun (i:Nat)=>[.ptr 0 0,zi i]) (fun _=>[(zY s)]) (fun i=>i<=s.data.length/\me s.type [] s.data=me s.type (s.data.take i) (s.data.drop i)) (fun i=>s.data.length - i) 0 ⟨zzb _,rfl⟩ zS zS ?_;rintro i ⟨hi,hx⟩;simp only [↓wR,zT,simprocAttr];rw [az];refine ⟨fun h3=>?_,fun h3=>?_⟩
 ·obtain ⟨c,hc,aH,hlt⟩:=fi (zp h3);rw [Wg _ hc] at hx;have hcs:=hd.mem c (zm hc);simp only [↓wR,zT,simprocAttr,h3];refine ⟨zK,.inl ?_⟩;simp only [↓wR,zT,simprocAttr,hc,jo,hcs];refine ⟨zK,?_⟩;rw [de];refine ⟨fun ⟨h4,pZ⟩=>?_,fun ⟨h4,pZ⟩=>?_⟩
  ·rw [if_pos pZ] at hx;rw [hx];simp only [↓wR,zT,simprocAttr,h4]
  ·rw [if_neg zO] at hx;simp only [↓wR,zT,simprocAttr,h4];refine ⟨zK,.inl ?_⟩;simp only [↓wR,zT,simprocAttr,hi,hc,A5,hd.take i,hcs];refine ⟨zK,?_⟩;rw [dv];refine ⟨fun h5=>?_,fun h5=>?_⟩
   ·rw [if_pos h5] at hx;rw [hx];simp only [↓wR,zT,simprocAttr,h5]
   ·rw [if_neg (by rw [h5];decide)] at hx
    repeat (first|simp only [↓wR,zT,simprocAttr,h5]|simp (disch:=omega) only [zW])
    exact ⟨i+1,⟨hlt,hx⟩,zO,zF⟩
 ·rw [gz (zq h3)] at hx;rw [hx];simp only [↓wR,zT,simprocAttr,h3]
  try rfl
noncomputable def D0 (x:aw × Unit):Option AV:=if cw x.1 then some ((r1 (bh .i64)).E true (ud x.1)) else none
theorem acf (x:aw × Unit) (r:AV) (h:D0 x=some r):bo PP 104 ((aC aj a0).E x) r:=by obtain ⟨hc,rfl⟩:=zI h;exact bf (ak.cons (aq Cd) (ak.cons (aq wv) (ak.cons (aq aii) (ak.nil PP)))) Tryz.func104 zK zK zK zL (r1 (bh .i64)) true (ud x.1) (amz x.1 hc)
noncomputable abbrev awd:zE:=(104,true,dg (aC aj a0) D0)
theorem aFu {t:UInt16} {l:List bp} {x:bp} {k:Nat} (hx:vq t x) (hv:∀ y ∈ l,vq t y) (hr:ke (fo t) l) (hk:k<=l.length) (h1:∀ y,l[k]? = some y->fo t x y=true) (h2:∀ y,0<k->l[k - 1]? = some y->fo t x y=false):l7 (fo t) x l=l.take k++x::l.drop k:=by
 have:=J3 (lt:=fo t) (x:=x) (l.take k) (l.drop k) (fun y hy=>?_) (fun y hy=>?_)
 ·rwa [zzm] at this
 ·obtain ⟨i,hi,hy⟩:=List.getElem_of_mem hy;have hi':i<k:=by simp at hi;omega
  have hz:l[k - 1]? = some (l[k - 1]'zO):=zh zO;have oA:=h2 _ zO hz;rw [List.getElem_take] at hy;subst hy;by_cases e:i=k - 1
  ·subst e;exact oA
  ·have:=List.pairwise_iff_getElem.1 hr i (k - 1) zO zO zO;exact (sr t).trans _ _ _ (hv _ (zyo _)) (hv _ (zyo _)) hx this oA
 ·rw [List.head?_drop] at hy;exact h1 y hy
set_option maxHeartbeats 8000000 in
theorem axe (s:aw) (hs:cw s) (hl:s.data.length<=1048576):wl PP [ma,Kf,acn,Fe,Xk] 0 (Tryz.f126.body.getD .skip) (di PP Tryz.f126.results.toList (fun r st=>(r1 aj).get true st.h r=some (dq s))) (cj 0 [aj.val false s]) (ay []):=by
 have hq:∀ a b c d,eh a b c=d->eh a b c=d:=fun _ _ _ _ h=>h
 have dQ:=sv hs.owner;have hd:=hs.data;have hn:=hd.len;unfold Tryz.f126;simp only [ji];simp only [↓wR,zT,simprocAttr];refine da [1,2,3] (fun (i:Nat)=>[.ptr 0 0,.ptr 1 0,zi i]) (fun _=>[(zY s),some (.row [.sc (.slice none 0 0),.sc (.int .u16 0),.sc (.int .u16 0),.sc (.int .u32 0),.sc (.slice none 0 0)] 0 2 63)]) (fun i=>i<=s.data.length/\s.data.all (fun d=>decide (c8 s.type d=0))=(s.data.drop i).all (fun d=>decide (c8 s.type d=0))) (fun i=>s.data.length - i) 0 ⟨zzb _,rfl⟩ zS zS ?_;rintro i ⟨hi,hx⟩;simp only [↓wR,zT,simprocAttr];rw [az];refine ⟨fun h=>?_,fun h=>?_⟩
 ·obtain ⟨c,hc,aH,hlt⟩:=fi (zp h);rw [aH,List.all_cons] at hx;have hcs:=hd.mem c (zm hc);simp only [↓wR,zT,simprocAttr,h];refine ⟨zK,.inl ?_⟩;simp only [↓wR,zT,simprocAttr,hc,jo,hcs];refine ⟨by apply hq;kernel_rfl,?_⟩;rw [de];refine ⟨fun ⟨h2,e2⟩=>?_,fun ⟨h2,e2⟩=>?_⟩
  ·have hv:dq s=s:=by unfold dq;rw [hx,zq e2];rfl
   rw [hv];simp only [↓wR,zT,simprocAttr,h2,vp,hs]
   try rfl
  ·have e3:c8 s.type c=0:=zO;rw [zp e3,Bool.true_and] at hx
   repeat (first|simp only [↓wR,zT,simprocAttr,h2]|simp (disch:=omega) only [zW])
   exact ⟨i+1,⟨hlt,hx⟩,zO,zF⟩
 rw [gz (zq h),List.all_nil] at hx;have hv:dq s=k6 s.owner s.type s.cls s.b9 (ec (fo s.type) s.data):=by unfold dq;rw [if_pos hx]
 have hg:∀ d ∈ s.data,vq s.type d:=fun d mK=>⟨hd.mem d mK,of_decide_eq_true (zz9.1 hx d mK)⟩
 rw [hv];clear hx hv;simp only [↓wR,zT,simprocAttr,h];refine ⟨zK,.inl ?_⟩;simp only [↓wR,zT,simprocAttr,rn,dQ];refine ⟨by apply hq;kernel_rfl,?_⟩;refine i9 [1,2,5,4] (fun (i:Nat)=>[.ptr 0 0,.ptr 1 0,zi i,.ptr 2 0]) (fun i=>[(zY s),some (.row [.sc (.slice none 0 0),.sc (.int .u16 0),.sc (.int .u16 0),.sc (.int .u32 0),.sc (.slice none 0 0)] 0 2 63),some (.row [au.val true s.owner,.sc (.int .u16 s.type.toNat),.sc (.int .u16 s.cls.toNat),.sc (.int .u32 s.b9.toNat),.sl 3 0 (ec (fo s.type) (s.data.take i)).length 4] 0 2 63),some (.row (cellsOf ai true ((ec (fo s.type) (s.data.take i)))) 0 0 116)]) (fun i=>i<=s.data.length) (fun i=>s.data.length - i) 0 (zzb _) zX ?_;clear h hi;intro i hi;obtain ⟨x,hx⟩:∃ x,x=ec (fo s.type) (s.data.take i):=⟨_,rfl⟩;rw [<- hx];have aV:x.length=i:=by rw [hx,fl,zzl];omega
 have qZ:∀ d ∈ x,vq s.type d:=fun d mK=>hg d (zzr (lx.1 (hx ▸ mK)))
 have rX:ke (fo s.type) x:=by rw [hx];exact om (sr s.type) _ (fun y hy=>hg y (zzr hy))
 simp only [↓wR,zT,simprocAttr];rw [az];refine ⟨fun h=>?_,fun h=>?_⟩
 ·obtain ⟨c,hc,aH,hlt⟩:=fi (zp h);have uD:=hg c (zm hc);have hcs:=uD.1;have hce:=uD.2;have cP:ec (fo s.type) (s.data.take (i+1))=l7 (fo s.type) c x:=by
   obtain ⟨hk,rfl⟩:=zg.1 hc;rw [zz5 hk,wb,<- hx]
  simp only [↓wR,zT,simprocAttr,h];refine da [1,2,4,5,6] (fun (k:Nat)=>[.ptr 0 0,.ptr 1 0,.ptr 2 0,zi i,zi k]) (fun _=>[(zY s),some (.row [.sc (.slice none 0 0),.sc (.int .u16 0),.sc (.int .u16 0),.sc (.int .u32 0),.sc (.slice none 0 0)] 0 2 63),some (.row [au.val true s.owner,.sc (.int .u16 s.type.toNat),.sc (.int .u16 s.cls.toNat),.sc (.int .u32 s.b9.toNat),.sl 3 0 x.length 4] 0 2 63),some (.row (cellsOf ai true ((x))) 0 0 116)]) (fun k=>k<=x.length/\∀ y,x[k]? = some y->fo s.type c y=true) (fun k=>k) x.length ⟨zza _,fun y hy=>by rw [zzy (zza _)] at hy;cases hy⟩ zS zS ?_;rintro k ⟨hk,tI⟩;simp only [↓wR,zT,simprocAttr];refine ⟨zK,.inl ?_⟩;have hT:(cellsOf ai true x).take ((k - 0) * 4)=cellsOf ai true (x.take k):=by rw [Nat.sub_zero];exact Jw ai true x k
  have uM:(cellsOf ai true (x.take k)).length=k * 4:=by rw [jq,zzl,Nat.min_eq_left hk];rfl
  have hD:(cellsOf ai true x).drop (k * 4)=cellsOf ai true (x.drop k):=Eg ai true x k;have hDl:(cellsOf ai true (x.drop k)).length=(x.length - k) * 4:=by rw [jq,zzt];rfl
  have uS:(cellsOf ai true (x.drop k)).take ((x.length - k) * 4)=cellsOf ai true (x.drop k):=by rw [<- hDl];exact zz7
  have hb4:(k - 0) * 4<=x.length * 4:=zO;have aT:=fun h=>aFu (x:=c) (k:=k) uD qZ rX hk tI h
  rw [az];refine ⟨fun h2=>?_,fun h2=>?_⟩
  ·obtain ⟨y,hy⟩:∃ y,x[k - 1]? = some y:=⟨_,zh zO⟩;have vR:=qZ y (zm hy);have nZ:=vR.1;have yG:=vR.2;have e1:((k:Int) - 1).toNat=k - 1:=zO;have tG:=fun k st et=>my k st et hy
   repeat (first|simp only [↓wR,zT,simprocAttr,h2,hc,e1,tG,nf,hcs,nZ,hce,yG]|simp (disch:=omega) only [zW])
   rw [if_neg (by simp)];refine ⟨by apply hq;kernel_rfl,?_⟩;rw [az];refine ⟨fun h3=>?_,fun h3=>?_⟩
   ·repeat (first|simp only [↓wR,zT,simprocAttr,h3]|simp (disch:=omega) only [zW])
    exact ⟨k - 1,⟨zO,fun z hz=>by rw [hy] at hz;cases hz;unfold fo;exact zp h3⟩,zO,zF⟩
   ·have hin:=aT (fun z _ hz=>by rw [hy] at hz;cases hz;unfold fo;exact zq h3);rw [hin] at cP;clear aT;have uN:(cellsOf ai true (x.take k)).isEmpty=false:=by rw [List.isEmpty_eq_false_iff_exists_mem];exact ⟨_,zyo (n:=0) zO⟩
    have bY:k * 4 * 96<=140737488355328:=zO;have hcc:=(tx true (x.take k) c).symm;have hcl:(cellsOf ai true (x.take k++[c])).length=(k+1) * 4:=by rw [jq,za,zzl,Nat.min_eq_left hk];rfl
    have uB:(cellsOf ai true (x.take k++[c])).take ((k+1) * 4)=cellsOf ai true (x.take k++[c]):=by rw [<- hcl];exact zz7
    have hj:cellsOf ai true (x.take k++[c])++cellsOf ai true (x.drop k)=cellsOf ai true (ec (fo s.type) (s.data.take (i+1))):=by rw [cP,<- uy,zzc];rfl
    have hl3:((k+1) * 4+(x.length - k) * 4) * 96<=140737488355328:=zO;have cM:(ec (fo s.type) (s.data.take (i+1))).length=x.length+1:=by rw [cP];simp;omega
    have hs5:k+1+(x.length - k) * 4 / 4=x.length+1:=zO
    repeat (first|simp only [↓wR,zT,simprocAttr,h3,hk,hT,uM,uN,hb4,bY,hc,tf,hcs,hD,hDl,uS,hcc,hcl,uB,hj,hl3,hs5]|simp (disch:=omega) only [zW])
    exact ⟨i+1,hlt,zO,zF,by rw [cM,show k+1+(x.length - k)=x.length+1 by omega]⟩
  ·have hin:=aT (fun z hz=>by omega);rw [hin] at cP;clear aT;simp only [↓wR,zT,simprocAttr,h2];refine ⟨by apply hq;kernel_rfl,?_⟩;have hk0:k=0:=zO;subst hk0;have fJ:(cellsOf ai true x).take ((x.length - 0) * 4)=cellsOf ai true x:=by rw [Nat.sub_zero,<- show (cellsOf ai true x).length=x.length * 4 from jq ai true x];exact zz7
   have uL:(cellsOf ai true x).length=x.length * 4:=jq ai true x;have hj:AV.vl true 1 (c.names.map (au.val true))::AV.vl true 1 (c.nums.map (cy.val false))::zt c.texts::AV.vl true 1 (c.raw.map (bt.val false))::cellsOf ai true x=cellsOf ai true (ec (fo s.type) (s.data.take (i+1))):=by rw [cP,List.take_zero,List.nil_append,List.drop_zero,Ey];rfl
   have hl3:(4+x.length * 4) * 96<=140737488355328:=zO;have cM:(ec (fo s.type) (s.data.take (i+1))).length=x.length+1:=by rw [cP];simp
   have hs5 : 1+x.length * 4 / 4=x.length+1:=zO
   repeat (first|simp only [↓wR,zT,simprocAttr,hk,hc,tf,hcs,fJ,uL,hj,hl3,hs5]|simp (disch:=omega) only [zW])
   exact ⟨i+1,hlt,zO,zF,by rw [cM,Nat.add_comm 1]⟩
 ·have cA:s.data.take i=s.data:=zzp zO;rw [cA] at hx;have hdd:∀ fr h k st et,yc fr st 4 ai.kd et=true->lg ai fr h 0 x.length (.row (cellsOf ai true x) k st et)=some x:=fun fr h k st et hro=>jy ai fr h true x k st et x.length rfl (by cases fr<;>rfl) hro
  rw [<- hx];simp only [↓wR,zT,simprocAttr,h,hdd]
noncomputable def Iz (x:aw × Unit):Option AV:=if cw x.1/\x.1.data.length<=1048576 then some ((r1 aj).E true (dq x.1)) else none
theorem aos (x:aw × Unit) (r:AV) (h:Iz x=some r):bo PP 126 ((aC aj a0).E x) r:=by obtain ⟨hc,rfl⟩:=zI h;exact bf (ak.cons (aq wv) (ak.cons (aq B4) (ak.cons (aq Jt) (ak.cons (aq v8) (ak.cons (aq Hy) (ak.nil PP)))))) Tryz.func126 zK zK zK zL (r1 aj) true (dq x.1) (axe x.1 hc.1 hc.2)
noncomputable abbrev aIb:zE:=(126,true,dg (aC aj a0) Iz)
theorem aw5 (a b:aw) (ha:cw a) (hb:cw b):wl PP [ajd] 0 (Tryz.f141.body.getD .skip) (di PP Tryz.f141.results.toList (fun r st=>(r1 bq).get true st.h r=some (decide (Di a b<0)))) (cj 0 [aj.val false a,aj.val false b]) (ay []):=by
 have nD:=ha.owner;have nC:=hb.owner;unfold Di C9 C9 C9;unfold Tryz.f141;simp only [ji];simp only [↓wR,zT,simprocAttr,Dp,nD,nC];rw [de];refine ⟨fun ⟨h1,e1⟩=>?_,fun ⟨h1,e1⟩=>?_⟩
 ·rw [if_pos e1];simp only [↓wR,zT,simprocAttr,h1]
 rw [if_neg zO];simp only [↓wR,zT,simprocAttr,h1]
 congr 1
 rw [decide_eq_decide];unfold xy
 repeat' split
 all_goals omega
noncomputable def I8 (x:aw × aw × Unit):Option AV:=if cw x.1/\cw x.2.1 then some ((r1 bq).E true (decide (Di x.1 x.2.1<0))) else none
theorem ape (x:aw × aw × Unit) (r:AV) (h:I8 x=some r):bo PP 141 ((aC aj (aC aj a0)).E x) r:=by obtain ⟨hc,rfl⟩:=zI h;exact bf (ak.cons (aq Pt) (ak.nil PP)) Tryz.func141 zK zK zK zL (r1 bq) true (decide (Di x.1 x.2.1<0)) (aw5 x.1 x.2.1 hc.1 hc.2)
noncomputable abbrev aI1:zE:=(141,true,dg (aC aj (aC aj a0)) I8)
theorem aAj (z:cf) (n:Name) (hz:dj z) (hn:bj n):wl PP [sd,acn] 0 (Tryz.f87.body.getD .skip) (di PP Tryz.f87.results.toList (fun r st=>(r1 (bw aj)).get true st.h r=some (atV z n))) (cj 0 [c7.val false z,au.val false n]) (ay []):=by
 have hlen:=hz.len;unfold Tryz.f87;simp only [nk,cr];simp only [↓wR,zT,simprocAttr];refine i9 [1,2,6,5] (fun (x:Nat × List aw)=>[zn n,.ptr 0 0,zi x.1,.sl 1 0 x.2.length 5]) (fun x=>[(zZ z),some (.row (cellsOf aj true (x.2)) 0 0 63)]) (fun x=>x.1<=z.ar.length/\x.2++(z.ar.drop x.1).filter (fun s=>gh s.owner n)=atV z n/\x.2.length<=x.1) (fun x=>z.ar.length - x.1) (0,[]) ⟨zzb _,rfl,zza _⟩ zX ?_;rintro ⟨i,x⟩ ⟨hi,hx,aV⟩;simp only at hi hx aV;simp only [↓wR,zT,simprocAttr];rw [az];refine ⟨fun h=>?_,fun h=>?_⟩
 ·obtain ⟨c,hc,aH,hlt⟩:=fi (zp h);have hcs:=hz.ar.mem c (zm hc);rw [aH,List.filter_cons] at hx;have aD:(x.length * 5+5) * 56<=140737488355328:=zO;simp only [↓wR,zT,simprocAttr,h,hc,Bf,hcs.owner,hn];rw [dv];refine ⟨fun h2=>?_,fun h2=>?_⟩
  ·rw [if_pos h2] at hx
   repeat (first|simp only [↓wR,zT,simprocAttr,h2,hc,vp,hcs,aD]|simp (disch:=omega) only [zW])
   refine ⟨(i+1,x++[c]),⟨hlt,by simpa using hx,by simp;omega⟩,by simp;omega,zF,?_⟩;rw [Bd]
  ·rw [if_neg (by rw [h2];decide)] at hx
   repeat (first|simp only [↓wR,zT,simprocAttr,h2]|simp (disch:=omega) only [zW])
   exact ⟨(i+1,x),⟨hlt,hx,by show x.length<=i+1;omega⟩,by simp;omega,zF,rfl⟩
 ·rw [gz (zq h),List.filter_nil,zzn] at hx;have hd:∀ fr h k st et,yc fr st 5 aj.kd et=true->lg aj fr h 0 x.length (.row (cellsOf aj true x) k st et)=some x:=fun fr h k st et hro=>jy aj fr h true x k st et x.length rfl (by cases fr<;>rfl) hro
  rw [<- hx];simp only [↓wR,zT,simprocAttr,h,hd]
noncomputable def Sc (x:cf × Name × Unit):Option AV:=if dj x.1/\bj x.2.1 then some ((r1 (bw aj)).E true (atV x.1 x.2.1)) else none
theorem au5 (x:cf × Name × Unit) (r:AV) (h:Sc x=some r):bo PP 87 ((aC c7 (aC au a0)).E x) r:=by obtain ⟨hc,rfl⟩:=zI h;exact bf (ak.cons (aq yk) (ak.cons (aq Jt) (ak.nil PP))) Tryz.func87 zK zK zK zL (r1 (bw aj)) true (atV x.1 x.2.1) (aAj x.1 x.2.1 hc.1 hc.2)
noncomputable abbrev aJ2:zE:=(87,true,dg (aC c7 (aC au a0)) Sc)
def Co (z:cf) (s:aw):Bool:=decide ((s.type.toNat:Int)=2) && (jm s.owner z.origin && !gh s.owner z.origin)
def Ee (z:cf):List Name:=(z.ar.filter (Co z)).map (·.owner)
theorem aE5 {z:cf} {l:List aw} {i:Nat} {c:aw} (h:l.drop i=c::l.drop (i+1)):((l.drop i).filter (Co z)).map (·.owner)=(if Co z c=true then [c.owner] else [])++((l.drop (i+1)).filter (Co z)).map (·.owner):=by rw [h,List.filter_cons];split<;>rfl
theorem aCz (z:cf) (hz:dj z):wl PP [sh,sd,Fe] 0 (Tryz.f136.body.getD .skip) (di PP Tryz.f136.results.toList (fun r st=>(r1 (bw au)).get true st.h r=some (Ee z))) (cj 0 [c7.val false z]) (ay []):=by
 have hlen:=hz.len;have qY:=hz.origin;unfold Tryz.f136;simp only [nk];simp only [↓wR,zT,simprocAttr];refine i9 [1,4,3] (fun (x:Nat × List Name)=>[.ptr 0 0,zi x.1,.sl 1 0 x.2.length 1]) (fun x=>[(zZ z),some (.row (x.2.map (au.val true)) 0 0 23)]) (fun x=>x.1<=z.ar.length/\x.2++((z.ar.drop x.1).filter (Co z)).map (·.owner)=Ee z/\x.2.length<=x.1) (fun x=>z.ar.length - x.1) (0,[]) ⟨zzb _,rfl,zza _⟩ zX ?_;rintro ⟨i,x⟩ ⟨hi,hx,aV⟩;simp only at hi hx aV;simp only [↓wR,zT,simprocAttr];rw [az];refine ⟨fun h=>?_,fun h=>?_⟩
 ·obtain ⟨c,hc,aH,hlt⟩:=fi (zp h);have hcs:=hz.ar.mem c (zm hc);have dQ:=sv hcs.owner;rw [aE5 aH] at hx;have aD:(x.length+1) * 24<=140737488355328:=zO;have iN:(x.length+1) * 16<=140737488355328:=zO;simp only [↓wR,zT,simprocAttr,h,hc];rw [cp];refine ⟨fun ⟨h1,e1⟩=>?_,fun ⟨h1,e1⟩=>?_⟩
  ·simp only [↓wR,zT,simprocAttr,h1,Fk,hcs.owner,qY];rw [dv];refine ⟨fun h2=>?_,fun h2=>?_⟩
   ·simp only [↓wR,zT,simprocAttr,h2,Bf,hcs.owner,qY];rw [dv];refine ⟨fun h3=>?_,fun h3=>?_⟩
    ·have jZ:gh c.owner z.origin=false:=by simpa using h3
     have hp:Co z c=true:=by simp [Co,e1,h2,jZ]
     rw [if_pos hp] at hx
     repeat (first|simp only [↓wR,zT,simprocAttr,h3,rn,dQ,aD,iN]|simp (disch:=omega) only [zW])
     refine ⟨(i+1,x++[c.owner]),⟨hlt,by simpa using hx,by simp;omega⟩,by simp;omega,zF,zF⟩
    ·have jZ:gh c.owner z.origin=true:=by simpa using h3
     have hp:Co z c=false:=by simp [Co,jZ]
     rw [hp,if_neg (by decide),List.nil_append] at hx
     repeat (first|simp only [↓wR,zT,simprocAttr,h3]|simp (disch:=omega) only [zW])
     exact ⟨(i+1,x),⟨hlt,hx,by show x.length<=i+1;omega⟩,by simp;omega,zF,rfl⟩
   ·have hp:Co z c=false:=by simp [Co,h2]
    rw [hp,if_neg (by decide),List.nil_append] at hx
    repeat (first|simp only [↓wR,zT,simprocAttr,h2]|simp (disch:=omega) only [zW])
    exact ⟨(i+1,x),⟨hlt,hx,by show x.length<=i+1;omega⟩,by simp;omega,zF,rfl⟩
  ·have hp:Co z c=false:=by simp [Co,e1]
   rw [hp,if_neg (by decide),List.nil_append] at hx
   repeat (first|simp only [↓wR,zT,simprocAttr,h1]|simp (disch:=omega) only [zW])
   exact ⟨(i+1,x),⟨hlt,hx,by show x.length<=i+1;omega⟩,by simp;omega,zF,rfl⟩
 ·rw [gz (zq h)] at hx;have hx':x=Ee z:=by simpa using hx
  rw [<- hx'];simp only [↓wR,zT,simprocAttr,h]
noncomputable def Rn (x:cf × Unit):Option AV:=if dj x.1 then some ((r1 (bw au)).E true (Ee x.1)) else none
theorem au9 (x:cf × Unit) (r:AV) (h:Rn x=some r):bo PP 136 ((aC c7 a0).E x) r:=by obtain ⟨hc,rfl⟩:=zI h;exact bf (ak.cons (aq Md) (ak.cons (aq yk) (ak.cons (aq v8) (ak.nil PP)))) Tryz.func136 zK zK zK zL (r1 (bw au)) true (Ee x.1) (aCz x.1 hc)
noncomputable abbrev aJ1:zE:=(136,true,dg (aC c7 a0) Rn)
def Gb (n:Name) (dW:Option Name) (m:Name):Option Name:=if (jm n m && Fi m dW)=true then some m else dW
theorem ayw (n top:Name):Fp n top=(jm n top && !gh n top):=by
 have e1:(fv top).length=top.length:=by simp [fv]
 have e2:(fv n).length=n.length:=by simp [fv]
 unfold Fp jm gh;by_cases hs:fv top <:+ fv n
 ·have hl:=hs.length_le;rw [zp hs,Bool.and_true,Bool.true_and,zyc];simp only [decide_eq_true_eq,zye,decide_eq_false_iff_not];refine ⟨fun h q=>?_,fun h=>?_⟩
  ·have:=congrArg List.length q;omega
  ·rcases zyh top.length n.length with q|q
   ·exact q
   ·exact absurd (hs.eq_of_length zO).symm h
 ·rw [zq hs,Bool.and_false,Bool.false_and]
theorem aBy (z:cf) (n:Name) (dW:Option Name) (s:aw):nq z n dW s=if Co z s=true then Gb n dW s.owner else dW:=by unfold nq Co Gb;rw [ayw];cases decide ((s.type.toNat:Int)=2)<;>cases jm s.owner z.origin<;>cases gh s.owner z.origin<;>simp
theorem aBb (z:cf) (n:Name):uu z n=(Ee z).foldl (Gb n) none:=by
 unfold uu Ee;generalize (none:Option Name)=b
 induction z.ar generalizing b with
 |nil=>rfl
 |cons s l ih=>
  rw [List.foldl_cons,aBy,List.filter_cons]
  split
  ·rw [List.map_cons,List.foldl_cons];exact ih _
  ·exact ih _
def Ul:Option Nat->Int
 |none=>-1
 |some k=>k
theorem aut {z:cf} (hz:dj z):(Ee z).length<=16777216/\∀ m ∈ Ee z,bj m:=by unfold Ee;refine ⟨by rw [zzo];exact zzu (List.length_filter_le _ _) hz.len,fun m hm=>?_⟩;obtain ⟨s,hs,rfl⟩:=zyl.1 hm;exact (hz.ar.mem s (List.mem_filter.1 hs).1).owner
theorem aye {α β:Type} (f : β -> α -> β) (b : β) {l:List α} {i:Nat} {c : α} (h:l[i]? = some c):(l.take (i+1)).foldl f b=f ((l.take i).foldl f b) c:=by obtain ⟨hi,rfl⟩:=zg.1 h;rw [zz5 hi,List.foldl_append];rfl
theorem aFl (z:cf) (n:Name) (hz:dj z) (hn:bj n):wl PP [aJ1,sh] 0 (Tryz.f86.body.getD .skip) (di PP Tryz.f86.results.toList (fun r st=>(r2 au bq).get true st.h r=some ((uu z n).getD [],(uu z n).isSome))) (cj 0 [c7.val false z,au.val false n]) (ay []):=by
 obtain ⟨jJ,hL2⟩:=aut hz;rw [aBb];obtain ⟨L,hL⟩:∃ L,L=Ee z:=⟨_,rfl⟩;rw [<- hL] at jJ hL2 ⊢;unfold Tryz.f86;simp only [nk,cr];simp only [↓wR,zT,simprocAttr,Rn,hz,<- hL];refine da [1,6,7,8] (fun (x:Nat × Option Nat)=>[zn n,.vl true 1 (L.map (au.val true)),zi (Ul x.2),zi x.1]) (fun _=>[]) (fun x=>x.1<=L.length/\(L.take x.1).foldl (Gb n) none=x.2.bind (fun k=>L[k]?)/\∀ k,x.2=some k->k<L.length) (fun x=>L.length - x.1) (0,none) ⟨zzb _,rfl,fun k h=>by cases h⟩ zS zS ?_;rintro ⟨i,b⟩ ⟨hi,hx,hb⟩;simp only at hi hx hb;simp only [↓wR,zT,simprocAttr];rw [az];refine ⟨fun h=>?_,fun h=>?_⟩
 ·obtain ⟨c,hc,aH,hlt⟩:=fi (zp h);have hcs:=hL2 c (zm hc);have hf:=aye (Gb n) none hc;rw [hx] at hf;simp only [↓wR,zT,simprocAttr,h];refine ⟨zK,.inl ?_⟩;simp only [↓wR,zT,simprocAttr,hc,Fk,hn,hcs,cr];rw [dv];refine ⟨fun h2=>?_,fun h2=>?_⟩
  ·cases b with
   |none=>
    have hv:(L.take (i+1)).foldl (Gb n) none=(some i).bind (fun k=>L[k]?):=by rw [hf];show Gb n none c=L[i]?;unfold Gb Fi;rw [h2,hc];rfl
    repeat (first|simp only [↓wR,zT,simprocAttr,h2,Ul]|simp (disch:=omega) only [zW])
    exact ⟨zK,(i+1,some i),⟨hlt,hv,fun k e=>by cases e;exact hlt⟩,by simp;omega,zF⟩
   |some k=>
    have hk:=hb k rfl;obtain ⟨m,hm⟩:∃ m,L[k]? = some m:=⟨_,zh hk⟩;have hf':(L.take (i+1)).foldl (Gb n) none=if c.length<m.length then some c else some m:=by rw [hf];show Gb n (L[k]?) c=_;rw [hm];unfold Gb Fi;simp only [h2,Bool.true_and,decide_eq_true_eq]
    have h0:¬ (k:Int)<0:=zO;rw [show Ul (some k)=(k:Int) from rfl]
    repeat (first|simp only [↓wR,zT,simprocAttr,h2,hc,hm,cr,h0]|simp (disch:=omega) only [zW])
    refine ⟨zK,?_⟩;rw [az];refine ⟨fun h3=>?_,fun h3=>?_⟩
    ·rw [if_pos zO] at hf'
     repeat (first|simp only [↓wR,zT,simprocAttr,h3]|simp (disch:=omega) only [zW])
     exact ⟨(i+1,some i),⟨hlt,by rw [hf'];exact hc.symm,fun k e=>by cases e;exact hlt⟩,by simp;omega,zF⟩
    ·rw [if_neg zO] at hf'
     repeat (first|simp only [↓wR,zT,simprocAttr,h3]|simp (disch:=omega) only [zW])
     exact ⟨(i+1,some k),⟨hlt,by rw [hf'];exact hm.symm,hb⟩,by simp;omega,zF⟩
  ·have hv:(L.take (i+1)).foldl (Gb n) none=b.bind (fun k=>L[k]?):=by
    rw [hf];unfold Gb;rw [h2,Bool.false_and,if_neg (by decide)]
   repeat (first|simp only [↓wR,zT,simprocAttr,h2]|simp (disch:=omega) only [zW])
   exact ⟨zK,(i+1,b),⟨hlt,hv,hb⟩,by simp;omega,zF⟩
 ·have cA:L.take i=L:=zzp zO;rw [cA] at hx;rw [hx];simp only [↓wR,zT,simprocAttr,h];cases b with
  |none=>
   simp only [↓wR,zT,simprocAttr,Ul]
   try rfl
  |some k=>
   have hk:=hb k rfl;obtain ⟨m,hm⟩:∃ m,L[k]? = some m:=⟨_,zh hk⟩;rw [show Ul (some k)=(k:Int) from rfl];simp only [↓wR,zT,simprocAttr,hm];rw [az];refine ⟨fun h3=>?_,fun h3=>?_⟩
   ·exfalso;omega
   simp only [↓wR,zT,simprocAttr,h3,hm,cr]
   try rfl
noncomputable def abe (x:cf × Name × Unit):Option AV:=if dj x.1/\bj x.2.1 then some ((r2 au bq).E true (((uu x.1 x.2.1).getD [],(uu x.1 x.2.1).isSome))) else none
theorem azr (x:cf × Name × Unit) (r:AV) (h:abe x=some r):bo PP 86 ((aC c7 (aC au a0)).E x) r:=by obtain ⟨hc,rfl⟩:=zI h;exact bf (ak.cons (aq au9) (ak.cons (aq Md) (ak.nil PP))) Tryz.func86 zK zK zK zL (r2 au bq) true (((uu x.1 x.2.1).getD [],(uu x.1 x.2.1).isSome)) (aFl x.1 x.2.1 hc.1 hc.2)
noncomputable abbrev aLv:zE:=(86,true,dg (aC c7 (aC au a0)) abe)
def ql (z:cf) (s:aw):Bool:=decide ((s.type.toNat:Int)=5) && (decide ((s.data.length:Int)≠1) || (gh s.owner z.origin || decide ((1:Int)<(atV z s.owner).length)))
theorem axn (z:cf) (s:aw) (hz:dj z) (hs:cw s):wl PP [sd,aJ2] 0 (Tryz.f143.body.getD .skip) (di PP Tryz.f143.results.toList (fun r st=>(r1 bq).get true st.h r=some (ql z s))) (cj 0 [c7.val false z,aj.val false s]) (ay []):=by
 have gD:=hs.owner;have qY:=hz.origin;unfold ql;unfold Tryz.f143;simp only [nk,ji];simp only [↓wR,zT,simprocAttr];rw [cp];refine ⟨fun ⟨h1,e1⟩=>?_,fun ⟨h1,e1⟩=>?_⟩
 ·rw [zp e1,Bool.true_and];simp only [↓wR,zT,simprocAttr,h1];rw [de];refine ⟨fun ⟨h2,e2⟩=>?_,fun ⟨h2,e2⟩=>?_⟩
  ·rw [zp e2,Bool.true_or];simp only [↓wR,zT,simprocAttr,h2]
   try rfl
  ·rw [zq zO,Bool.false_or];simp only [↓wR,zT,simprocAttr,h2,Bf,gD,qY];rw [dv];refine ⟨fun h3=>?_,fun h3=>?_⟩
   ·rw [h3,Bool.true_or];simp only [↓wR,zT,simprocAttr,h3]
    try rfl
   ·rw [h3,Bool.false_or];simp only [↓wR,zT,simprocAttr,h3,Sc,hz,gD]
    try rfl
 ·rw [zq e1,Bool.false_and];simp only [↓wR,zT,simprocAttr,h1]
  try rfl
noncomputable def Mt (x:cf × aw × Unit):Option AV:=if dj x.1/\cw x.2.1 then some ((r1 bq).E true (ql x.1 x.2.1)) else none
theorem api (x:cf × aw × Unit) (r:AV) (h:Mt x=some r):bo PP 143 ((aC c7 (aC aj a0)).E x) r:=by obtain ⟨hc,rfl⟩:=zI h;exact bf (ak.cons (aq yk) (ak.cons (aq au5) (ak.nil PP))) Tryz.func143 zK zK zK zL (r1 bq) true (ql x.1 x.2.1) (axn x.1 x.2.1 hc.1 hc.2)
noncomputable abbrev uh:zE:=(143,true,dg (aC c7 (aC aj a0)) Mt)
theorem avq {z:cf} {n m:Name} (hz:dj z) (h:uu z n=some m):bj m:=afq (n:=n) hz z.ar none (fun _ h=>h) (fun m hm=>by cases hm) m h
theorem asj (a b:Name):gh a b=gh b a:=by unfold gh;rw [decide_eq_decide];exact eq_comm
theorem ai1 (z:cf) (s:aw) (hz:dj z) (hs:cw s):wl PP [aLv,sd] 0 (Tryz.f144.body.getD .skip) (di PP Tryz.f144.results.toList (fun r st=>(r1 bq).get true st.h r=some (!pz z s))) (cj 0 [c7.val false z,aj.val false s]) (ay []):=by
 have gD:=hs.owner;unfold pz;unfold Tryz.f144;simp only [nk,ji];simp only [↓wR,zT,simprocAttr,abe,hz,gD];cases hc:uu z s.owner with
 |none=>
  simp only [↓wR,zT,simprocAttr,Option.isSome_none,Option.getD_none]
  try rfl
 |some c=>
  have hcs:=avq hz hc;simp only [↓wR,zT,simprocAttr,Option.isSome_some,Option.getD_some];rw [cp];refine ⟨fun ⟨h1,e1⟩=>?_,fun ⟨h1,e1⟩=>?_⟩
  ·rw [if_pos e1];simp only [↓wR,zT,simprocAttr,h1]
   try rfl
  rw [if_neg e1];simp only [↓wR,zT,simprocAttr,h1];rw [cp];refine ⟨fun ⟨h2,e2⟩=>?_,fun ⟨h2,e2⟩=>?_⟩
  ·rw [if_pos e2];simp only [↓wR,zT,simprocAttr,h2]
   try rfl
  rw [if_neg e2];simp only [↓wR,zT,simprocAttr,h2];rw [de];refine ⟨fun ⟨h3,e3⟩=>?_,fun ⟨h3,e3⟩=>?_⟩
  ·rw [if_neg e3];simp only [↓wR,zT,simprocAttr,h3]
   try rfl
  rw [if_pos zO,asj];simp only [↓wR,zT,simprocAttr,h3,cr,Bf,gD,hcs]
  try rfl
noncomputable def E5 (x:cf × aw × Unit):Option AV:=if dj x.1/\cw x.2.1 then some ((r1 bq).E true ((!pz x.1 x.2.1))) else none
theorem ac1 (x:cf × aw × Unit) (r:AV) (h:E5 x=some r):bo PP 144 ((aC c7 (aC aj a0)).E x) r:=by obtain ⟨hc,rfl⟩:=zI h;exact bf (ak.cons (aq azr) (ak.cons (aq yk) (ak.nil PP))) Tryz.func144 zK zK zK zL (r1 bq) true ((!pz x.1 x.2.1)) (ai1 x.1 x.2.1 hc.1 hc.2)
noncomputable abbrev nr:zE:=(144,true,dg (aC c7 (aC aj a0)) E5)
def allI (p:Nat->aw->Bool):Nat->List aw->Bool
 |_,[]=>true
 |i,s::r=>p i s && allI p (i+1) r
theorem aGy {p:Nat->aw->Bool} {l:List aw} {i:Nat} {c:aw} (h:l.drop i=c::l.drop (i+1)) (k:Nat):allI p k (l.drop i)=(p k c && allI p (k+1) (l.drop (i+1))):=by rw [h];rfl
noncomputable def okZ (z:cf):Bool:=z.ar.all fun s=>s.data.all fun d=>decide (c8 s.type d=0)
theorem aob (z:cf) (hz:dj z) (aB:okZ z=true):wl PP [aI1,Kf] 0 (Tryz.f105.body.getD .skip) (di PP Tryz.f105.results.toList (fun r st=>(r1 bq).get true st.h r=some (allI (jv z) 0 z.ar))) (cj 0 [c7.val false z]) (ay []):=by
 have hlen:=hz.len;unfold Tryz.f105;simp only [nk];simp only [↓wR,zT,simprocAttr];refine da [1,3] (fun (i:Nat)=>[.ptr 0 0,zi i]) (fun _=>[(zZ z)]) (fun i=>i<=z.ar.length/\allI (jv z) 0 z.ar=allI (jv z) i (z.ar.drop i)) (fun i=>z.ar.length - i) 0 ⟨zzb _,rfl⟩ zS zS ?_;rintro i ⟨hi,hx⟩;simp only [↓wR,zT,simprocAttr];rw [az];refine ⟨fun h=>?_,fun h=>?_⟩
 ·obtain ⟨c,hc,aH,hlt⟩:=fi (zp h);have hcs:=hz.ar.mem c (zm hc);have hce:=zz9.1 (zz9.1 aB c (zm hc));have AQ:=hcs.data.len;rw [aGy aH] at hx;simp only [↓wR,zT,simprocAttr,h,hc];refine ⟨zK,.inl ?_⟩;rw [az];refine ⟨fun h1=>?_,fun h1=>?_⟩
  ·cases i with
   |zero=>omega
   |succ j=>
   obtain ⟨a,ha⟩:∃ a,z.ar[j]? = some a:=⟨_,zh zO⟩;have has:=hz.set a (zm ha)
   repeat (first|simp only [↓wR,zT,simprocAttr,h1,ha,hc,Int.natCast_add,Int.add_sub_cancel,I8,has,hcs]|simp (disch:=omega) only [zW])
   refine ⟨zK,?_⟩;rw [dv];refine ⟨fun h2=>?_,fun h2=>?_⟩
   ·simp only [zye,decide_eq_false_iff_not] at h2;have hv:jv z (j+1) c=false:=by simp only [jv,ha];simp;omega
    rw [hv,Bool.false_and] at hx;rw [hx];simp only [↓wR,zT,simprocAttr,h2]
    try rfl
   ·simp only [zyj,decide_eq_true_eq] at h2;have hv:jv z (j+1) c=tj c.type c.data:=by simp only [jv,ha];simp [h2]
    rw [hv] at hx;simp only [↓wR,zT,simprocAttr,h2,decide_true,Bool.not_true];refine da [1,3,4,5] (fun (k:Nat)=>[.ptr 0 0,zi ((j:Int)+1),.ptr 1 0,zi ((k:Int)+1)]) (fun _=>[(zZ z),(zY c)]) (fun k=>(k=0\/k+1<=c.data.length)/\tj c.type c.data=tj c.type (c.data.drop k)) (fun k=>c.data.length - k) 0 ⟨.inl rfl,rfl⟩ zS zS ?_;rintro k ⟨hk,hy⟩;simp only [↓wR,zT,simprocAttr];rw [az];refine ⟨fun h5=>?_,fun h5=>?_⟩
    ·obtain ⟨a,ha⟩:∃ a,c.data[k]? = some a:=⟨_,zh zO⟩;obtain ⟨b,hb⟩:∃ b,c.data[k+1]? = some b:=⟨_,zh zO⟩;have has:=hcs.data.mem a (zm ha);have bI:=hcs.data.mem b (zm hb);have uJ:=of_decide_eq_true (hce a (zm ha));have jH:=of_decide_eq_true (hce b (zm hb));rw [Kn _ ha hb] at hy;simp only [↓wR,zT,simprocAttr,h5];refine ⟨zK,.inl ?_⟩
     repeat (first|simp only [↓wR,zT,simprocAttr,ha,hb,Int.add_sub_cancel,xa,C2,nf,has,bI,uJ,jH]|simp (disch:=omega) only [zW])
     rw [if_neg (by simp)];refine ⟨zK,?_⟩;rw [az];refine ⟨fun h6=>?_,fun h6=>?_⟩
     ·rw [if_pos h6] at hy;rw [hy,Bool.false_and] at hx;rw [hx];simp only [↓wR,zT,simprocAttr,h6]
      try rfl
     ·rw [if_neg h6] at hy
      repeat (first|simp only [↓wR,zT,simprocAttr,h6]|simp (disch:=omega) only [zW])
      exact ⟨k+1,⟨.inr zO,hy⟩,zO,zF⟩
    ·rw [Ij _ zO] at hy;rw [hy,Bool.true_and] at hx;simp only [↓wR,zT,simprocAttr,h5];refine ⟨j+1+1,⟨hlt,hx⟩,zO,zF⟩
  ·have fX:i=0:=zO;have hv:jv z i c=tj c.type c.data:=by rw [fX];simp [jv]
   rw [hv] at hx;simp only [↓wR,zT,simprocAttr,h1];refine ⟨zK,?_⟩;refine da [1,3,4,5] (fun (k:Nat)=>[.ptr 0 0,zi i,.ptr 1 0,zi ((k:Int)+1)]) (fun _=>[(zZ z),(zY c)]) (fun k=>(k=0\/k+1<=c.data.length)/\tj c.type c.data=tj c.type (c.data.drop k)) (fun k=>c.data.length - k) 0 ⟨.inl rfl,rfl⟩ zS zS ?_;rintro k ⟨hk,hy⟩;simp only [↓wR,zT,simprocAttr];rw [az];refine ⟨fun h5=>?_,fun h5=>?_⟩
   ·obtain ⟨a,ha⟩:∃ a,c.data[k]? = some a:=⟨_,zh zO⟩;obtain ⟨b,hb⟩:∃ b,c.data[k+1]? = some b:=⟨_,zh zO⟩;have has:=hcs.data.mem a (zm ha);have bI:=hcs.data.mem b (zm hb);have uJ:=of_decide_eq_true (hce a (zm ha));have jH:=of_decide_eq_true (hce b (zm hb));rw [Kn _ ha hb] at hy;simp only [↓wR,zT,simprocAttr,h5];refine ⟨zK,.inl ?_⟩
    repeat (first|simp only [↓wR,zT,simprocAttr,ha,hb,Int.add_sub_cancel,xa,C2,nf,has,bI,uJ,jH]|simp (disch:=omega) only [zW])
    rw [if_neg (by simp)];refine ⟨zK,?_⟩;rw [az];refine ⟨fun h6=>?_,fun h6=>?_⟩
    ·rw [if_pos h6] at hy;rw [hy,Bool.false_and] at hx;rw [hx];simp only [↓wR,zT,simprocAttr,h6]
     try rfl
    ·rw [if_neg h6] at hy
     repeat (first|simp only [↓wR,zT,simprocAttr,h6]|simp (disch:=omega) only [zW])
     exact ⟨k+1,⟨.inr zO,hy⟩,zO,zF⟩
   ·rw [Ij _ zO] at hy;rw [hy,Bool.true_and] at hx;simp only [↓wR,zT,simprocAttr,h5];refine ⟨i+1,⟨hlt,hx⟩,zO,zF⟩
 ·rw [gz (zq h)] at hx;rw [hx];simp only [↓wR,zT,simprocAttr,h]
  try rfl
noncomputable def G6 (x:cf × Unit):Option AV:=if dj x.1/\okZ x.1=true then some ((r1 bq).E true (allI (jv x.1) 0 x.1.ar)) else none
theorem ag4 (x:cf × Unit) (r:AV) (h:G6 x=some r):bo PP 105 ((aC c7 a0).E x) r:=by obtain ⟨hc,rfl⟩:=zI h;exact bf (ak.cons (aq ape) (ak.cons (aq B4) (ak.nil PP))) Tryz.func105 zK zK zK zL (r1 bq) true (allI (jv x.1) 0 x.1.ar) (aob x.1 hc.1 hc.2)
noncomputable abbrev aA8:zE:=(105,true,dg (aC c7 a0) G6)
noncomputable def sk:Code:=match Tryz.f106.body.getD .skip with
 |.seq _ (.seq _ (.seq _ (.seq _ (.seq (.seq _ (.block _ (.loop b))) _))))=>b
 |_=>.skip
noncomputable def po:Code:=match sk with
 |.seq _ (.seq (.block _ b) _)=>b
 |_=>.skip
noncomputable def axz:Code:=qd 4 (Tryz.f106.body.getD .skip)
noncomputable def acv:Code:=match Tryz.f106.body.getD .skip with
 |.seq _ (.seq _ (.seq _ (.seq _ (.seq (.seq a _) _))))=>a
 |_=>.skip
theorem ayr (z:cf):wl PP [sd,sh,uh,nr] 0 axz (Ap (fun L st=>wl PP [sd,sh,uh,nr] 0 acv (yt [1,3,4,5,6] [.ptr 0 0,.sl 1 0 7 1,zi 0,.sc (.bool false),zi 0] [(zZ z),some (.row [.sc (.bool false),.sc (.bool false),.sc (.bool false),.sc (.bool false),.sc (.bool false),.sc (.bool false),.sc (.bool false)] 0 0 4)]) L st) Zg) (cj 0 [c7.val false z]) (ay []):=by unfold axz acv Tryz.f106;simp only [nk];simp only [↓wR,zT,simprocAttr,lh,i7,m4,ib]
noncomputable def ac0:Code:=qd 1 (ia 2 po)
noncomputable def acw:Code:=qd 1 (ia 3 po)
noncomputable def adb:Code:=qd 1 (ia 4 po)
noncomputable def ab1:Code:=qd 1 (ia 5 po)
noncomputable def abk:Code:=qd 1 (ia 6 po)
noncomputable def ab6:Code:=qd 1 (ia 7 po)
noncomputable def ac7:Code:=ia 8 po
noncomputable def ar8:Code:=qd 2 po
theorem aCp (z:cf) (s:aw) (i m:Nat) (p a b c d e f:Bool) (hz:dj z) (hs:cw s) (hi:z.ar[i]? = some s):wl PP [sd,sh,uh,nr] 0 ar8 (yt [1,3,4,5,6,7,8] [.ptr 0 0,.sl 1 0 7 1,zi m,.sc (.bool p),zi i,.ptr 2 0,.sc (.bool (gh s.owner z.origin))] [(zZ z),some (.row [.sc (.bool a),.sc (.bool b),.sc (.bool c),.sc (.bool false),.sc (.bool d),.sc (.bool e),.sc (.bool f)] 0 0 4),(zY s)]) (fm [1,3,4,5,6] [.ptr 0 0,.sl 1 0 7 1,zi m,.sc (.bool p),zi i]) (ay [(zZ z),some (.row [.sc (.bool a),.sc (.bool b),.sc (.bool c),.sc (.bool false),.sc (.bool d),.sc (.bool e),.sc (.bool f)] 0 0 4)]):=by have hlen:=hz.len;have hlt:=(zg.1 hi).1;unfold ar8 po sk Tryz.f106;simp only [↓wR,zT,simprocAttr,lh,i7,ib,hi,Bf,hs.owner,hz.origin]
theorem aCa (z:cf) (s:aw) (i m:Nat) (p t a b c d e f:Bool) (a':Bool) (hz:dj z) (hs:cw s) (hq:a'=(a || !ng s)):wl PP [sd,sh,uh,nr] 0 ac0 (yt [1,3,4,5,6,7,8] [.ptr 0 0,.sl 1 0 7 1,zi m,.sc (.bool p),zi i,.ptr 2 0,.sc (.bool t)] [(zZ z),some (.row [.sc (.bool a'),.sc (.bool b),.sc (.bool c),.sc (.bool false),.sc (.bool d),.sc (.bool e),.sc (.bool f)] 0 0 4),(zY s)]) (fm [1,3,4,5,6,7,8] [.ptr 0 0,.sl 1 0 7 1,zi m,.sc (.bool p),zi i,.ptr 2 0,.sc (.bool t)]) (ay [(zZ z),some (.row [.sc (.bool a),.sc (.bool b),.sc (.bool c),.sc (.bool false),.sc (.bool d),.sc (.bool e),.sc (.bool f)] 0 0 4),(zY s)]):=by
 unfold ac0 po sk Tryz.f106;simp only [↓wR,zT,simprocAttr,jc,jd,i7,ib];rw [de];refine ⟨fun ⟨h1,e1⟩=>?_,fun ⟨h1,e1⟩=>?_⟩
 ·have h0:a'=true:=by rw [hq];simp [ng,e1]
  subst h0;simp only [↓wR,zT,simprocAttr,h1,ib]
 simp only [↓wR,zT,simprocAttr,h1];rw [cp];refine ⟨fun ⟨h2,e2⟩=>?_,fun ⟨h2,e2⟩=>?_⟩
 ·have h0:a'=true:=by rw [hq];simp [ng,e1,e2]
  subst h0;simp only [↓wR,zT,simprocAttr,h2,ib]
 simp only [↓wR,zT,simprocAttr,h2];rw [cp];refine ⟨fun ⟨h3,e3⟩=>?_,fun ⟨h3,e3⟩=>?_⟩
 ·have h0:a'=true:=by rw [hq];simp [ng,e1,e3]
  subst h0;simp only [↓wR,zT,simprocAttr,h3,ib]
 simp only [↓wR,zT,simprocAttr,h3];rw [cp];refine ⟨fun ⟨h4,e4⟩=>?_,fun ⟨h4,e4⟩=>?_⟩
 ·have h0:a'=true:=by rw [hq];simp [ng,e1,e4]
  subst h0;simp only [↓wR,zT,simprocAttr,h4,ib]
 ·have h0:a'=a:=by rw [hq];unfold ng;rw [if_neg zO,if_neg e2,if_neg e3,zq e4];simp
  subst h0;simp only [↓wR,zT,simprocAttr,h4,ib]
theorem aA2 (z:cf) (s:aw) (i m:Nat) (p t a b c d e f:Bool) (b':Bool) (hz:dj z) (hs:cw s) (hq:b'=(b || !jm s.owner z.origin)):wl PP [sd,sh,uh,nr] 0 acw (yt [1,3,4,5,6,7,8] [.ptr 0 0,.sl 1 0 7 1,zi m,.sc (.bool p),zi i,.ptr 2 0,.sc (.bool t)] [(zZ z),some (.row [.sc (.bool a),.sc (.bool b'),.sc (.bool c),.sc (.bool false),.sc (.bool d),.sc (.bool e),.sc (.bool f)] 0 0 4),(zY s)]) (fm [1,3,4,5,6,7,8] [.ptr 0 0,.sl 1 0 7 1,zi m,.sc (.bool p),zi i,.ptr 2 0,.sc (.bool t)]) (ay [(zZ z),some (.row [.sc (.bool a),.sc (.bool b),.sc (.bool c),.sc (.bool false),.sc (.bool d),.sc (.bool e),.sc (.bool f)] 0 0 4),(zY s)]):=by
 unfold acw po sk Tryz.f106;simp only [↓wR,zT,simprocAttr,jc,jd,i7,ib,Fk,hs.owner,hz.origin];rw [dv];refine ⟨fun h1=>?_,fun h1=>?_⟩
 ·have h0:b'=true:=by rw [hq,h1,Bool.or_true]
  subst h0;simp only [↓wR,zT,simprocAttr,h1,ib]
 ·have h0:b'=b:=by rw [hq,h1,Bool.or_false]
  subst h0;simp only [↓wR,zT,simprocAttr,h1,ib]
theorem aCj (z:cf) (s:aw) (i m:Nat) (p t a b c d e f:Bool) (c':Bool) (m':Nat) (hz:dj z) (hs:cw s) (hm:m<=16777216) (fT:m'=m+if (s.type.toNat:Int)=6 then 1 else 0) (hq:c'=(c || (decide ((s.type.toNat:Int)=6) && (!t || decide ((s.data.length:Int)≠1))))):wl PP [sd,sh,uh,nr] 0 adb (yt [1,3,4,5,6,7,8] [.ptr 0 0,.sl 1 0 7 1,zi m',.sc (.bool p),zi i,.ptr 2 0,.sc (.bool t)] [(zZ z),some (.row [.sc (.bool a),.sc (.bool b),.sc (.bool c'),.sc (.bool false),.sc (.bool d),.sc (.bool e),.sc (.bool f)] 0 0 4),(zY s)]) (fm [1,3,4,5,6,7,8] [.ptr 0 0,.sl 1 0 7 1,zi m,.sc (.bool p),zi i,.ptr 2 0,.sc (.bool t)]) (ay [(zZ z),some (.row [.sc (.bool a),.sc (.bool b),.sc (.bool c),.sc (.bool false),.sc (.bool d),.sc (.bool e),.sc (.bool f)] 0 0 4),(zY s)]):=by
 unfold adb po sk Tryz.f106;simp only [↓wR,zT,simprocAttr,jc,jd,i7,ib];rw [cp];refine ⟨fun ⟨h1,e1⟩=>?_,fun ⟨h1,e1⟩=>?_⟩
 ·rw [if_pos e1] at fT;rw [zp e1,Bool.true_and] at hq;subst fT
  repeat (first|simp only [↓wR,zT,simprocAttr,h1]|simp (disch:=omega) only [zW])
  cases t
  ·have h0:c'=true:=by rw [hq];simp
   subst h0
   repeat (first|simp only [↓wR,zT,simprocAttr,ib]|simp (disch:=omega) only [zW])
   exact zF
  repeat (first|simp only [↓wR,zT,simprocAttr]|simp (disch:=omega) only [zW])
  rw [de];refine ⟨fun ⟨h2,e2⟩=>?_,fun ⟨h2,e2⟩=>?_⟩
  ·have h0:c'=true:=by rw [hq,zp e2];simp
   subst h0
   repeat (first|simp only [↓wR,zT,simprocAttr,h2,ib]|simp (disch:=omega) only [zW])
   exact zF
  ·have h0:c'=c:=by rw [hq,zq zO];simp
   subst h0
   repeat (first|simp only [↓wR,zT,simprocAttr,h2,ib]|simp (disch:=omega) only [zW])
   exact zF
 ·rw [if_neg e1] at fT;rw [zq e1,Bool.false_and,Bool.or_false] at hq;subst fT;subst hq;simp only [↓wR,zT,simprocAttr,h1,ib]
theorem aBt (z:cf) (s:aw) (i m:Nat) (p t a b c d e f:Bool) (p':Bool) (hz:dj z) (hs:cw s) (hq:p'=(p || (decide ((s.type.toNat:Int)=2) && t))):wl PP [sd,sh,uh,nr] 0 ab1 (yt [1,3,4,5,6,7,8] [.ptr 0 0,.sl 1 0 7 1,zi m,.sc (.bool p'),zi i,.ptr 2 0,.sc (.bool t)] [(zZ z),some (.row [.sc (.bool a),.sc (.bool b),.sc (.bool c),.sc (.bool false),.sc (.bool d),.sc (.bool e),.sc (.bool f)] 0 0 4),(zY s)]) (fm [1,3,4,5,6,7,8] [.ptr 0 0,.sl 1 0 7 1,zi m,.sc (.bool p),zi i,.ptr 2 0,.sc (.bool t)]) (ay [(zZ z),some (.row [.sc (.bool a),.sc (.bool b),.sc (.bool c),.sc (.bool false),.sc (.bool d),.sc (.bool e),.sc (.bool f)] 0 0 4),(zY s)]):=by
 unfold ab1 po sk Tryz.f106;simp only [↓wR,zT,simprocAttr,jc,jd,i7,ib];rw [cp];refine ⟨fun ⟨h1,e1⟩=>?_,fun ⟨h1,e1⟩=>?_⟩
 ·rw [zp e1,Bool.true_and] at hq;simp only [↓wR,zT,simprocAttr,h1];cases t
  ·have h0:p'=p:=by rw [hq];simp
   subst h0;simp only [↓wR,zT,simprocAttr,ib]
  ·have h0:p'=true:=by rw [hq];simp
   subst h0;simp only [↓wR,zT,simprocAttr,ib]
 ·rw [zq e1,Bool.false_and,Bool.or_false] at hq;subst hq;simp only [↓wR,zT,simprocAttr,h1,ib]
theorem aBj (z:cf) (s:aw) (i m:Nat) (p t a b c d e f:Bool) (d':Bool) (hz:dj z) (hs:cw s) (hq:d'=(d || ql z s)):wl PP [sd,sh,uh,nr] 0 abk (yt [1,3,4,5,6,7,8] [.ptr 0 0,.sl 1 0 7 1,zi m,.sc (.bool p),zi i,.ptr 2 0,.sc (.bool t)] [(zZ z),some (.row [.sc (.bool a),.sc (.bool b),.sc (.bool c),.sc (.bool false),.sc (.bool d'),.sc (.bool e),.sc (.bool f)] 0 0 4),(zY s)]) (fm [1,3,4,5,6,7,8] [.ptr 0 0,.sl 1 0 7 1,zi m,.sc (.bool p),zi i,.ptr 2 0,.sc (.bool t)]) (ay [(zZ z),some (.row [.sc (.bool a),.sc (.bool b),.sc (.bool c),.sc (.bool false),.sc (.bool d),.sc (.bool e),.sc (.bool f)] 0 0 4),(zY s)]):=by
 unfold abk po sk Tryz.f106;simp only [↓wR,zT,simprocAttr,jc,jd,i7,ib,Mt,hs,hz];rw [dv];refine ⟨fun h1=>?_,fun h1=>?_⟩
 ·have h0:d'=true:=by rw [hq,h1,Bool.or_true]
  subst h0;simp only [↓wR,zT,simprocAttr,h1,ib]
 ·have h0:d'=d:=by rw [hq,h1,Bool.or_false]
  subst h0;simp only [↓wR,zT,simprocAttr,h1,ib]
theorem aB4 (z:cf) (s:aw) (i m:Nat) (p t a b c d e f:Bool) (e':Bool) (hz:dj z) (hs:cw s) (hq:e'=(e || !l5 s)):wl PP [sd,sh,uh,nr] 0 ab6 (yt [1,3,4,5,6,7,8] [.ptr 0 0,.sl 1 0 7 1,zi m,.sc (.bool p),zi i,.ptr 2 0,.sc (.bool t)] [(zZ z),some (.row [.sc (.bool a),.sc (.bool b),.sc (.bool c),.sc (.bool false),.sc (.bool d),.sc (.bool e'),.sc (.bool f)] 0 0 4),(zY s)]) (fm [1,3,4,5,6,7,8] [.ptr 0 0,.sl 1 0 7 1,zi m,.sc (.bool p),zi i,.ptr 2 0,.sc (.bool t)]) (ay [(zZ z),some (.row [.sc (.bool a),.sc (.bool b),.sc (.bool c),.sc (.bool false),.sc (.bool d),.sc (.bool e),.sc (.bool f)] 0 0 4),(zY s)]):=by
 unfold ab6 po sk Tryz.f106;have dQ:=sv hs.owner;simp only [↓wR,zT,simprocAttr,jc,jd,i7,ib];rw [cp];refine ⟨fun ⟨h1,e1⟩=>?_,fun ⟨h1,e1⟩=>?_⟩
 ·simp only [↓wR,zT,simprocAttr,h1];rw [az];refine ⟨fun h2=>?_,fun h2=>?_⟩
  ·obtain ⟨c0,hc0⟩:∃ c0,s.owner[0]? = some c0:=⟨_,zh zO⟩;simp only [↓wR,zT,simprocAttr,h2,hc0];rw [dv];refine ⟨fun h3=>?_,fun h3=>?_⟩
   ·have h0:e'=true:=by rw [hq];unfold l5;rw [if_neg (by simpa using e1),hc0];show (e || !!decide (c0=O8))=true;rw [show decide (c0=O8)=true from h3];simp
    subst h0;simp only [↓wR,zT,simprocAttr,h3,ib]
   ·have h0:e'=e:=by rw [hq];unfold l5;rw [if_neg (by simpa using e1),hc0];show (e || !!decide (c0=O8))=e;rw [show decide (c0=O8)=false from h3];simp
    subst h0;simp only [↓wR,zT,simprocAttr,h3,ib]
  ·have h0:e'=e:=by rw [hq];unfold l5;rw [if_neg (by simpa using e1),zzy zO];simp
   subst h0;simp only [↓wR,zT,simprocAttr,h2,ib]
 ·have h0:e'=e:=by rw [hq];unfold l5;rw [if_pos e1];simp
  subst h0;simp only [↓wR,zT,simprocAttr,h1,ib]
theorem aAp (z:cf) (s:aw) (i m:Nat) (p t a b c d e f:Bool) (f':Bool) (hz:dj z) (hs:cw s) (hq:f'=(f || !pz z s)):wl PP [sd,sh,uh,nr] 0 ac7 (yt [1,3,4,5,6,7,8] [.ptr 0 0,.sl 1 0 7 1,zi m,.sc (.bool p),zi i,.ptr 2 0,.sc (.bool t)] [(zZ z),some (.row [.sc (.bool a),.sc (.bool b),.sc (.bool c),.sc (.bool false),.sc (.bool d),.sc (.bool e),.sc (.bool f')] 0 0 4),(zY s)]) (fm [1,3,4,5,6,7,8] [.ptr 0 0,.sl 1 0 7 1,zi m,.sc (.bool p),zi i,.ptr 2 0,.sc (.bool t)]) (ay [(zZ z),some (.row [.sc (.bool a),.sc (.bool b),.sc (.bool c),.sc (.bool false),.sc (.bool d),.sc (.bool e),.sc (.bool f)] 0 0 4),(zY s)]):=by
 unfold ac7 po sk Tryz.f106;simp only [↓wR,zT,simprocAttr,jc,jd,j3,j4,i7,ib,E5,hs,hz];rw [dv];refine ⟨fun h1=>?_,fun h1=>?_⟩
 ·have h0:f'=true:=by rw [hq,h1,Bool.or_true]
  subst h0;simp only [↓wR,zT,simprocAttr,h1,ib]
 ·have h0:f'=f:=by rw [hq,h1,Bool.or_false]
  subst h0;simp only [↓wR,zT,simprocAttr,h1,ib]
def anyS (q:aw->Bool) (z:cf) (i:Nat):Bool:=(z.ar.take i).any q
theorem F2 {q:aw->Bool} {z:cf} {i:Nat} {s:aw} (h:z.ar[i]? = some s):anyS q z (i+1)=(anyS q z i || q s):=by obtain ⟨hi,rfl⟩:=zg.1 h;unfold anyS;rw [zz5 hi,List.any_append];simp
def Al (z:cf) (i:Nat):Nat:=((z.ar.take i).filter fun s=>decide ((s.type.toNat:Int)=6)).length
theorem aE7 {z:cf} {i:Nat} {s:aw} (h:z.ar[i]? = some s):Al z (i+1)=Al z i+if (s.type.toNat:Int)=6 then 1 else 0:=by
 obtain ⟨hi,rfl⟩:=zg.1 h;unfold Al;rw [zz5 hi,List.filter_append,za,List.filter_cons,List.filter_nil]
 congr 1
 split<;>split<;>simp_all
theorem aHc (z:cf) (i:Nat):Al z i<=z.ar.length:=by unfold Al;exact zzu (List.length_filter_le _ _) (by rw [zzl];omega)
def Kj (s:aw):Bool:=!ng s
def Jk (z:cf) (s:aw):Bool:=!jm s.owner z.origin
def A1 (z:cf) (s:aw):Bool:=decide ((s.type.toNat:Int)=6) && (!gh s.owner z.origin || decide ((s.data.length:Int)≠1))
def zo (z:cf) (s:aw):Bool:=decide ((s.type.toNat:Int)=2) && gh s.owner z.origin
def J1 (s:aw):Bool:=!l5 s
def Kk (z:cf) (s:aw):Bool:=!pz z s
noncomputable def Ti:Code:=match sk with
 |.seq a _=>a
 |_=>.skip
noncomputable def Tu:Code:=match sk with
 |.seq _ (.seq _ b)=>b
 |_=>.skip
theorem Wk:sk = .seq Ti (.seq (.block 1 po) Tu):=zK
theorem oe:ak PP [sd,sh,uh,nr]:=ak.cons (aq yk) (ak.cons (aq Md) (ak.cons (aq api) (ak.cons (aq ac1) (ak.nil PP))))
theorem aDd (z:cf) (i m:Nat) (p a b c d e f:Bool) (hi:i<z.ar.length):wl PP [sd,sh,uh,nr] 0 Ti (yt [1,3,4,5,6] [.ptr 0 0,.sl 1 0 7 1,zi m,.sc (.bool p),zi i] [(zZ z),some (.row [.sc (.bool a),.sc (.bool b),.sc (.bool c),.sc (.bool false),.sc (.bool d),.sc (.bool e),.sc (.bool f)] 0 0 4)]) (fm [1,3,4,5,6] [.ptr 0 0,.sl 1 0 7 1,zi m,.sc (.bool p),zi i]) (ay [(zZ z),some (.row [.sc (.bool a),.sc (.bool b),.sc (.bool c),.sc (.bool false),.sc (.bool d),.sc (.bool e),.sc (.bool f)] 0 0 4)]):=by have h:decide ((i:Int)<z.ar.length)=true:=zp zO;unfold Ti sk Tryz.f106;simp only [↓wR,zT,simprocAttr,ib,h]
theorem aBv (z:cf) (i m:Nat) (p a b c d e f:Bool) (hi:¬ i<z.ar.length):wl PP [sd,sh,uh,nr] 0 Ti (att 0 [3,4,5] [.sl 0 0 7 1,zi m,.sc (.bool p)] [some (.row [.sc (.bool a),.sc (.bool b),.sc (.bool c),.sc (.bool false),.sc (.bool d),.sc (.bool e),.sc (.bool f)] 0 0 4)]) (fm [1,3,4,5,6] [.ptr 0 0,.sl 1 0 7 1,zi m,.sc (.bool p),zi i]) (ay [(zZ z),some (.row [.sc (.bool a),.sc (.bool b),.sc (.bool c),.sc (.bool false),.sc (.bool d),.sc (.bool e),.sc (.bool f)] 0 0 4)]):=by have h:decide ((i:Int)<z.ar.length)=false:=zq zO;unfold Ti sk Tryz.f106;simp only [↓wR,zT,simprocAttr,aEx,h]
theorem aDa (z:cf) (s:aw) (i m:Nat) (p t a b c d e f:Bool) (hi:i<=16777216):wl PP [sd,sh,uh,nr] 0 Tu (yt [1,3,4,5,6] [.ptr 0 0,.sl 1 0 7 1,zi m,.sc (.bool p),zi ((i+1:Nat))] [(zZ z),some (.row [.sc (.bool a),.sc (.bool b),.sc (.bool c),.sc (.bool false),.sc (.bool d),.sc (.bool e),.sc (.bool f)] 0 0 4)]) (fm [1,3,4,5,6,7,8] [.ptr 0 0,.sl 1 0 7 1,zi m,.sc (.bool p),zi i,.ptr 2 0,.sc (.bool t)]) (ay [(zZ z),some (.row [.sc (.bool a),.sc (.bool b),.sc (.bool c),.sc (.bool false),.sc (.bool d),.sc (.bool e),.sc (.bool f)] 0 0 4),(zY s)]):=by
 unfold Tu sk Tryz.f106
 repeat (first|simp only [↓wR,zT,simprocAttr,ib]|simp (disch:=omega) only [zW])
 all_goals first|done|exact zF
theorem ah3:ia 2 po = .seq ac0 (.seq acw (.seq adb (.seq ab1 (.seq abk (.seq ab6 ac7))))):=zK
theorem asv {z:cf} (hz:dj z) {i:Nat} {s:aw} (hi:z.ar[i]? = some s) {Q:QL} (hQ:∀ L st,Go.Vm.dq 0 [1,3,4,5,6] L st=[.ptr 0 0,.sl 1 0 7 1,zi ((Al z (i+1))),.sc (.bool (anyS (zo z) z (i+1))),zi ((i+1))]->gk 0 [1,3,4,5,6] L st=[(zZ z),some (.row [.sc (.bool (anyS Kj z (i+1))),.sc (.bool (anyS (Jk z) z (i+1))),.sc (.bool (anyS (A1 z) z (i+1))),.sc (.bool false),.sc (.bool (anyS (ql z) z (i+1))),.sc (.bool (anyS J1 z (i+1))),.sc (.bool (anyS (Kk z) z (i+1)))] 0 0 4)]->Q .normal L st):SW PP (Tryz.f106.ntmps:NT) sk Q (fm [1,3,4,5,6] [.ptr 0 0,.sl 1 0 7 1,zi ((Al z (i))),.sc (.bool (anyS (zo z) z (i))),zi ((i))]) (ay [(zZ z),some (.row [.sc (.bool (anyS Kj z (i))),.sc (.bool (anyS (Jk z) z (i))),.sc (.bool (anyS (A1 z) z (i))),.sc (.bool false),.sc (.bool (anyS (ql z) z (i))),.sc (.bool (anyS J1 z (i))),.sc (.bool (anyS (Kk z) z (i)))] 0 0 4)]):=by
 have hs:=hz.set s (zm hi);have hlt:=(zg.1 hi).1;have hlen:=hz.len;have hm:=aHc z i;rw [Wk];refine Dj oe zK [1,3,4,5,6] _ _ zK (aDd z i _ _ _ _ _ _ _ _ hlt) ?_;refine Tj (aix ?_);refine awv oe zK 1 zK zK (Fv _ _ _ ?_ _ _ (aCp z s i _ _ _ _ _ _ _ _ hz hs hi));intro e L st hq;cases e with
 |ret=>exact hq.elim
 |exit j=>exact hq.elim
 |normal=>
 refine Mz [1,3,4,5,6,7,8] _ _ (by rw [hq.1,hq.2];exact kh.refl _ _ _) ?_;rw [ah3];refine Dj oe zK [1,3,4,5,6,7,8] _ _ zK (aCa z s i _ _ _ _ _ _ _ _ _ _ hz hs (F2 (q:=Kj) hi)) ?_;refine Dj oe zK [1,3,4,5,6,7,8] _ _ zK (aA2 z s i _ _ _ _ _ _ _ _ _ _ hz hs (F2 (q:=Jk z) hi)) ?_;refine Dj oe zK [1,3,4,5,6,7,8] _ _ zK (aCj z s i _ _ _ _ _ _ _ _ _ _ _ hz hs zO (aE7 hi) (F2 (q:=A1 z) hi)) ?_;refine Dj oe zK [1,3,4,5,6,7,8] _ _ zK (aBt z s i _ _ _ _ _ _ _ _ _ _ hz hs (F2 (q:=zo z) hi)) ?_;refine Dj oe zK [1,3,4,5,6,7,8] _ _ zK (aBj z s i _ _ _ _ _ _ _ _ _ _ hz hs (F2 (q:=ql z) hi)) ?_;refine Dj oe zK [1,3,4,5,6,7,8] _ _ zK (aB4 z s i _ _ _ _ _ _ _ _ _ _ hz hs (F2 (q:=J1) hi)) ?_;refine azv oe zK [1,3,4,5,6,7,8] _ _ zK (aAp z s i _ _ _ _ _ _ _ _ _ _ hz hs (F2 (q:=Kk z) hi)) ?_;intro L st e1 e2;show SW PP (Tryz.f106.ntmps:NT) Tu Q L st;exact Mz [1,3,4,5,6,7,8] _ _ (by rw [e1,e2];exact kh.refl _ _ _) (azv oe zK [1,3,4,5,6] _ _ zK (aDa z s i _ _ _ _ _ _ _ _ _ zO) hQ)
theorem atj {z:cf} (hz:dj z) {L:SL} {st:St} (h1:Go.Vm.dq 0 [1,3,4,5,6] L st=[.ptr 0 0,.sl 1 0 7 1,zi ((Al z (0))),.sc (.bool (anyS (zo z) z (0))),zi ((0))]) (h2:gk 0 [1,3,4,5,6] L st=[(zZ z),some (.row [.sc (.bool (anyS Kj z (0))),.sc (.bool (anyS (Jk z) z (0))),.sc (.bool (anyS (A1 z) z (0))),.sc (.bool false),.sc (.bool (anyS (ql z) z (0))),.sc (.bool (anyS J1 z (0))),.sc (.bool (anyS (Kk z) z (0)))] 0 0 4)]):SW PP (Tryz.f106.ntmps:NT) (.loop sk) (att 0 [3,4,5] [.sl 0 0 7 1,zi ((Al z (z.ar.length))),.sc (.bool (anyS (zo z) z (z.ar.length)))] [some (.row [.sc (.bool (anyS Kj z (z.ar.length))),.sc (.bool (anyS (Jk z) z (z.ar.length))),.sc (.bool (anyS (A1 z) z (z.ar.length))),.sc (.bool false),.sc (.bool (anyS (ql z) z (z.ar.length))),.sc (.bool (anyS J1 z (z.ar.length))),.sc (.bool (anyS (Kk z) z (z.ar.length)))] 0 0 4)]) L st:=by
 refine aHf (α:=Nat) [1,3,4,5,6] (fun i=>[.ptr 0 0,.sl 1 0 7 1,zi ((Al z (i))),.sc (.bool (anyS (zo z) z (i))),zi ((i))]) (fun i=>[(zZ z),some (.row [.sc (.bool (anyS Kj z (i))),.sc (.bool (anyS (Jk z) z (i))),.sc (.bool (anyS (A1 z) z (i))),.sc (.bool false),.sc (.bool (anyS (ql z) z (i))),.sc (.bool (anyS J1 z (i))),.sc (.bool (anyS (Kk z) z (i)))] 0 0 4)]) (fun i=>i<=z.ar.length) (fun i=>z.ar.length - i) 0 (zzb _) (by rw [h1,h2];exact kh.refl _ _ _) ?_;intro i hi;by_cases hlt:i<z.ar.length
 ·exact asv hz (zh hlt) (fun L st e1 e2=>⟨i+1,hlt,zO,e1,e2⟩)
 ·have he:i=z.ar.length:=zO;subst he;rw [Wk];refine Tj (M5 ?_ (abd oe zK zK (aBv z _ _ _ _ _ _ _ _ _ hlt)));intro e L st hq;cases e with
  |normal=>exact hq.elim
  |ret=>exact hq.elim
  |exit j=>exact hq
noncomputable def am1:Code:=ia 5 (Tryz.f106.body.getD .skip)
theorem ao7:ia 4 (Tryz.f106.body.getD .skip) = .seq (.seq acv (.block 0 (.loop sk))) am1:=zK
noncomputable def al3:Code:=qd 1 (ia 5 (Tryz.f106.body.getD .skip))
noncomputable def al4:Code:=ia 6 (Tryz.f106.body.getD .skip)
theorem anx:am1 = .seq al3 al4:=zK
theorem aF4 (m:Nat) (p a b c d e f c':Bool) (hq:c'=(c || decide ((m:Int)≠1))):wl PP [sd,sh,uh,nr] 0 al3 (yt [3,5] [.sl 0 0 7 1,.sc (.bool p)] [some (.row [.sc (.bool a),.sc (.bool b),.sc (.bool c'),.sc (.bool false),.sc (.bool d),.sc (.bool e),.sc (.bool f)] 0 0 4)]) (fm [3,4,5] [.sl 0 0 7 1,zi m,.sc (.bool p)]) (ay [some (.row [.sc (.bool a),.sc (.bool b),.sc (.bool c),.sc (.bool false),.sc (.bool d),.sc (.bool e),.sc (.bool f)] 0 0 4)]):=by
 unfold al3 Tryz.f106;simp only [↓wR,zT,simprocAttr,jc,jd,i7,ib];rw [de];refine ⟨fun ⟨h1,e1⟩=>?_,fun ⟨h1,e1⟩=>?_⟩
 ·have h0:c'=true:=by rw [hq,zp e1,Bool.or_true]
  subst h0;simp only [↓wR,zT,simprocAttr,h1,ib]
 ·have h0:c'=c:=by rw [hq,zq zO,Bool.or_false]
  subst h0;simp only [↓wR,zT,simprocAttr,h1,ib]
def Nc:List Bool->List Int->Int
 |true::_,e::_=>e
 |false::l,_::r=>Nc l r
 |_,_=>0
theorem aEy (p a b c d e f:Bool):wl PP [sd,sh,uh,nr] 0 al4 (di PP Tryz.f106.results.toList (fun r st=>(r1 (bh .i64)).get true st.h r=some (Nc [a,b,c,!p,d,e,f] [261,262,263,264,265,266,267]))) (fm [3,5] [.sl 0 0 7 1,.sc (.bool p)]) (ay [some (.row [.sc (.bool a),.sc (.bool b),.sc (.bool c),.sc (.bool false),.sc (.bool d),.sc (.bool e),.sc (.bool f)] 0 0 4)]):=by
 unfold al4 Tryz.f106;simp only [↓wR,zT,simprocAttr,jc,jd,j3,j4];generalize (!p)=q;refine da [3,9,10] (fun (k:Nat)=>[.sl 0 0 7 1,.sl 1 0 7 1,zi k]) (fun _=>[some (.row [.sc (.bool a),.sc (.bool b),.sc (.bool c),.sc (.bool q),.sc (.bool d),.sc (.bool e),.sc (.bool f)] 0 0 4),some (.row [zi 261,zi 262,zi 263,zi 264,zi 265,zi 266,zi 267] 0 0 3)]) (fun k=>k<=7/\Nc [a,b,c,q,d,e,f] [261,262,263,264,265,266,267]=Nc ([a,b,c,q,d,e,f].drop k) (List.drop k [261,262,263,264,265,266,267])) (fun k=>7 - k) 0 ⟨by decide,rfl⟩ zS zS ?_;rintro k ⟨hk,hx⟩;rcases (show k=0\/k=1\/k=2\/k=3\/k=4\/k=5\/k=6\/k=7 by omega) with rfl|rfl|rfl|rfl|rfl|rfl|rfl|rfl
 ·simp only [↓wR,zT,simprocAttr];cases a
  ·repeat (first|simp only [↓wR,zT,simprocAttr]|simp (disch:=omega) only [zW])
   exact ⟨1,⟨by decide,hx⟩,by decide,zF⟩
  ·rw [hx];simp only [↓wR,zT,simprocAttr]
   try rfl
 ·simp only [↓wR,zT,simprocAttr];cases b
  ·repeat (first|simp only [↓wR,zT,simprocAttr]|simp (disch:=omega) only [zW])
   exact ⟨2,⟨by decide,hx⟩,by decide,zF⟩
  ·rw [hx];simp only [↓wR,zT,simprocAttr]
   try rfl
 ·simp only [↓wR,zT,simprocAttr];cases c
  ·repeat (first|simp only [↓wR,zT,simprocAttr]|simp (disch:=omega) only [zW])
   exact ⟨3,⟨by decide,hx⟩,by decide,zF⟩
  ·rw [hx];simp only [↓wR,zT,simprocAttr]
   try rfl
 ·simp only [↓wR,zT,simprocAttr];cases q
  ·repeat (first|simp only [↓wR,zT,simprocAttr]|simp (disch:=omega) only [zW])
   exact ⟨4,⟨by decide,hx⟩,by decide,zF⟩
  ·rw [hx];simp only [↓wR,zT,simprocAttr]
   try rfl
 ·simp only [↓wR,zT,simprocAttr];cases d
  ·repeat (first|simp only [↓wR,zT,simprocAttr]|simp (disch:=omega) only [zW])
   exact ⟨5,⟨by decide,hx⟩,by decide,zF⟩
  ·rw [hx];simp only [↓wR,zT,simprocAttr]
   try rfl
 ·simp only [↓wR,zT,simprocAttr];cases e
  ·repeat (first|simp only [↓wR,zT,simprocAttr]|simp (disch:=omega) only [zW])
   exact ⟨6,⟨by decide,hx⟩,by decide,zF⟩
  ·rw [hx];simp only [↓wR,zT,simprocAttr]
   try rfl
 ·simp only [↓wR,zT,simprocAttr];cases f
  ·repeat (first|simp only [↓wR,zT,simprocAttr]|simp (disch:=omega) only [zW])
   exact ⟨7,⟨by decide,hx⟩,by decide,zF⟩
  ·rw [hx];simp only [↓wR,zT,simprocAttr]
   try rfl
 ·rw [hx];simp only [↓wR,zT,simprocAttr]
  try rfl
noncomputable def akb (z:cf):List Bool:=[z.ar.any Kj,z.ar.any (Jk z),z.ar.any (A1 z) || decide ((Al z z.ar.length:Int)≠1),!z.ar.any (zo z),z.ar.any (ql z),z.ar.any J1,z.ar.any (Kk z)]
noncomputable def Hl (z:cf):Int:=Nc (akb z) [261,262,263,264,265,266,267]
theorem Cv (q:aw->Bool) (z:cf):anyS q z z.ar.length=z.ar.any q:=by unfold anyS;rw [zz7]
theorem aCx (z:cf) (hz:dj z):SW PP (Tryz.f106.ntmps:NT) (Tryz.f106.body.getD .skip) (di PP Tryz.f106.results.toList (fun r st=>(r1 (bh .i64)).get true st.h r=some (Hl z))) (cj 0 [c7.val false z]) (ay []):=by
 refine awv oe zK 3 zK zK (Fv _ _ _ ?_ _ _ (ayr z));intro e L st hq;cases e with
 |ret=>exact hq.elim
 |exit j=>exact hq.elim
 |normal=>
 show SW PP (Tryz.f106.ntmps:NT) (ia 4 (Tryz.f106.body.getD .skip)) _ L st;rw [ao7];refine Tj (Tj (M5 ?_ (abd oe zK zK hq)));intro e L st hq;cases e with
 |ret=>exact hq.elim
 |exit j=>exact hq.elim
 |normal=>
 refine aix (M5 ?_ (atj hz hq.1 hq.2));intro e L st hq;cases e with
 |ret=>exact hq.elim
 |normal=>exact hq.elim
 |exit j=>
 obtain ⟨rfl,e1,e2⟩:=hq;show SW PP (Tryz.f106.ntmps:NT) am1 _ L st;refine Mz [3,4,5] [.sl 0 0 7 1,zi ((Al z (z.ar.length))),.sc (.bool (anyS (zo z) z (z.ar.length)))] [some (.row [.sc (.bool (anyS Kj z (z.ar.length))),.sc (.bool (anyS (Jk z) z (z.ar.length))),.sc (.bool (anyS (A1 z) z (z.ar.length))),.sc (.bool false),.sc (.bool (anyS (ql z) z (z.ar.length))),.sc (.bool (anyS J1 z (z.ar.length))),.sc (.bool (anyS (Kk z) z (z.ar.length)))] 0 0 4)] (by rw [e1,e2];exact kh.refl _ _ _) ?_;rw [anx];refine Dj oe zK [3,5] _ _ zK (aF4 _ _ _ _ _ _ _ _ _ rfl) ?_;have h:=aEy (anyS (zo z) z z.ar.length) (anyS Kj z z.ar.length) (anyS (Jk z) z z.ar.length) (anyS (A1 z) z z.ar.length || decide ((Al z z.ar.length:Int)≠1)) (anyS (ql z) z z.ar.length) (anyS J1 z z.ar.length) (anyS (Kk z) z z.ar.length);refine abd oe zK zK ?_;unfold Hl akb;rw [<- Cv Kj,<- Cv (Jk z),<- Cv (A1 z),<- Cv (zo z),<- Cv (ql z),<- Cv J1,<- Cv (Kk z)];exact h
noncomputable def Nx (x:cf × Unit):Option AV:=open Classical in if dj x.1 then some ((r1 (bh .i64)).E true (Hl x.1)) else none
theorem aoy (x:cf × Unit) (r:AV) (h:Nx x=some r):bo PP 106 ((aC c7 a0).E x) r:=by obtain ⟨hc,rfl⟩:=zI h;exact abl (body:=Tryz.f106.body.getD .skip) Tryz.func106 zK zK zL (r1 (bh .i64)) true (Hl x.1) (aCx x.1 hc)
noncomputable abbrev aJj:zE:=(106,true,dg (aC c7 a0) Nx)
end Go.Proofs.YtjagjbceegbaiaaGreat
end
