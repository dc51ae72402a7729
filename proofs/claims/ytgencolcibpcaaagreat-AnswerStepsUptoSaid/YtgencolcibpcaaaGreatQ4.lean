/- A piece of the proof of the law AnswerSteps: lemmas. No condition. -/
import Derived.Test.YtgencolcibpcaaaGreatProg
import Derived.Test.YtgencolcibpcaaaGreatRows
import Derived.Test.YtgencolcibpcaaaGreatQ3
set_option linter.unusedSimpArgs false
set_option linter.unusedVariables false
set_option linter.unusedSectionVars false
set_option maxRecDepth 2000000
section
namespace Go.Proofs.YtgencolcibpcaaaGreat
open Go.Vm
def db (b:Bool) (err e:Int):Int:=if e=0/\b=false then err else e
def fy (err:Int) (p:Nat->az->Bool):Nat->List az->Int->Int
 |_,[],e=>e
 |i,s::r,e=>if e≠0 then e else fy err p (i+1) r (db (p i s) err e)
def jw (l:List az):Nat:=l.foldl (fun n s=>n+s.data.length) 0
noncomputable def nb:List az->Int->Int
 | [],e=>e
 |s::r,e=>nb r (if e=0 then k6 s else e)
noncomputable def oh (z:au):Int:=if dk z.origin≠0 then dk z.origin else nb z.aj (db (decide (jw z.aj<=2048)) 3 0)
def Lc (z:au) (l:List az):Bool:=l.any fun s=>decide ((s.type.toNat:Int)=2) && dm s.owner z.origin
def iw (z:au):Bool:=Lc z z.aj
theorem agc {z:au} {l:List az} {i:Nat} {c:az} (h:l.drop i=c::l.drop (i+1)):Lc z (l.drop i)=((decide ((c.type.toNat:Int)=2) && dm c.owner z.origin) || Lc z (l.drop (i+1))):=by rw [h];rfl
noncomputable def yg (z:au):Int:=fy 260 (gk z) 0 z.aj (oh z)
noncomputable def Gp (z:au):Int:=fy 261 (fun _ s=>ju s) 0 z.aj (yg z)
noncomputable def o0 (z:au):Int:=fy 262 (fun _ s=>dp s.owner z.origin) 0 z.aj (Gp z)
noncomputable def lr (z:au):Int:=db (decide ((gb z).1=1) && decide ((gb z).2=1)) 263 (o0 z)
noncomputable def yq (z:au):Int:=db (iw z) 264 (lr z)
noncomputable def yt (z:au):Int:=fy 265 (jm z) 0 z.aj (yq z)
noncomputable def E0 (z:au):Int:=fy 266 (fun _ s=>jv s) 0 z.aj (yt z)
noncomputable def Wj (z:au):Int:=fy 267 (fun _ s=>lu z s) 0 z.aj (E0 z)
noncomputable def dy (z:au):Int:=if oh z≠0 then oh z else Wj z
theorem Oq (l:List az) (i:Nat) (c:az) (h:l[i]? = some c):jw (l.take (i+1))=jw (l.take i)+c.data.length:=by obtain ⟨hk,rfl⟩:=zg.1 h;rw [zz5 hk];simp only [jw,List.foldl_append,List.foldl_cons,List.foldl_nil]
theorem ah6 (l:List az):∀ k,l.foldl (fun n s=>n+s.data.length) k<=k+gh nl l:=by
 induction l with
 |nil=>intro k;exact zza _
 |cons a l ih=>
  intro k;have h1:=ih (k+a.data.length);have h2:=Dq An a.data;simp only [gh,List.foldr_cons,List.foldl_cons,nl] at h1 ⊢;unfold gh at h2;omega
theorem Lt (l:List az):jw l<=gh nl l:=by have:=ah6 l 0;unfold jw;omega
theorem ae4 {l:List az} {i:Nat} {c:az} (h:l.drop i=c::l.drop (i+1)) (e:Int):nb (l.drop i) e=nb (l.drop (i+1)) (if e=0 then k6 c else e):=by rw [h];rfl
theorem u5 {l:List az} {i:Nat} {c:az} (h:l.drop i=c::l.drop (i+1)) (err:Int) (p:Nat->az->Bool) (e:Int):fy err p i (l.drop i) e=if e≠0 then e else fy err p (i+1) (l.drop (i+1)) (db (p i c) err e):=by rw [h];rfl
set_option maxHeartbeats 4000000 in
theorem afe (z:au) (hz:bj z):wl PP [fk,ee,gx,kc,ke,kb,jk,l0,pa,lz] 0 (Tryz.f27.body.getD .skip) (c8 PP Tryz.f27.results.toList (fun r st=>(r1 (ba .i64)).get true st.h r=some (dy z))) (cg 0 [be.val false z]) (bh []):=by
 have hl:=hz.len;have ok:ar PP [fk,ee,gx,kc,ke,kb,jk,l0,pa,lz]:=ar.cons (aq qy) (ar.cons (aq j3) (ar.cons (aq Ms) (ar.cons (aq Sg) (ar.cons (aq Su) (ar.cons (aq Sn) (ar.cons (aq N7) (ar.cons (aq Ur) (ar.cons (aq aaa) (ar.cons (aq W8) (ar.nil PP))))))))));unfold Tryz.f27;simp only [dr];simp only [↓wR,zT,simprocAttr];refine ed (fun r aA=>r = .gn []/\aA=bh [(zZ z),some (.row [zn z.origin,zs z.aj,zi (oh z)] 0 2 111)]) rfl ?_ ?_
 ·refine cx (T:=[fk,ee,gx,kc,ke,kb,jk,l0,pa,lz]) ok mixed Tryz.func75 rfl zK zK zK zK ?_;unfold Tryz.f75;simp only [↓wR,zT,simprocAttr,qh,hz.origin.fit];unfold oh;rw [cq];refine ⟨fun h=>?_,fun h=>?_⟩
  ·have he:dk z.origin≠0:=by simpa using h
   rw [if_pos he];simp only [↓wR,zT,simprocAttr,h,jl,jd,iy]
  have he:dk z.origin=0:=by simpa using h
  rw [if_neg zO];simp only [↓wR,zT,simprocAttr,h,he];refine dq [0,2,25,26,27] (fun (i:Nat)=>[.ptr 1 0,zi (jw (z.aj.take i)),zs z.aj,zi z.aj.length,zi i]) (fun _=>[(zZ z),some (.row [zn z.origin,zs z.aj,zi 0] 0 2 111)]) (fun i=>i<=z.aj.length) (fun i=>z.aj.length - i) 0 (zzb _) zS zS ?_;clear h;intro i hi;have lN:=Lt (z.aj.take i);have tD:=T8 nl z.aj i;have hzz:gh nl z.aj<=16777216:=by unfold bj O6 at hz;omega
  simp only [↓wR,zT,simprocAttr];rw [bg];refine ⟨fun h=>?_,fun h=>?_⟩
  ·obtain ⟨c,hc,aF,hlt⟩:=du (zp h);have hst:=Oq z.aj i c hc;have hcl:=(hz.set c (zm hc)).data.len
   repeat (first|simp only [↓wR,zT,simprocAttr,h,hc]|simp (disch:=omega) only [zW])
   exact ⟨i+1,hlt,zO,by rw [hst];exact zF⟩
  have hin:i=z.aj.length:=zO;rw [hin,zz7] at lN ⊢;simp only [↓wR,zT,simprocAttr,h];have hd:decide ((jw z.aj:Int)<=2048)=decide (jw z.aj<=2048):=by rw [decide_eq_decide];omega
  rw [hd];refine ed (fun r aA=>r = .gn []/\aA=bh [(zZ z),some (.row [zn z.origin,zs z.aj,zi (db (decide (jw z.aj<=2048)) 3 (0))] 0 2 111)]) rfl ?_ ?_
  ·refine cx (T:=[fk,ee,gx,kc,ke,kb,jk,l0,pa,lz]) ok mixed Tryz.func81 rfl zK zK zK zK ?_;unfold Tryz.f81;simp only [↓wR,zT,simprocAttr];rw [cq];refine ⟨fun aJ=>?_,fun aJ=>?_⟩
   ·have hb:(decide (jw z.aj<=2048))=false:=by simpa only [zyd] using aJ
    have hv:db (decide (jw z.aj<=2048)) 3 (0)=3:=by unfold db;rw [if_pos ⟨rfl,hb⟩]
    simp only [↓wR,zT,simprocAttr,aJ,jl,jd,iy]
    try rw [hv]
   ·have hb:(decide (jw z.aj<=2048))=true:=by simpa only [zyh] using aJ
    have hv:db (decide (jw z.aj<=2048)) 3 (0)=0:=by unfold db;rw [if_neg (fun q=>by rw [hb] at q;cases q.2)]
    simp only [↓wR,zT,simprocAttr,aJ,jl,jd,iy]
    try rw [hv]
  rintro _ _ ⟨rfl,rfl⟩;simp only [↓wR,zT,simprocAttr,fu];refine dq [0,45,46,47] (fun (x:Nat × Int)=>[.ptr 1 0,zs z.aj,zi z.aj.length,zi x.1]) (fun x=>[(zZ z),some (.row [zn z.origin,zs z.aj,zi x.2] 0 2 111)]) (fun x=>x.1<=z.aj.length/\nb z.aj (db (decide (jw z.aj<=2048)) 3 0)=nb (z.aj.drop x.1) x.2) (fun x=>z.aj.length - x.1) (0,db (decide (jw z.aj<=2048)) 3 0) ⟨zzb _,rfl⟩ zS zS ?_;clear h hi hin hd;rintro ⟨i,e⟩ ⟨hi,hx⟩;simp only at hi hx;simp only [↓wR,zT,simprocAttr];rw [bg];refine ⟨fun h=>?_,fun h=>?_⟩
  ·obtain ⟨c,hc,aF,hlt⟩:=du (zp h);rw [ae4 aF] at hx;have hcs:=hz.set c (zm hc);simp only [↓wR,zT,simprocAttr,h,hc];rw [bz];refine ⟨fun ⟨h1,e1⟩=>?_,fun ⟨h1,e1⟩=>?_⟩
   ·rw [if_pos e1] at hx
    repeat (first|simp only [↓wR,zT,simprocAttr,h1,A0,hcs]|simp (disch:=omega) only [zW])
    exact ⟨(i+1,k6 c),⟨hlt,hx⟩,by simp;omega,zF,zF⟩
   ·rw [if_neg e1] at hx
    repeat (first|simp only [↓wR,zT,simprocAttr,h1]|simp (disch:=omega) only [zW])
    exact ⟨(i+1,e),⟨hlt,hx⟩,by simp;omega,zF,zF⟩
  ·rw [eg (zq h)] at hx;simp only [↓wR,zT,simprocAttr,h,jl,jd,iy];rw [hx];rfl
 rintro _ _ ⟨rfl,rfl⟩;simp only [↓wR,zT,simprocAttr,fu];unfold dy;rw [cq];refine ⟨fun h=>?_,fun h=>?_⟩
 ·have he:oh z≠0:=by simpa using h
  rw [if_pos he];simp only [↓wR,zT,simprocAttr,h]
 have he:oh z=0:=by simpa using h
 rw [if_neg zO];simp only [↓wR,zT,simprocAttr,h];clear h he;obtain ⟨e0,aZ⟩:∃ e0,oh z=e0:=⟨_,rfl⟩;rw [aZ];refine ed (fun r aA=>r = .gn []/\aA=bh [(zZ z),some (.row [zn z.origin,zs z.aj,zi (fy 260 (gk z) 0 z.aj e0)] 0 2 111)]) rfl ?_ ?_
 ·refine cx (T:=[fk,ee,gx,kc,ke,kb,jk,l0,pa,lz]) ok mixed Tryz.func76 rfl zK zK zK zK ?_;unfold Tryz.f76;simp only [↓wR,zT,simprocAttr];refine dq [0,1,2,12,13,14] (fun (x:Nat × Int)=>[.ptr 1 0,zi 260,.fn (.func 77) [.ptr 1 0] [],zs z.aj,zi z.aj.length,zi x.1]) (fun x=>[(zZ z),some (.row [zn z.origin,zs z.aj,zi x.2] 0 2 111)]) (fun x=>x.1<=z.aj.length/\fy 260 (gk z) 0 z.aj e0=fy 260 (gk z) x.1 (z.aj.drop x.1) x.2) (fun x=>z.aj.length - x.1) (0,e0) ⟨zzb _,rfl⟩ zS zS ?_;rintro ⟨i,e⟩ ⟨hi,hx⟩;simp only at hi hx;simp only [↓wR,zT,simprocAttr];rw [bg];refine ⟨fun h=>?_,fun h=>?_⟩
  ·obtain ⟨c,hc,aF,hlt⟩:=du (zp h);rw [u5 aF] at hx;have hcs:=hz.set c (zm hc);have aY:(0:Int)<=i/\(i:Int)<=z.aj.length:=zO;simp only [↓wR,zT,simprocAttr,h,hc];rw [dg];refine ⟨fun ⟨h1,e1⟩=>?_,fun ⟨h1,e1⟩=>?_⟩
   ·rw [if_pos e1] at hx;simp only [↓wR,zT,simprocAttr,h1,jl,jd,iy];rw [hx]
   ·rw [if_neg zO] at hx;simp only [↓wR,zT,simprocAttr,h1,hcs,hz,aY,Jp];refine ed (fun r aA=>r = .gn []/\aA=bh [(zZ z),some (.row [zn z.origin,zs z.aj,zi (db ((gk z) i c) 260 e)] 0 2 111),(zY c)]) rfl ?_ ?_
    ·refine cx (T:=[fk,ee,gx,kc,ke,kb,jk,l0,pa,lz]) ok mixed Tryz.func81 rfl zK zK zK zK ?_;unfold Tryz.f81;simp only [↓wR,zT,simprocAttr,e1];rw [cq];refine ⟨fun aJ=>?_,fun aJ=>?_⟩
     ·have hb:((gk z) i c)=false:=by simpa only [zyd] using aJ
      have hv:db ((gk z) i c) 260 0=260:=by unfold db;rw [if_pos ⟨rfl,hb⟩]
      simp only [↓wR,zT,simprocAttr,aJ,jl,jd,iy]
      try rw [hv]
     ·have hb:((gk z) i c)=true:=by simpa only [zyh] using aJ
      have hv:db ((gk z) i c) 260 0=0:=by unfold db;rw [if_neg (fun q=>by rw [hb] at q;cases q.2)]
      simp only [↓wR,zT,simprocAttr,aJ,jl,jd,iy]
      try rw [hv]
    rintro _ _ ⟨rfl,rfl⟩
    repeat (first|simp only [↓wR,zT,simprocAttr,fu]|simp (disch:=omega) only [zW])
    exact ⟨(i+1,db ((gk z) i c) 260 e),⟨hlt,hx⟩,by simp;omega,zF,zF⟩
  ·rw [eg (zq h)] at hx;simp only [↓wR,zT,simprocAttr,h,jl,jd,iy];rw [hx];rfl
 rintro _ _ ⟨rfl,rfl⟩;rw [<- aZ];clear aZ;simp only [↓wR,zT,simprocAttr,fu];rw [show fy 260 (gk z) 0 z.aj (oh z)=yg z from rfl];obtain ⟨e0,aZ⟩:∃ e0,yg z=e0:=⟨_,rfl⟩;rw [aZ];refine ed (fun r aA=>r = .gn []/\aA=bh [(zZ z),some (.row [zn z.origin,zs z.aj,zi (fy 261 (fun _ s=>ju s) 0 z.aj e0)] 0 2 111)]) rfl ?_ ?_
 ·refine cx (T:=[fk,ee,gx,kc,ke,kb,jk,l0,pa,lz]) ok mixed Tryz.func76 rfl zK zK zK zK ?_;unfold Tryz.f76;simp only [↓wR,zT,simprocAttr];refine dq [0,1,2,12,13,14] (fun (x:Nat × Int)=>[.ptr 1 0,zi 261,.sc (.func (.func 78) #[] #[]),zs z.aj,zi z.aj.length,zi x.1]) (fun x=>[(zZ z),some (.row [zn z.origin,zs z.aj,zi x.2] 0 2 111)]) (fun x=>x.1<=z.aj.length/\fy 261 (fun _ s=>ju s) 0 z.aj e0=fy 261 (fun _ s=>ju s) x.1 (z.aj.drop x.1) x.2) (fun x=>z.aj.length - x.1) (0,e0) ⟨zzb _,rfl⟩ zS zS ?_;rintro ⟨i,e⟩ ⟨hi,hx⟩;simp only at hi hx;simp only [↓wR,zT,simprocAttr];rw [bg];refine ⟨fun h=>?_,fun h=>?_⟩
  ·obtain ⟨c,hc,aF,hlt⟩:=du (zp h);rw [u5 aF] at hx;have hcs:=hz.set c (zm hc);have aY:(0:Int)<=i/\(i:Int)<=z.aj.length:=zO;simp only [↓wR,zT,simprocAttr,h,hc];rw [dg];refine ⟨fun ⟨h1,e1⟩=>?_,fun ⟨h1,e1⟩=>?_⟩
   ·rw [if_pos e1] at hx;simp only [↓wR,zT,simprocAttr,h1,jl,jd,iy];rw [hx]
   ·rw [if_neg zO] at hx;simp only [↓wR,zT,simprocAttr,h1,hcs,hz,aY,Yg];refine ed (fun r aA=>r = .gn []/\aA=bh [(zZ z),some (.row [zn z.origin,zs z.aj,zi (db ((fun _ s=>ju s) i c) 261 e)] 0 2 111),(zY c)]) rfl ?_ ?_
    ·refine cx (T:=[fk,ee,gx,kc,ke,kb,jk,l0,pa,lz]) ok mixed Tryz.func81 rfl zK zK zK zK ?_;unfold Tryz.f81;simp only [↓wR,zT,simprocAttr,e1];rw [cq];refine ⟨fun aJ=>?_,fun aJ=>?_⟩
     ·have hb:((fun _ s=>ju s) i c)=false:=by simpa only [zyd] using aJ
      have hv:db ((fun _ s=>ju s) i c) 261 0=261:=by unfold db;rw [if_pos ⟨rfl,hb⟩]
      simp only [↓wR,zT,simprocAttr,aJ,jl,jd,iy]
      try rw [hv]
     ·have hb:((fun _ s=>ju s) i c)=true:=by simpa only [zyh] using aJ
      have hv:db ((fun _ s=>ju s) i c) 261 0=0:=by unfold db;rw [if_neg (fun q=>by rw [hb] at q;cases q.2)]
      simp only [↓wR,zT,simprocAttr,aJ,jl,jd,iy]
      try rw [hv]
    rintro _ _ ⟨rfl,rfl⟩
    repeat (first|simp only [↓wR,zT,simprocAttr,fu]|simp (disch:=omega) only [zW])
    exact ⟨(i+1,db ((fun _ s=>ju s) i c) 261 e),⟨hlt,hx⟩,by simp;omega,zF,zF⟩
  ·rw [eg (zq h)] at hx;simp only [↓wR,zT,simprocAttr,h,jl,jd,iy];rw [hx];rfl
 rintro _ _ ⟨rfl,rfl⟩;rw [<- aZ];clear aZ;simp only [↓wR,zT,simprocAttr,fu];rw [show fy 261 (fun _ s=>ju s) 0 z.aj (yg z)=Gp z from rfl];obtain ⟨e0,aZ⟩:∃ e0,Gp z=e0:=⟨_,rfl⟩;rw [aZ];refine ed (fun r aA=>r = .gn []/\aA=bh [(zZ z),some (.row [zn z.origin,zs z.aj,zi (fy 262 (fun _ s=>dp s.owner z.origin) 0 z.aj e0)] 0 2 111)]) rfl ?_ ?_
 ·refine cx (T:=[fk,ee,gx,kc,ke,kb,jk,l0,pa,lz]) ok mixed Tryz.func76 rfl zK zK zK zK ?_;unfold Tryz.f76;simp only [↓wR,zT,simprocAttr];refine dq [0,1,2,12,13,14] (fun (x:Nat × Int)=>[.ptr 1 0,zi 262,.fn (.func 79) [] [.ptr 0 0],zs z.aj,zi z.aj.length,zi x.1]) (fun x=>[(zZ z),some (.row [zn z.origin,zs z.aj,zi x.2] 0 2 111)]) (fun x=>x.1<=z.aj.length/\fy 262 (fun _ s=>dp s.owner z.origin) 0 z.aj e0=fy 262 (fun _ s=>dp s.owner z.origin) x.1 (z.aj.drop x.1) x.2) (fun x=>z.aj.length - x.1) (0,e0) ⟨zzb _,rfl⟩ zS zS ?_;rintro ⟨i,e⟩ ⟨hi,hx⟩;simp only at hi hx;simp only [↓wR,zT,simprocAttr];rw [bg];refine ⟨fun h=>?_,fun h=>?_⟩
  ·obtain ⟨c,hc,aF,hlt⟩:=du (zp h);rw [u5 aF] at hx;have hcs:=hz.set c (zm hc);have aY:(0:Int)<=i/\(i:Int)<=z.aj.length:=zO;simp only [↓wR,zT,simprocAttr,h,hc];rw [dg];refine ⟨fun ⟨h1,e1⟩=>?_,fun ⟨h1,e1⟩=>?_⟩
   ·rw [if_pos e1] at hx;simp only [↓wR,zT,simprocAttr,h1,jl,jd,iy];rw [hx]
   ·rw [if_neg zO] at hx;simp only [↓wR,zT,simprocAttr,h1,hcs,hz,aY,Hd];refine ed (fun r aA=>r = .gn []/\aA=bh [(zZ z),some (.row [zn z.origin,zs z.aj,zi (db ((fun _ s=>dp s.owner z.origin) i c) 262 e)] 0 2 111),(zY c)]) rfl ?_ ?_
    ·refine cx (T:=[fk,ee,gx,kc,ke,kb,jk,l0,pa,lz]) ok mixed Tryz.func81 rfl zK zK zK zK ?_;unfold Tryz.f81;simp only [↓wR,zT,simprocAttr,e1];rw [cq];refine ⟨fun aJ=>?_,fun aJ=>?_⟩
     ·have hb:((fun _ s=>dp s.owner z.origin) i c)=false:=by simpa only [zyd] using aJ
      have hv:db ((fun _ s=>dp s.owner z.origin) i c) 262 0=262:=by unfold db;rw [if_pos ⟨rfl,hb⟩]
      simp only [↓wR,zT,simprocAttr,aJ,jl,jd,iy]
      try rw [hv]
     ·have hb:((fun _ s=>dp s.owner z.origin) i c)=true:=by simpa only [zyh] using aJ
      have hv:db ((fun _ s=>dp s.owner z.origin) i c) 262 0=0:=by unfold db;rw [if_neg (fun q=>by rw [hb] at q;cases q.2)]
      simp only [↓wR,zT,simprocAttr,aJ,jl,jd,iy]
      try rw [hv]
    rintro _ _ ⟨rfl,rfl⟩
    repeat (first|simp only [↓wR,zT,simprocAttr,fu]|simp (disch:=omega) only [zW])
    exact ⟨(i+1,db ((fun _ s=>dp s.owner z.origin) i c) 262 e),⟨hlt,hx⟩,by simp;omega,zF,zF⟩
  ·rw [eg (zq h)] at hx;simp only [↓wR,zT,simprocAttr,h,jl,jd,iy];rw [hx];rfl
 rintro _ _ ⟨rfl,rfl⟩;rw [<- aZ];clear aZ;simp only [↓wR,zT,simprocAttr,fu,N6,hz];rw [show fy 262 (fun _ s=>dp s.owner z.origin) 0 z.aj (Gp z)=o0 z from rfl];rw [bz];refine ⟨fun ⟨hs1,yL⟩=>?_,fun ⟨hs1,yL⟩=>?_⟩
 ·simp only [↓wR,zT,simprocAttr,hs1];rw [show (((gb z).2:Int) == 1)=(decide ((gb z).1=1) && decide ((gb z).2=1)) from by rw [zp (show (gb z).1=1 by omega),Bool.true_and,zyb];simp;omega];refine ed (fun r aA=>r = .gn []/\aA=bh [(zZ z),some (.row [zn z.origin,zs z.aj,zi (db (decide ((gb z).1=1) && decide ((gb z).2=1)) 263 (o0 z))] 0 2 111)]) rfl ?_ ?_
  ·refine cx (T:=[fk,ee,gx,kc,ke,kb,jk,l0,pa,lz]) ok mixed Tryz.func81 rfl zK zK zK zK ?_;unfold Tryz.f81;simp only [↓wR,zT,simprocAttr];rw [bz];refine ⟨fun ⟨bJ,dO⟩=>?_,fun ⟨bJ,dO⟩=>?_⟩
   ·simp only [↓wR,zT,simprocAttr,bJ];rw [cq];refine ⟨fun aJ=>?_,fun aJ=>?_⟩
    ·have hb:(decide ((gb z).1=1) && decide ((gb z).2=1))=false:=by simpa only [zyd] using aJ
     have hv:db (decide ((gb z).1=1) && decide ((gb z).2=1)) 263 (o0 z)=263:=by unfold db;rw [if_pos ⟨dO,hb⟩]
     simp only [↓wR,zT,simprocAttr,bJ,aJ,jl,jd,iy]
     try rw [hv]
    ·have hb:(decide ((gb z).1=1) && decide ((gb z).2=1))=true:=by simpa only [zyh] using aJ
     have hv:db (decide ((gb z).1=1) && decide ((gb z).2=1)) 263 (o0 z)=o0 z:=by unfold db;rw [if_neg (fun q=>by rw [hb] at q;cases q.2)]
     simp only [↓wR,zT,simprocAttr,bJ,aJ,jl,jd,iy]
     try rw [hv]
   ·have hv:db (decide ((gb z).1=1) && decide ((gb z).2=1)) 263 (o0 z)=o0 z:=by unfold db;rw [if_neg (fun q=>dO q.1)]
    simp only [↓wR,zT,simprocAttr,bJ,jl,jd,iy]
    try rw [hv]
  rintro _ _ ⟨rfl,rfl⟩;rw [show db (decide ((gb z).1=1) && decide ((gb z).2=1)) 263 (o0 z)=lr z from rfl];simp only [↓wR,zT,simprocAttr,fu];refine cx (T:=[]) (ar.nil PP) mixed Tryz.func70 rfl zK zK zK zK ?_;unfold Tryz.f70;simp only [↓wR,zT,simprocAttr];refine ⟨[1,3,6,45],?_⟩;have hib:D4 PP 120=some (Tryz.f120.ntmps,Tryz.f120.body.getD .skip):=zK;simp only [↓wR,zT,simprocAttr,hib];refine ⟨zK,fun l=>?_⟩;unfold Tryz.f120;simp only [↓wR,zT,simprocAttr];refine If [0,2,7,8,9] (fun (x:Nat × Bool)=>[.sc (.func (.yield l) #[] #[]),.ptr 4 0,zs z.aj,zi z.aj.length,zi x.1]) (fun x=>[(zZ z),some (.row [zn z.origin,zs z.aj,zi (lr z)] 0 2 111),some (.row [.sc (.bool (x.2))] 0 2 4),(zZ z),some (.row [.sc (.int .u16 2)] 0 2 26)]) (fun x=>x.1<=z.aj.length/\iw z=(x.2 || Lc z (z.aj.drop x.1))) (fun x=>z.aj.length - x.1) (0,false) ⟨zzb _,by rw [Bool.false_or];rfl⟩ zS zS ?_;rintro ⟨i,b⟩ ⟨hi,hx⟩;simp only at hi hx;simp only [↓wR,zT,simprocAttr];rw [xz];refine ⟨fun h=>?_,fun h=>?_⟩
  ·obtain ⟨c,hc,aF,hlt⟩:=du h;have hcs:=hz.set c (zm hc);rw [agc aF] at hx;simp only [↓wR,zT,simprocAttr,h,hc];rw [xz];refine ⟨fun h2=>?_,fun h2=>?_⟩
   ·have e2:(c.type.toNat:Int)=2:=by simpa using h2
    rw [zp e2,Bool.true_and] at hx;simp only [↓wR,zT,simprocAttr,h2];refine Bj [0,2,7,8,9,17,19] ?_;simp only [↓wR,zT,simprocAttr,B5,oi];cases b with
    |true=>
     repeat (first|simp only [↓wR,zT,simprocAttr]|simp (disch:=omega) only [zW])
     exact ⟨(i+1,true),⟨hlt,by rw [hx];rfl⟩,by simp;omega,zF,zF⟩
    |false=>
     repeat (first|simp only [↓wR,zT,simprocAttr,jx,hcs.owner,hz.origin]|simp (disch:=omega) only [zW])
     exact ⟨(i+1,dm c.owner z.origin),⟨hlt,by rw [hx,Bool.false_or]⟩,by simp;omega,zF,zF⟩
   ·have e2:¬ (c.type.toNat:Int)=2:=by simpa using h2
    rw [zq e2,Bool.false_and,Bool.false_or] at hx
    repeat (first|simp only [↓wR,zT,simprocAttr,h2]|simp (disch:=omega) only [zW])
    exact ⟨(i+1,b),⟨hlt,hx⟩,by simp;omega,zF,zF⟩
  rw [eg h] at hx;have hb:b=iw z:=by rw [hx];simp [Lc]
  simp only [↓wR,zT,simprocAttr,h];rw [hb];clear h hx hb;refine ed (fun r aA=>r = .gn []/\aA=bh [(zZ z),some (.row [zn z.origin,zs z.aj,zi (db (iw z) 264 (lr z))] 0 2 111),some (.row [.sc (.bool (iw z))] 0 2 4),(zZ z),some (.row [.sc (.int .u16 2)] 0 2 26)]) rfl ?_ ?_
  ·refine cx (T:=[fk,ee,gx,kc,ke,kb,jk,l0,pa,lz]) ok mixed Tryz.func81 rfl zK zK zK zK ?_;unfold Tryz.f81;simp only [↓wR,zT,simprocAttr];rw [bz];refine ⟨fun ⟨bJ,dO⟩=>?_,fun ⟨bJ,dO⟩=>?_⟩
   ·simp only [↓wR,zT,simprocAttr,bJ];rw [cq];refine ⟨fun aJ=>?_,fun aJ=>?_⟩
    ·have hb:(iw z)=false:=by simpa only [zyd] using aJ
     have hv:db (iw z) 264 (lr z)=264:=by unfold db;rw [if_pos ⟨dO,hb⟩]
     simp only [↓wR,zT,simprocAttr,bJ,aJ,jl,jd,iy]
     try rw [hv]
    ·have hb:(iw z)=true:=by simpa only [zyh] using aJ
     have hv:db (iw z) 264 (lr z)=lr z:=by unfold db;rw [if_neg (fun q=>by rw [hb] at q;cases q.2)]
     simp only [↓wR,zT,simprocAttr,bJ,aJ,jl,jd,iy]
     try rw [hv]
   ·have hv:db (iw z) 264 (lr z)=lr z:=by unfold db;rw [if_neg (fun q=>dO q.1)]
    simp only [↓wR,zT,simprocAttr,bJ,jl,jd,iy]
    try rw [hv]
  rintro _ _ ⟨rfl,rfl⟩;rw [show db (iw z) 264 (lr z)=yq z from rfl];simp only [↓wR,zT,simprocAttr,fu];obtain ⟨e0,aZ⟩:∃ e0,yq z=e0:=⟨_,rfl⟩;rw [aZ];refine ed (fun r aA=>r = .gn []/\aA=bh [(zZ z),some (.row [zn z.origin,zs z.aj,zi (fy 265 (jm z) 0 z.aj e0)] 0 2 111),some (.row [.sc (.bool (iw z))] 0 2 4),(zZ z),some (.row [.sc (.int .u16 2)] 0 2 26)]) rfl ?_ ?_
  ·refine cx (T:=[fk,ee,gx,kc,ke,kb,jk,l0,pa,lz]) ok mixed Tryz.func76 rfl zK zK zK zK ?_;unfold Tryz.f76;simp only [↓wR,zT,simprocAttr];refine dq [0,1,2,12,13,14] (fun (x:Nat × Int)=>[.ptr 1 0,zi 265,.fn (.func 82) [.ptr 1 0] [],zs z.aj,zi z.aj.length,zi x.1]) (fun x=>[(zZ z),some (.row [zn z.origin,zs z.aj,zi x.2] 0 2 111),some (.row [.sc (.bool (iw z))] 0 2 4),(zZ z),some (.row [.sc (.int .u16 2)] 0 2 26)]) (fun x=>x.1<=z.aj.length/\fy 265 (jm z) 0 z.aj e0=fy 265 (jm z) x.1 (z.aj.drop x.1) x.2) (fun x=>z.aj.length - x.1) (0,e0) ⟨zzb _,rfl⟩ zS zS ?_;rintro ⟨i,e⟩ ⟨hi,hx⟩;simp only at hi hx;simp only [↓wR,zT,simprocAttr];rw [bg];refine ⟨fun h=>?_,fun h=>?_⟩
   ·obtain ⟨c,hc,aF,hlt⟩:=du (zp h);rw [u5 aF] at hx;have hcs:=hz.set c (zm hc);have aY:(0:Int)<=i/\(i:Int)<=z.aj.length:=zO;simp only [↓wR,zT,simprocAttr,h,hc];rw [dg];refine ⟨fun ⟨h1,e1⟩=>?_,fun ⟨h1,e1⟩=>?_⟩
    ·rw [if_pos e1] at hx;simp only [↓wR,zT,simprocAttr,h1,jl,jd,iy];rw [hx]
    ·rw [if_neg zO] at hx;simp only [↓wR,zT,simprocAttr,h1,hcs,hz,aY,F3];refine ed (fun r aA=>r = .gn []/\aA=bh [(zZ z),some (.row [zn z.origin,zs z.aj,zi (db ((jm z) i c) 265 e)] 0 2 111),some (.row [.sc (.bool (iw z))] 0 2 4),(zZ z),some (.row [.sc (.int .u16 2)] 0 2 26),(zY c)]) rfl ?_ ?_
     ·refine cx (T:=[fk,ee,gx,kc,ke,kb,jk,l0,pa,lz]) ok mixed Tryz.func81 rfl zK zK zK zK ?_;unfold Tryz.f81;simp only [↓wR,zT,simprocAttr,e1];rw [cq];refine ⟨fun aJ=>?_,fun aJ=>?_⟩
      ·have hb:((jm z) i c)=false:=by simpa only [zyd] using aJ
       have hv:db ((jm z) i c) 265 0=265:=by unfold db;rw [if_pos ⟨rfl,hb⟩]
       simp only [↓wR,zT,simprocAttr,aJ,jl,jd,iy]
       try rw [hv]
      ·have hb:((jm z) i c)=true:=by simpa only [zyh] using aJ
       have hv:db ((jm z) i c) 265 0=0:=by unfold db;rw [if_neg (fun q=>by rw [hb] at q;cases q.2)]
       simp only [↓wR,zT,simprocAttr,aJ,jl,jd,iy]
       try rw [hv]
     rintro _ _ ⟨rfl,rfl⟩
     repeat (first|simp only [↓wR,zT,simprocAttr,fu]|simp (disch:=omega) only [zW])
     exact ⟨(i+1,db ((jm z) i c) 265 e),⟨hlt,hx⟩,by simp;omega,zF,zF⟩
   ·rw [eg (zq h)] at hx;simp only [↓wR,zT,simprocAttr,h,jl,jd,iy];rw [hx];rfl
  rintro _ _ ⟨rfl,rfl⟩;rw [<- aZ];clear aZ;simp only [↓wR,zT,simprocAttr,fu];rw [show fy 265 (jm z) 0 z.aj (yq z)=yt z from rfl];obtain ⟨e0,aZ⟩:∃ e0,yt z=e0:=⟨_,rfl⟩;rw [aZ];refine ed (fun r aA=>r = .gn []/\aA=bh [(zZ z),some (.row [zn z.origin,zs z.aj,zi (fy 266 (fun _ s=>jv s) 0 z.aj e0)] 0 2 111),some (.row [.sc (.bool (iw z))] 0 2 4),(zZ z),some (.row [.sc (.int .u16 2)] 0 2 26)]) rfl ?_ ?_
  ·refine cx (T:=[fk,ee,gx,kc,ke,kb,jk,l0,pa,lz]) ok mixed Tryz.func76 rfl zK zK zK zK ?_;unfold Tryz.f76;simp only [↓wR,zT,simprocAttr];refine dq [0,1,2,12,13,14] (fun (x:Nat × Int)=>[.ptr 1 0,zi 266,.sc (.func (.func 83) #[] #[]),zs z.aj,zi z.aj.length,zi x.1]) (fun x=>[(zZ z),some (.row [zn z.origin,zs z.aj,zi x.2] 0 2 111),some (.row [.sc (.bool (iw z))] 0 2 4),(zZ z),some (.row [.sc (.int .u16 2)] 0 2 26)]) (fun x=>x.1<=z.aj.length/\fy 266 (fun _ s=>jv s) 0 z.aj e0=fy 266 (fun _ s=>jv s) x.1 (z.aj.drop x.1) x.2) (fun x=>z.aj.length - x.1) (0,e0) ⟨zzb _,rfl⟩ zS zS ?_;rintro ⟨i,e⟩ ⟨hi,hx⟩;simp only at hi hx;simp only [↓wR,zT,simprocAttr];rw [bg];refine ⟨fun h=>?_,fun h=>?_⟩
   ·obtain ⟨c,hc,aF,hlt⟩:=du (zp h);rw [u5 aF] at hx;have hcs:=hz.set c (zm hc);have aY:(0:Int)<=i/\(i:Int)<=z.aj.length:=zO;simp only [↓wR,zT,simprocAttr,h,hc];rw [dg];refine ⟨fun ⟨h1,e1⟩=>?_,fun ⟨h1,e1⟩=>?_⟩
    ·rw [if_pos e1] at hx;simp only [↓wR,zT,simprocAttr,h1,jl,jd,iy];rw [hx]
    ·rw [if_neg zO] at hx;simp only [↓wR,zT,simprocAttr,h1,hcs,hz,aY,I6];refine ed (fun r aA=>r = .gn []/\aA=bh [(zZ z),some (.row [zn z.origin,zs z.aj,zi (db ((fun _ s=>jv s) i c) 266 e)] 0 2 111),some (.row [.sc (.bool (iw z))] 0 2 4),(zZ z),some (.row [.sc (.int .u16 2)] 0 2 26),(zY c)]) rfl ?_ ?_
     ·refine cx (T:=[fk,ee,gx,kc,ke,kb,jk,l0,pa,lz]) ok mixed Tryz.func81 rfl zK zK zK zK ?_;unfold Tryz.f81;simp only [↓wR,zT,simprocAttr,e1];rw [cq];refine ⟨fun aJ=>?_,fun aJ=>?_⟩
      ·have hb:((fun _ s=>jv s) i c)=false:=by simpa only [zyd] using aJ
       have hv:db ((fun _ s=>jv s) i c) 266 0=266:=by unfold db;rw [if_pos ⟨rfl,hb⟩]
       simp only [↓wR,zT,simprocAttr,aJ,jl,jd,iy]
       try rw [hv]
      ·have hb:((fun _ s=>jv s) i c)=true:=by simpa only [zyh] using aJ
       have hv:db ((fun _ s=>jv s) i c) 266 0=0:=by unfold db;rw [if_neg (fun q=>by rw [hb] at q;cases q.2)]
       simp only [↓wR,zT,simprocAttr,aJ,jl,jd,iy]
       try rw [hv]
     rintro _ _ ⟨rfl,rfl⟩
     repeat (first|simp only [↓wR,zT,simprocAttr,fu]|simp (disch:=omega) only [zW])
     exact ⟨(i+1,db ((fun _ s=>jv s) i c) 266 e),⟨hlt,hx⟩,by simp;omega,zF,zF⟩
   ·rw [eg (zq h)] at hx;simp only [↓wR,zT,simprocAttr,h,jl,jd,iy];rw [hx];rfl
  rintro _ _ ⟨rfl,rfl⟩;rw [<- aZ];clear aZ;simp only [↓wR,zT,simprocAttr,fu];rw [show fy 266 (fun _ s=>jv s) 0 z.aj (yt z)=E0 z from rfl];obtain ⟨e0,aZ⟩:∃ e0,E0 z=e0:=⟨_,rfl⟩;rw [aZ];refine ed (fun r aA=>r = .gn []/\aA=bh [(zZ z),some (.row [zn z.origin,zs z.aj,zi (fy 267 (fun _ s=>lu z s) 0 z.aj e0)] 0 2 111),some (.row [.sc (.bool (iw z))] 0 2 4),(zZ z),some (.row [.sc (.int .u16 2)] 0 2 26)]) rfl ?_ ?_
  ·refine cx (T:=[fk,ee,gx,kc,ke,kb,jk,l0,pa,lz]) ok mixed Tryz.func76 rfl zK zK zK zK ?_;unfold Tryz.f76;simp only [↓wR,zT,simprocAttr];refine dq [0,1,2,12,13,14] (fun (x:Nat × Int)=>[.ptr 1 0,zi 267,.fn (.func 84) [] [.ptr 0 0],zs z.aj,zi z.aj.length,zi x.1]) (fun x=>[(zZ z),some (.row [zn z.origin,zs z.aj,zi x.2] 0 2 111),some (.row [.sc (.bool (iw z))] 0 2 4),(zZ z),some (.row [.sc (.int .u16 2)] 0 2 26)]) (fun x=>x.1<=z.aj.length/\fy 267 (fun _ s=>lu z s) 0 z.aj e0=fy 267 (fun _ s=>lu z s) x.1 (z.aj.drop x.1) x.2) (fun x=>z.aj.length - x.1) (0,e0) ⟨zzb _,rfl⟩ zS zS ?_;rintro ⟨i,e⟩ ⟨hi,hx⟩;simp only at hi hx;simp only [↓wR,zT,simprocAttr];rw [bg];refine ⟨fun h=>?_,fun h=>?_⟩
   ·obtain ⟨c,hc,aF,hlt⟩:=du (zp h);rw [u5 aF] at hx;have hcs:=hz.set c (zm hc);have aY:(0:Int)<=i/\(i:Int)<=z.aj.length:=zO;simp only [↓wR,zT,simprocAttr,h,hc];rw [dg];refine ⟨fun ⟨h1,e1⟩=>?_,fun ⟨h1,e1⟩=>?_⟩
    ·rw [if_pos e1] at hx;simp only [↓wR,zT,simprocAttr,h1,jl,jd,iy];rw [hx]
    ·rw [if_neg zO] at hx;simp only [↓wR,zT,simprocAttr,h1,hcs,hz,aY,Qp];refine ed (fun r aA=>r = .gn []/\aA=bh [(zZ z),some (.row [zn z.origin,zs z.aj,zi (db ((fun _ s=>lu z s) i c) 267 e)] 0 2 111),some (.row [.sc (.bool (iw z))] 0 2 4),(zZ z),some (.row [.sc (.int .u16 2)] 0 2 26),(zY c)]) rfl ?_ ?_
     ·refine cx (T:=[fk,ee,gx,kc,ke,kb,jk,l0,pa,lz]) ok mixed Tryz.func81 rfl zK zK zK zK ?_;unfold Tryz.f81;simp only [↓wR,zT,simprocAttr,e1];rw [cq];refine ⟨fun aJ=>?_,fun aJ=>?_⟩
      ·have hb:((fun _ s=>lu z s) i c)=false:=by simpa only [zyd] using aJ
       have hv:db ((fun _ s=>lu z s) i c) 267 0=267:=by unfold db;rw [if_pos ⟨rfl,hb⟩]
       simp only [↓wR,zT,simprocAttr,aJ,jl,jd,iy]
       try rw [hv]
      ·have hb:((fun _ s=>lu z s) i c)=true:=by simpa only [zyh] using aJ
       have hv:db ((fun _ s=>lu z s) i c) 267 0=0:=by unfold db;rw [if_neg (fun q=>by rw [hb] at q;cases q.2)]
       simp only [↓wR,zT,simprocAttr,aJ,jl,jd,iy]
       try rw [hv]
     rintro _ _ ⟨rfl,rfl⟩
     repeat (first|simp only [↓wR,zT,simprocAttr,fu]|simp (disch:=omega) only [zW])
     exact ⟨(i+1,db ((fun _ s=>lu z s) i c) 267 e),⟨hlt,hx⟩,by simp;omega,zF,zF⟩
   ·rw [eg (zq h)] at hx;simp only [↓wR,zT,simprocAttr,h,jl,jd,iy];rw [hx];rfl
  rintro _ _ ⟨rfl,rfl⟩;rw [<- aZ];clear aZ;simp only [↓wR,zT,simprocAttr,fu];rfl
 ·simp only [↓wR,zT,simprocAttr,hs1];have xV:(decide ((gb z).1=1) && decide ((gb z).2=1))=false:=by rw [zq (show ¬ (gb z).1=1 by omega),Bool.false_and]
  refine ed (fun r aA=>r = .gn []/\aA=bh [(zZ z),some (.row [zn z.origin,zs z.aj,zi (db (decide ((gb z).1=1) && decide ((gb z).2=1)) 263 (o0 z))] 0 2 111)]) rfl ?_ ?_
  ·refine cx (T:=[fk,ee,gx,kc,ke,kb,jk,l0,pa,lz]) ok mixed Tryz.func81 rfl zK zK zK zK ?_;unfold Tryz.f81;simp only [↓wR,zT,simprocAttr];rw [bz];refine ⟨fun ⟨bJ,dO⟩=>?_,fun ⟨bJ,dO⟩=>?_⟩
   ·have hv:db (decide ((gb z).1=1) && decide ((gb z).2=1)) 263 (o0 z)=263:=by unfold db;rw [if_pos ⟨dO,xV⟩]
    simp only [↓wR,zT,simprocAttr,bJ,jl,jd,iy]
    try rw [hv]
   ·have hv:db (decide ((gb z).1=1) && decide ((gb z).2=1)) 263 (o0 z)=o0 z:=by unfold db;rw [if_neg (fun q=>dO q.1)]
    simp only [↓wR,zT,simprocAttr,bJ,jl,jd,iy]
    try rw [hv]
  rintro _ _ ⟨rfl,rfl⟩;rw [show db (decide ((gb z).1=1) && decide ((gb z).2=1)) 263 (o0 z)=lr z from rfl];simp only [↓wR,zT,simprocAttr,fu];refine cx (T:=[]) (ar.nil PP) mixed Tryz.func70 rfl zK zK zK zK ?_;unfold Tryz.f70;simp only [↓wR,zT,simprocAttr];refine ⟨[1,3,6,45],?_⟩;have hib:D4 PP 120=some (Tryz.f120.ntmps,Tryz.f120.body.getD .skip):=zK;simp only [↓wR,zT,simprocAttr,hib];refine ⟨zK,fun l=>?_⟩;unfold Tryz.f120;simp only [↓wR,zT,simprocAttr];refine If [0,2,7,8,9] (fun (x:Nat × Bool)=>[.sc (.func (.yield l) #[] #[]),.ptr 4 0,zs z.aj,zi z.aj.length,zi x.1]) (fun x=>[(zZ z),some (.row [zn z.origin,zs z.aj,zi (lr z)] 0 2 111),some (.row [.sc (.bool (x.2))] 0 2 4),(zZ z),some (.row [.sc (.int .u16 2)] 0 2 26)]) (fun x=>x.1<=z.aj.length/\iw z=(x.2 || Lc z (z.aj.drop x.1))) (fun x=>z.aj.length - x.1) (0,false) ⟨zzb _,by rw [Bool.false_or];rfl⟩ zS zS ?_;rintro ⟨i,b⟩ ⟨hi,hx⟩;simp only at hi hx;simp only [↓wR,zT,simprocAttr];rw [xz];refine ⟨fun h=>?_,fun h=>?_⟩
  ·obtain ⟨c,hc,aF,hlt⟩:=du h;have hcs:=hz.set c (zm hc);rw [agc aF] at hx;simp only [↓wR,zT,simprocAttr,h,hc];rw [xz];refine ⟨fun h2=>?_,fun h2=>?_⟩
   ·have e2:(c.type.toNat:Int)=2:=by simpa using h2
    rw [zp e2,Bool.true_and] at hx;simp only [↓wR,zT,simprocAttr,h2];refine Bj [0,2,7,8,9,17,19] ?_;simp only [↓wR,zT,simprocAttr,B5,oi];cases b with
    |true=>
     repeat (first|simp only [↓wR,zT,simprocAttr]|simp (disch:=omega) only [zW])
     exact ⟨(i+1,true),⟨hlt,by rw [hx];rfl⟩,by simp;omega,zF,zF⟩
    |false=>
     repeat (first|simp only [↓wR,zT,simprocAttr,jx,hcs.owner,hz.origin]|simp (disch:=omega) only [zW])
     exact ⟨(i+1,dm c.owner z.origin),⟨hlt,by rw [hx,Bool.false_or]⟩,by simp;omega,zF,zF⟩
   ·have e2:¬ (c.type.toNat:Int)=2:=by simpa using h2
    rw [zq e2,Bool.false_and,Bool.false_or] at hx
    repeat (first|simp only [↓wR,zT,simprocAttr,h2]|simp (disch:=omega) only [zW])
    exact ⟨(i+1,b),⟨hlt,hx⟩,by simp;omega,zF,zF⟩
  rw [eg h] at hx;have hb:b=iw z:=by rw [hx];simp [Lc]
  simp only [↓wR,zT,simprocAttr,h];rw [hb];clear h hx hb;refine ed (fun r aA=>r = .gn []/\aA=bh [(zZ z),some (.row [zn z.origin,zs z.aj,zi (db (iw z) 264 (lr z))] 0 2 111),some (.row [.sc (.bool (iw z))] 0 2 4),(zZ z),some (.row [.sc (.int .u16 2)] 0 2 26)]) rfl ?_ ?_
  ·refine cx (T:=[fk,ee,gx,kc,ke,kb,jk,l0,pa,lz]) ok mixed Tryz.func81 rfl zK zK zK zK ?_;unfold Tryz.f81;simp only [↓wR,zT,simprocAttr];rw [bz];refine ⟨fun ⟨bJ,dO⟩=>?_,fun ⟨bJ,dO⟩=>?_⟩
   ·simp only [↓wR,zT,simprocAttr,bJ];rw [cq];refine ⟨fun aJ=>?_,fun aJ=>?_⟩
    ·have hb:(iw z)=false:=by simpa only [zyd] using aJ
     have hv:db (iw z) 264 (lr z)=264:=by unfold db;rw [if_pos ⟨dO,hb⟩]
     simp only [↓wR,zT,simprocAttr,bJ,aJ,jl,jd,iy]
     try rw [hv]
    ·have hb:(iw z)=true:=by simpa only [zyh] using aJ
     have hv:db (iw z) 264 (lr z)=lr z:=by unfold db;rw [if_neg (fun q=>by rw [hb] at q;cases q.2)]
     simp only [↓wR,zT,simprocAttr,bJ,aJ,jl,jd,iy]
     try rw [hv]
   ·have hv:db (iw z) 264 (lr z)=lr z:=by unfold db;rw [if_neg (fun q=>dO q.1)]
    simp only [↓wR,zT,simprocAttr,bJ,jl,jd,iy]
    try rw [hv]
  rintro _ _ ⟨rfl,rfl⟩;rw [show db (iw z) 264 (lr z)=yq z from rfl];simp only [↓wR,zT,simprocAttr,fu];obtain ⟨e0,aZ⟩:∃ e0,yq z=e0:=⟨_,rfl⟩;rw [aZ];refine ed (fun r aA=>r = .gn []/\aA=bh [(zZ z),some (.row [zn z.origin,zs z.aj,zi (fy 265 (jm z) 0 z.aj e0)] 0 2 111),some (.row [.sc (.bool (iw z))] 0 2 4),(zZ z),some (.row [.sc (.int .u16 2)] 0 2 26)]) rfl ?_ ?_
  ·refine cx (T:=[fk,ee,gx,kc,ke,kb,jk,l0,pa,lz]) ok mixed Tryz.func76 rfl zK zK zK zK ?_;unfold Tryz.f76;simp only [↓wR,zT,simprocAttr];refine dq [0,1,2,12,13,14] (fun (x:Nat × Int)=>[.ptr 1 0,zi 265,.fn (.func 82) [.ptr 1 0] [],zs z.aj,zi z.aj.length,zi x.1]) (fun x=>[(zZ z),some (.row [zn z.origin,zs z.aj,zi x.2] 0 2 111),some (.row [.sc (.bool (iw z))] 0 2 4),(zZ z),some (.row [.sc (.int .u16 2)] 0 2 26)]) (fun x=>x.1<=z.aj.length/\fy 265 (jm z) 0 z.aj e0=fy 265 (jm z) x.1 (z.aj.drop x.1) x.2) (fun x=>z.aj.length - x.1) (0,e0) ⟨zzb _,rfl⟩ zS zS ?_;rintro ⟨i,e⟩ ⟨hi,hx⟩;simp only at hi hx;simp only [↓wR,zT,simprocAttr];rw [bg];refine ⟨fun h=>?_,fun h=>?_⟩
   ·obtain ⟨c,hc,aF,hlt⟩:=du (zp h);rw [u5 aF] at hx;have hcs:=hz.set c (zm hc);have aY:(0:Int)<=i/\(i:Int)<=z.aj.length:=zO;simp only [↓wR,zT,simprocAttr,h,hc];rw [dg];refine ⟨fun ⟨h1,e1⟩=>?_,fun ⟨h1,e1⟩=>?_⟩
    ·rw [if_pos e1] at hx;simp only [↓wR,zT,simprocAttr,h1,jl,jd,iy];rw [hx]
    ·rw [if_neg zO] at hx;simp only [↓wR,zT,simprocAttr,h1,hcs,hz,aY,F3];refine ed (fun r aA=>r = .gn []/\aA=bh [(zZ z),some (.row [zn z.origin,zs z.aj,zi (db ((jm z) i c) 265 e)] 0 2 111),some (.row [.sc (.bool (iw z))] 0 2 4),(zZ z),some (.row [.sc (.int .u16 2)] 0 2 26),(zY c)]) rfl ?_ ?_
     ·refine cx (T:=[fk,ee,gx,kc,ke,kb,jk,l0,pa,lz]) ok mixed Tryz.func81 rfl zK zK zK zK ?_;unfold Tryz.f81;simp only [↓wR,zT,simprocAttr,e1];rw [cq];refine ⟨fun aJ=>?_,fun aJ=>?_⟩
      ·have hb:((jm z) i c)=false:=by simpa only [zyd] using aJ
       have hv:db ((jm z) i c) 265 0=265:=by unfold db;rw [if_pos ⟨rfl,hb⟩]
       simp only [↓wR,zT,simprocAttr,aJ,jl,jd,iy]
       try rw [hv]
      ·have hb:((jm z) i c)=true:=by simpa only [zyh] using aJ
       have hv:db ((jm z) i c) 265 0=0:=by unfold db;rw [if_neg (fun q=>by rw [hb] at q;cases q.2)]
       simp only [↓wR,zT,simprocAttr,aJ,jl,jd,iy]
       try rw [hv]
     rintro _ _ ⟨rfl,rfl⟩
     repeat (first|simp only [↓wR,zT,simprocAttr,fu]|simp (disch:=omega) only [zW])
     exact ⟨(i+1,db ((jm z) i c) 265 e),⟨hlt,hx⟩,by simp;omega,zF,zF⟩
   ·rw [eg (zq h)] at hx;simp only [↓wR,zT,simprocAttr,h,jl,jd,iy];rw [hx];rfl
  rintro _ _ ⟨rfl,rfl⟩;rw [<- aZ];clear aZ;simp only [↓wR,zT,simprocAttr,fu];rw [show fy 265 (jm z) 0 z.aj (yq z)=yt z from rfl];obtain ⟨e0,aZ⟩:∃ e0,yt z=e0:=⟨_,rfl⟩;rw [aZ];refine ed (fun r aA=>r = .gn []/\aA=bh [(zZ z),some (.row [zn z.origin,zs z.aj,zi (fy 266 (fun _ s=>jv s) 0 z.aj e0)] 0 2 111),some (.row [.sc (.bool (iw z))] 0 2 4),(zZ z),some (.row [.sc (.int .u16 2)] 0 2 26)]) rfl ?_ ?_
  ·refine cx (T:=[fk,ee,gx,kc,ke,kb,jk,l0,pa,lz]) ok mixed Tryz.func76 rfl zK zK zK zK ?_;unfold Tryz.f76;simp only [↓wR,zT,simprocAttr];refine dq [0,1,2,12,13,14] (fun (x:Nat × Int)=>[.ptr 1 0,zi 266,.sc (.func (.func 83) #[] #[]),zs z.aj,zi z.aj.length,zi x.1]) (fun x=>[(zZ z),some (.row [zn z.origin,zs z.aj,zi x.2] 0 2 111),some (.row [.sc (.bool (iw z))] 0 2 4),(zZ z),some (.row [.sc (.int .u16 2)] 0 2 26)]) (fun x=>x.1<=z.aj.length/\fy 266 (fun _ s=>jv s) 0 z.aj e0=fy 266 (fun _ s=>jv s) x.1 (z.aj.drop x.1) x.2) (fun x=>z.aj.length - x.1) (0,e0) ⟨zzb _,rfl⟩ zS zS ?_;rintro ⟨i,e⟩ ⟨hi,hx⟩;simp only at hi hx;simp only [↓wR,zT,simprocAttr];rw [bg];refine ⟨fun h=>?_,fun h=>?_⟩
   ·obtain ⟨c,hc,aF,hlt⟩:=du (zp h);rw [u5 aF] at hx;have hcs:=hz.set c (zm hc);have aY:(0:Int)<=i/\(i:Int)<=z.aj.length:=zO;simp only [↓wR,zT,simprocAttr,h,hc];rw [dg];refine ⟨fun ⟨h1,e1⟩=>?_,fun ⟨h1,e1⟩=>?_⟩
    ·rw [if_pos e1] at hx;simp only [↓wR,zT,simprocAttr,h1,jl,jd,iy];rw [hx]
    ·rw [if_neg zO] at hx;simp only [↓wR,zT,simprocAttr,h1,hcs,hz,aY,I6];refine ed (fun r aA=>r = .gn []/\aA=bh [(zZ z),some (.row [zn z.origin,zs z.aj,zi (db ((fun _ s=>jv s) i c) 266 e)] 0 2 111),some (.row [.sc (.bool (iw z))] 0 2 4),(zZ z),some (.row [.sc (.int .u16 2)] 0 2 26),(zY c)]) rfl ?_ ?_
     ·refine cx (T:=[fk,ee,gx,kc,ke,kb,jk,l0,pa,lz]) ok mixed Tryz.func81 rfl zK zK zK zK ?_;unfold Tryz.f81;simp only [↓wR,zT,simprocAttr,e1];rw [cq];refine ⟨fun aJ=>?_,fun aJ=>?_⟩
      ·have hb:((fun _ s=>jv s) i c)=false:=by simpa only [zyd] using aJ
       have hv:db ((fun _ s=>jv s) i c) 266 0=266:=by unfold db;rw [if_pos ⟨rfl,hb⟩]
       simp only [↓wR,zT,simprocAttr,aJ,jl,jd,iy]
       try rw [hv]
      ·have hb:((fun _ s=>jv s) i c)=true:=by simpa only [zyh] using aJ
       have hv:db ((fun _ s=>jv s) i c) 266 0=0:=by unfold db;rw [if_neg (fun q=>by rw [hb] at q;cases q.2)]
       simp only [↓wR,zT,simprocAttr,aJ,jl,jd,iy]
       try rw [hv]
     rintro _ _ ⟨rfl,rfl⟩
     repeat (first|simp only [↓wR,zT,simprocAttr,fu]|simp (disch:=omega) only [zW])
     exact ⟨(i+1,db ((fun _ s=>jv s) i c) 266 e),⟨hlt,hx⟩,by simp;omega,zF,zF⟩
   ·rw [eg (zq h)] at hx;simp only [↓wR,zT,simprocAttr,h,jl,jd,iy];rw [hx];rfl
  rintro _ _ ⟨rfl,rfl⟩;rw [<- aZ];clear aZ;simp only [↓wR,zT,simprocAttr,fu];rw [show fy 266 (fun _ s=>jv s) 0 z.aj (yt z)=E0 z from rfl];obtain ⟨e0,aZ⟩:∃ e0,E0 z=e0:=⟨_,rfl⟩;rw [aZ];refine ed (fun r aA=>r = .gn []/\aA=bh [(zZ z),some (.row [zn z.origin,zs z.aj,zi (fy 267 (fun _ s=>lu z s) 0 z.aj e0)] 0 2 111),some (.row [.sc (.bool (iw z))] 0 2 4),(zZ z),some (.row [.sc (.int .u16 2)] 0 2 26)]) rfl ?_ ?_
  ·refine cx (T:=[fk,ee,gx,kc,ke,kb,jk,l0,pa,lz]) ok mixed Tryz.func76 rfl zK zK zK zK ?_;unfold Tryz.f76;simp only [↓wR,zT,simprocAttr];refine dq [0,1,2,12,13,14] (fun (x:Nat × Int)=>[.ptr 1 0,zi 267,.fn (.func 84) [] [.ptr 0 0],zs z.aj,zi z.aj.length,zi x.1]) (fun x=>[(zZ z),some (.row [zn z.origin,zs z.aj,zi x.2] 0 2 111),some (.row [.sc (.bool (iw z))] 0 2 4),(zZ z),some (.row [.sc (.int .u16 2)] 0 2 26)]) (fun x=>x.1<=z.aj.length/\fy 267 (fun _ s=>lu z s) 0 z.aj e0=fy 267 (fun _ s=>lu z s) x.1 (z.aj.drop x.1) x.2) (fun x=>z.aj.length - x.1) (0,e0) ⟨zzb _,rfl⟩ zS zS ?_;rintro ⟨i,e⟩ ⟨hi,hx⟩;simp only at hi hx;simp only [↓wR,zT,simprocAttr];rw [bg];refine ⟨fun h=>?_,fun h=>?_⟩
   ·obtain ⟨c,hc,aF,hlt⟩:=du (zp h);rw [u5 aF] at hx;have hcs:=hz.set c (zm hc);have aY:(0:Int)<=i/\(i:Int)<=z.aj.length:=zO;simp only [↓wR,zT,simprocAttr,h,hc];rw [dg];refine ⟨fun ⟨h1,e1⟩=>?_,fun ⟨h1,e1⟩=>?_⟩
    ·rw [if_pos e1] at hx;simp only [↓wR,zT,simprocAttr,h1,jl,jd,iy];rw [hx]
    ·rw [if_neg zO] at hx;simp only [↓wR,zT,simprocAttr,h1,hcs,hz,aY,Qp];refine ed (fun r aA=>r = .gn []/\aA=bh [(zZ z),some (.row [zn z.origin,zs z.aj,zi (db ((fun _ s=>lu z s) i c) 267 e)] 0 2 111),some (.row [.sc (.bool (iw z))] 0 2 4),(zZ z),some (.row [.sc (.int .u16 2)] 0 2 26),(zY c)]) rfl ?_ ?_
     ·refine cx (T:=[fk,ee,gx,kc,ke,kb,jk,l0,pa,lz]) ok mixed Tryz.func81 rfl zK zK zK zK ?_;unfold Tryz.f81;simp only [↓wR,zT,simprocAttr,e1];rw [cq];refine ⟨fun aJ=>?_,fun aJ=>?_⟩
      ·have hb:((fun _ s=>lu z s) i c)=false:=by simpa only [zyd] using aJ
       have hv:db ((fun _ s=>lu z s) i c) 267 0=267:=by unfold db;rw [if_pos ⟨rfl,hb⟩]
       simp only [↓wR,zT,simprocAttr,aJ,jl,jd,iy]
       try rw [hv]
      ·have hb:((fun _ s=>lu z s) i c)=true:=by simpa only [zyh] using aJ
       have hv:db ((fun _ s=>lu z s) i c) 267 0=0:=by unfold db;rw [if_neg (fun q=>by rw [hb] at q;cases q.2)]
       simp only [↓wR,zT,simprocAttr,aJ,jl,jd,iy]
       try rw [hv]
     rintro _ _ ⟨rfl,rfl⟩
     repeat (first|simp only [↓wR,zT,simprocAttr,fu]|simp (disch:=omega) only [zW])
     exact ⟨(i+1,db ((fun _ s=>lu z s) i c) 267 e),⟨hlt,hx⟩,by simp;omega,zF,zF⟩
   ·rw [eg (zq h)] at hx;simp only [↓wR,zT,simprocAttr,h,jl,jd,iy];rw [hx];rfl
  rintro _ _ ⟨rfl,rfl⟩;rw [<- aZ];clear aZ;simp only [↓wR,zT,simprocAttr,fu];rfl
noncomputable def C6 (x:au × Unit):Option AV:=if bj x.1 then some ((r1 (ba .i64)).E true (dy x.1)) else none
theorem Iw (x:au × Unit) (r:AV) (h:C6 x=some r):bf PP 27 ((aC be a0).E x) r:=by obtain ⟨hc,rfl⟩:=zI h;exact aw (ar.cons (aq qy) (ar.cons (aq j3) (ar.cons (aq Ms) (ar.cons (aq Sg) (ar.cons (aq Su) (ar.cons (aq Sn) (ar.cons (aq N7) (ar.cons (aq Ur) (ar.cons (aq aaa) (ar.cons (aq W8) (ar.nil PP))))))))))) Tryz.func27 zK zK zK zL (r1 (ba .i64)) true (dy x.1) (afe x.1 hc)
noncomputable abbrev aim:zE:=(27,true,ct (aC be a0) C6)
end Go.Proofs.YtgencolcibpcaaaGreat
end
section
namespace Go.Proofs.YtgencolcibpcaaaGreat
open Go.Vm
theorem xn {err:Int} (he:err≠0) (p:Nat->az->Bool):∀ (l:List az) (i:Nat) (e:Int),fy err p i l e=0->e=0/\∀ k s,l[k]? = some s->p (i+k) s=true:=by
 intro l
 induction l with
 |nil=>intro i e h;exact ⟨h,fun k s hs=>by simp at hs⟩
 |cons a l ih=>
  intro i e h;rw [fy] at h
  split at h
  ·contradiction
  ·rename_i h0;have h0:e=0:=zO;obtain ⟨h1,h2⟩:=ih (i+1) _ h;refine ⟨h0,fun k s hs=>?_⟩;cases k with
   |zero=>
    simp at hs;subst hs;cases hp:p i a with
    |true=>simp [hp]
    |false=>rw [db,if_pos ⟨h0,hp⟩] at h1;exact (he h1).elim
   |succ k=>
    have:=h2 k s (by simpa using hs)
    rwa [show i+1+k=i+(k+1) from by omega] at this
theorem Um {b:Bool} {err e:Int} (he:err≠0) (h:db b err e=0):e=0/\b=true:=by
 unfold db at h
 split at h
 ·exact (he h).elim
 ·rename_i hn;refine ⟨h,?_⟩;cases b with
  |true=>rfl
  |false=>exact (hn ⟨h,rfl⟩).elim
structure Fo (z:au):Prop where
 first:oh z=0
 aFa:∀ k s,z.aj[k]? = some s->gk z k s=true
 cls:∀ s ∈ z.aj,ju s=true
 inside:∀ s ∈ z.aj,dp s.owner z.origin=true
 aGu:(gb z).1=1/\(gb z).2=1
 BF:iw z=true
 alone:∀ k s,z.aj[k]? = some s->jm z k s=true
 star:∀ s ∈ z.aj,jv s=true
 AA:∀ s ∈ z.aj,lu z s=true
theorem B7 {z:au} (h:dy z=0):Fo z:=by
 unfold dy at h
 split at h
 ·contradiction
 rename_i h0;obtain ⟨h7,p8⟩:=xn (by decide) _ _ _ _ h;obtain ⟨h6,p7⟩:=xn (by decide) _ _ _ _ h7;obtain ⟨h5,p6⟩:=xn (by decide) _ _ _ _ h6;obtain ⟨h4,p5⟩:=Um (by decide) h5;obtain ⟨h3,p4⟩:=Um (by decide) h4;obtain ⟨h2,p3⟩:=xn (by decide) _ _ _ _ h3;obtain ⟨h1,p2⟩:=xn (by decide) _ _ _ _ h2;obtain ⟨_,p1⟩:=xn (by decide) _ _ _ _ h1;have mem:∀ (p:az->Bool),(∀ k s,z.aj[k]? = some s->p s=true)->∀ s ∈ z.aj,p s=true:=fun p hp s hs=>by obtain ⟨k,hk,rfl⟩:=List.getElem_of_mem hs;exact hp k _ (zh hk)
 simp only [zzh,decide_eq_true_eq] at p4;exact ⟨zO,fun k s hs=>by simpa using p1 k s hs,mem _ p2,mem _ p3,p4,p5,fun k s hs=>by simpa using p6 k s hs,mem _ p7,mem _ p8⟩
theorem sr {a b:Name}:dm a b=true↔ek a=ek b:=by simp [dm]
theorem xq {a b:Name}:dp a b=true↔ek b <:+ ek a:=by simp [dp]
theorem aqa {a b:Name} (h:dm a b=true):dp a b=true:=xq.2 (by rw [sr.1 h];exact List.suffix_refl _)
theorem aj0 {a b c:Name} (h1:dp a b=true) (h2:dp b c=true):dp a c=true:=xq.2 ((xq.1 h2).trans (xq.1 h1))
theorem ajs {a a' b:Name} (h:dm a a'=true):dp a b=dp a' b:=by simp only [dp,sr.1 h]
theorem Qt:∀ a:List UInt8,Lib.compareBytes a a=0
 | []=>rfl
 |a::r=>by rw [Lib.compareBytes,if_neg (UInt8.lt_irrefl a),if_neg (UInt8.lt_irrefl a)];exact Qt r
theorem Xy:∀ a b:List UInt8,Lib.compareBytes a b=0->a=b
 | [],[],_=>rfl
 | [],_::_,h=>by cases h
 |_::_,[],h=>by cases h
 |a::r,b::q,h=>by
  rw [Lib.compareBytes] at h
  split at h
  ·cases h
  ·rename_i h1
   split at h
   ·cases h
   ·rename_i h2;rw [UInt8.lt_iff_toNat_lt] at h1 h2;rw [UInt8.toNat_inj.1 (show a.toNat=b.toNat by omega),Xy r q h]
theorem agb:∀ a b c:List UInt8,Lib.compareBytes a b<0->Lib.compareBytes b c<0->Lib.compareBytes a c<0
 |_,[],[],_,h=>by cases h
 |_,_::_,[],_,h=>by cases h
 | [],_,_::_,_,_=>by show (-1:Int)<0;decide
 |_::_,[],_::_,h,_=>by cases h
 |a::r,b::q,c::p,h1,h2=>by
  have ih:=agb r q p;rw [Lib.compareBytes] at h1 h2 ⊢;simp only [UInt8.lt_iff_toNat_lt] at h1 h2 ⊢
  split at h1
  ·split at h2
   ·rw [if_pos zO];decide
   ·split at h2
    ·cases h2
    ·rw [if_pos zO];decide
  ·split at h1
   ·cases h1
   ·split at h2
    ·rw [if_pos zO];decide
    ·split at h2
     ·cases h2
     ·rw [if_neg zO,if_neg zO];exact ih h1 h2
theorem avd (a:ByteArray):v7 a a=0:=Qt _
theorem abf {a b:ByteArray} (h:v7 a b=0):a=b:=by have:=Xy _ _ h;obtain ⟨⟨a⟩⟩:=a;obtain ⟨⟨b⟩⟩:=b;simp only at this;rw [this]
noncomputable def tr:List ByteArray->List ByteArray->Int
 | [],[]=>0
 | [],_::_=>-1
 |_::_,[]=>1
 |a::r,b::q=>if a=b then tr r q else v7 a b
theorem aao:∀ r q:List ByteArray,tr r q=0↔r=q
 | [],[]=>by simp [tr]
 | [],_::_=>by simp [tr]
 |_::_,[]=>by simp [tr]
 |a::r,b::q=>by
  rw [tr]
  split
  ·rename_i h;rw [aao r q,h];simp
  ·rename_i h;constructor
   ·intro e;exact (h (abf e)).elim
   ·intro e;exact (h (List.cons.inj e).1).elim
theorem Vf:∀ r q p:List ByteArray,tr r q<0->tr q p<0->tr r p<0
 |_,[],[],_,h=>by rw [tr] at h;cases h
 |_,_::_,[],_,h=>by rw [tr] at h;cases h
 | [],_,_::_,_,_=>by rw [tr];decide
 |_::_,[],_::_,h,_=>by rw [tr] at h;cases h
 |a::r,b::q,c::p,h1,h2=>by
  have ih:=Vf r q p;rw [tr] at h1 h2 ⊢;by_cases e1:a=b
  ·subst e1;rw [if_pos rfl] at h1;by_cases e2:a=c
   ·rw [if_pos e2] at h2 ⊢;exact ih h1 h2
   ·rw [if_neg e2] at h2 ⊢;exact h2
  ·rw [if_neg e1] at h1;by_cases e2:b=c
   ·subst e2;rw [if_neg e1];exact h1
   ·rw [if_neg e2] at h2;have h3:v7 a c<0:=agb _ _ _ h1 h2;rw [if_neg (fun e=>by rw [e,avd] at h3;cases h3)];exact h3
theorem ais:∀ r q:List ByteArray,(if fg r q=r.length/\fg r q=q.length then (0:Int) else if fg r q=r.length then -1 else if fg r q=q.length then 1 else
 match r[fg r q]?,q[fg r q]? with|some x,some y=>v7 (fold x) (fold y)|_,_=>0)=tr (r.map fold) (q.map fold)
 | [],[]=>by simp [fg,tr]
 | [],_::_=>by simp [fg,tr]
 |_::_,[]=>by simp [fg,tr]
 |a::r,b::q=>by
  have ih:=ais r q;rw [List.map_cons,List.map_cons,tr];by_cases e:fold a=fold b
  ·rw [if_pos e,<- ih];have hc:fg (a::r) (b::q)=fg r q+1:=by rw [fg,if_pos e]
   simp only [hc,List.length_cons,Nat.add_right_cancel_iff,List.getElem?_cons_succ]
  ·rw [if_neg e];have hc:fg (a::r) (b::q)=0:=by rw [fg,if_neg e]
   simp only [hc,List.length_cons,List.getElem?_cons_zero];rw [if_neg zO,if_neg zO,if_neg zO]
theorem Ke (a b:Name):tm a b=tr (ek a).reverse (ek b).reverse:=by
 have h:=ais a.reverse b.reverse;rw [List.map_reverse,List.map_reverse,List.length_reverse,List.length_reverse] at h;unfold tm;change _=tr (a.map fold).reverse (b.map fold).reverse;rw [<- h];have hk:common a b=fg a.reverse b.reverse:=rfl;rw [hk];by_cases h1:fg a.reverse b.reverse=a.length/\fg a.reverse b.reverse=b.length
 ·rw [if_pos h1,if_pos h1]
 rw [if_neg h1,if_neg h1];by_cases h2:fg a.reverse b.reverse=a.length
 ·rw [if_pos h2,if_pos h2]
 rw [if_neg h2,if_neg h2];by_cases h3:fg a.reverse b.reverse=b.length
 ·rw [if_pos h3,if_pos h3]
 rw [if_neg h3,if_neg h3];have l1:=Bt a.reverse b.reverse;have l2:=Fj a.reverse b.reverse;rw [List.length_reverse] at l1 l2;unfold adr;rw [List.getElem?_reverse zO,List.getElem?_reverse zO]
 try rfl
theorem Hg {a b:Name}:tm a b=0↔dm a b=true:=by
 rw [Ke,aao,sr];constructor
 ·intro h;have:=congrArg List.reverse h;simpa using this
 ·intro h;rw [h]
theorem aq6 {a b c:Name} (h:dm b c=true):tm a b=tm a c:=by rw [Ke,Ke,sr.1 h]
theorem alc {a b c:Name} (h:dm a b=true):tm a c=tm b c:=by rw [Ke,Ke,sr.1 h]
theorem apl {a b c:Name} (h1:tm a b<0) (h2:tm b c<0):tm a c<0:=by rw [Ke] at *;exact Vf _ _ _ h1 h2
theorem amk {a b:UInt16}:Ln a b<0↔a.toNat<b.toNat:=by
 unfold Ln
 split
 ·constructor<;>intro<;>omega
 ·split<;>constructor<;>intro<;>omega
theorem Ij {a b:az}:nr a b<0↔tm a.owner b.owner<0\/(dm a.owner b.owner=true/\a.type.toNat<b.type.toNat):=by
 unfold nr;rw [Hx];by_cases h:tm a.owner b.owner=0
 ·rw [if_neg (fun q=>q h),Hx,<- Hg];by_cases h2:Ln a.type b.type=0
  ·rw [if_neg (fun q=>q h2),Hx,<- amk,h,h2];simp
  ·rw [if_pos h2,amk,h];simp
 ·rw [if_pos h,<- Hg];simp [h]
theorem aoc {a b c:az} (h1:nr a b<0) (h2:nr b c<0):nr a c<0:=by
 rw [Ij] at *;rcases h1 with h1|⟨h1,t1⟩<;>rcases h2 with h2|⟨h2,t2⟩
 ·exact .inl (apl h1 h2)
 ·exact .inl (by rw [<- aq6 h2];exact h1)
 ·exact .inl (by rw [alc h1];exact h2)
 ·exact .inr ⟨sr.2 ((sr.1 h1).trans (sr.1 h2)),zO⟩
def aup (a b:az):Prop:=¬ (dm a.owner b.owner=true/\a.type=b.type)
theorem ax9 {a b:az} (h:nr a b<0):aup a b:=fun ⟨h1,h2⟩=>by
 rcases Ij.1 h with h3|⟨_,h3⟩
 ·rw [Hg.2 h1] at h3;omega
 ·rw [h2] at h3;omega
theorem Rr {z:au} (hg:Fo z):z.aj.Pairwise fun a b=>nr a b<0:=by
 rw [List.pairwise_iff_getElem];have step:∀ (i:Nat) (h:i+1<z.aj.length),nr z.aj[i] z.aj[i+1]<0:=fun i h=>by have:=hg.aFa (i+1) z.aj[i+1] (zh h);unfold gk at this;simp only [zh (show i<z.aj.length by omega),zzh,decide_eq_true_eq] at this;omega
 intro i j hi hj dI
 induction j with
 |zero=>omega
 |succ j ih=>
  by_cases e:i=j
  ·subst e;exact step i hj
  ·exact aoc (ih zO zO) (step j hj)
theorem aro {z:au} (hg:Fo z):z.aj.Pairwise aup:=(Rr hg).imp ax9
end Go.Proofs.YtgencolcibpcaaaGreat
end
namespace Go.Vm
def aDf {α:Type} (lt : α -> α->Bool) (x : α):List α->List α
 | []=>[x]
 |y::l=>bif lt x y then x::y::l else y::aDf lt x l
def aph {α:Type} (lt : α -> α->Bool):List α->List α:=List.foldl (fun acc x=>aDf lt x acc) []
def sv {α:Type} (lt : α -> α->Bool) (k:Nat) (l:List α):List α:=
 if h:l.length<=k\/k=0 then aph lt l else aph lt (l.take k)++sv lt k (l.drop k)
termination_by l.length
decreasing_by simp at *;omega
theorem abj {α:Type} {l:List α} {i:Nat} {c : α} (h:l[i]? = some c):l.take (i+1)=l.take i++[c]:=by rw [List.take_add_one,h];rfl
end Go.Vm
section
namespace Go.Proofs.YtgencolcibpcaaaGreat
open Go.Vm
theorem agt (s:ByteArray):wl PP [] 0 (Tryz.f124.body.getD .skip) (c8 PP Tryz.f124.results.toList (fun r st=>(r1 (ba .i64)).get true st.h r=some (i7 s))) (cg 0 [ah.val false s]) (bh []):=by
 unfold Tryz.f124;simp only [↓wR,zT,simprocAttr];unfold i7;rw [bg];refine ⟨fun h=>?_,fun h=>?_⟩
 ·rw [if_pos (.inl zO)];simp only [↓wR,zT,simprocAttr,h]
 ·simp only [↓wR,zT,simprocAttr,h];rw [bg];refine ⟨fun h2=>?_,fun h2=>?_⟩
  ·rw [if_pos (.inr zO)];simp only [↓wR,zT,simprocAttr,h2]
  ·rw [if_neg zO];simp only [↓wR,zT,simprocAttr,h2]
noncomputable def Fl (x:ByteArray × Unit):Option AV:=some ((r1 (ba .i64)).E true (i7 x.1))
theorem Za (x:ByteArray × Unit) (r:AV) (h:Fl x=some r):bf PP 124 ((aC ah a0).E x) r:=by cases h;exact aw (ar.nil PP) Tryz.func124 zK zK zK zL (r1 (ba .i64)) true (i7 x.1) (agt x.1)
noncomputable abbrev ase:zE:=(124,true,ct (aC ah a0) Fl)
theorem aEm {c:UInt8} (h1:(65:Int)<=c.toNat) (h2:(c.toNat:Int)<=90):IntKind.u8.wrap ((c.toNat:Int)+32)=((low c).toNat:Int):=by
 have a1 : 65<=c:=by rw [UInt8.le_iff_toNat_le];simp;omega
 have a2:c<=90:=by rw [UInt8.le_iff_toNat_le];simp;omega
 have bG:low c=c+32:=by simp [low,a1,a2]
 rw [bG];simp [IntKind.wrap,IntKind.bits,IntKind.signed,UInt8.toNat_add]
theorem avx {c:UInt8} (h:¬ ((65:Int)<=c.toNat/\(c.toNat:Int)<=90)):low c=c:=by
 have:¬ (65<=c/\c<=90):=fun q=>h ⟨by have:=UInt8.le_iff_toNat_le.1 q.1;simp at this;omega,by have:=UInt8.le_iff_toNat_le.1 q.2;simp at this;omega⟩
 simp [low,this]
theorem alf (s:ByteArray) (hs:s.size<=16777216):wl PP [] 0 (Tryz.f181.body.getD .skip) (c8 PP Tryz.f181.results.toList (fun r st=>(r1 ah).get true st.h r=some (fold s))) (cg 0 [ah.val false s]) (bh []):=by
 have hl:s.data.toList.length=s.size:=by simp
 obtain ⟨F,hF⟩:∃ F,F=s.data.toList.map low:=⟨_,rfl⟩;have AU:F.length=s.size:=by rw [hF,zzo,hl]
 have dX:fold s=⟨F.toArray⟩:=by unfold fold;rw [hF]
 rw [dX];unfold Tryz.f181;simp only [↓wR,zT,simprocAttr];refine fm [0,4,3] (fun (i:Nat)=>[.sc (.string s),zi i,.sl 0 0 i 1]) (fun i=>[some (.row ((F.take i).map (bq.val false)) 0 0 5)]) (fun i=>i<=s.size) (fun i=>s.size - i) 0 (zzb _) zX ?_;intro i hi;simp only [↓wR,zT,simprocAttr];rw [bg];refine ⟨fun h=>?_,fun h=>?_⟩
 ·have hlt:i<s.size:=zO;obtain ⟨c,hc⟩:∃ c,s.data.toList[i]? = some c:=⟨_,zh zO⟩;have xH:F[i]? = some (low c):=by rw [hF,zzj,hc];rfl
  have bM:=abj xH;have dB:(F.take i).length=i:=by rw [zzl];omega
  have aD:i+1<=140737488355328:=zO
  repeat (first|simp only [↓wR,zT,simprocAttr,h,hc]|simp (disch:=omega) only [zW])
  by_cases h1:(65:Int)<=c.toNat
  ·by_cases h2:(c.toNat:Int)<=90
   ·have d1:decide ((c.toNat:Int) ≥ 65)=true:=zp h1;have d2:decide ((c.toNat:Int)<=90)=true:=zp h2;have hw:=aEm h1 h2
    repeat (first|simp only [↓wR,zT,simprocAttr,d1,d2,hw,dB,aD]|simp (disch:=omega) only [zW])
    refine ⟨i+1,hlt,zO,zF,?_⟩;rw [bM,zzw];rfl
   ·have d1:decide ((c.toNat:Int) ≥ 65)=true:=zp h1;have d2:decide ((c.toNat:Int)<=90)=false:=zq h2;have hw:low c=c:=avx (fun q=>h2 q.2)
    repeat (first|simp only [↓wR,zT,simprocAttr,d1,d2,dB,aD]|simp (disch:=omega) only [zW])
    refine ⟨i+1,hlt,zO,zF,?_⟩;rw [bM,zzw,hw];rfl
  ·have d1:decide ((c.toNat:Int) ≥ 65)=false:=zq h1;have hw:low c=c:=avx (fun q=>h1 q.1)
   repeat (first|simp only [↓wR,zT,simprocAttr,d1,dB,aD]|simp (disch:=omega) only [zW])
   refine ⟨i+1,hlt,zO,zF,?_⟩;rw [bM,zzw,hw];rfl
 ·have hin:F.take i=F:=zzp zO;have qW:i=F.length:=zO;rw [hin,qW];simp only [↓wR,zT,simprocAttr,h]
noncomputable def wq (x:ByteArray × Unit):Option AV:=if x.1.size<=16777216 then some ((r1 ah).E true (fold x.1)) else none
theorem Lz (x:ByteArray × Unit) (r:AV) (h:wq x=some r):bf PP 181 ((aC ah a0).E x) r:=by obtain ⟨hc,rfl⟩:=zI h;exact aw (ar.nil PP) Tryz.func181 zK zK zK zL (r1 ah) true (fold x.1) (alf x.1 hc)
noncomputable abbrev afw:zE:=(181,true,ct (aC ah a0) wq)
theorem alw {A B:List UInt8} {i:Nat} (h:i=A.length\/i=B.length) (ha:i<=A.length) (hb:i<=B.length):Lib.compareBytes (A.drop i) (B.drop i)=if A.length<B.length then -1 else if A.length > B.length then 1 else 0:=by
 rcases Nat.lt_trichotomy A.length B.length with q|q|q
 ·have h1:A.drop i=[]:=zzx zO;rw [h1,if_pos q];cases h2:B.drop i with
  |nil=>have:=List.drop_eq_nil_iff.1 h2;omega
  |cons y r=>rfl
 ·have h1:A.drop i=[]:=zzx zO;have h2:B.drop i=[]:=zzx zO;rw [h1,h2,if_neg zO,if_neg zO];rfl
 ·have h1:B.drop i=[]:=zzx zO;rw [h1,if_neg zO,if_pos q];cases h2:A.drop i with
  |nil=>have:=List.drop_eq_nil_iff.1 h2;omega
  |cons y r=>rfl
theorem X2 (a b:ByteArray) (ha:a.size<=16777216) (hb:b.size<=16777216):wl PP [afw] 0 (Tryz.f156.body.getD .skip) (c8 PP Tryz.f156.results.toList (fun r st=>(r1 (ba .i64)).get true st.h r=some (v7 (fold a) (fold b)))) (cg 0 [ah.val false a,ah.val false b]) (bh []):=by
 have hq:∀ a b c d,ga a b c=d->ga a b c=d:=fun _ _ _ _ h=>h
 obtain ⟨A,hA⟩:∃ A,A=fold a:=⟨_,rfl⟩;obtain ⟨B,hB⟩:∃ B,B=fold b:=⟨_,rfl⟩;have kC:A.data.toList.length=A.size:=by simp
 have qR:B.data.toList.length=B.size:=by simp
 have sa:A.size<=16777216:=by rw [hA,H8];exact ha
 have sb:B.size<=16777216:=by rw [hB,H8];exact hb
 rw [<- hA,<- hB];unfold v7;unfold Tryz.f156;simp only [↓wR,zT,simprocAttr,wq,ha,hb,<- hA,<- hB];refine dq [5,6,7] (fun (i:Nat)=>[.sc (.string A),.sc (.string B),zi i]) (fun _=>[]) (fun i=>i<=A.size/\i<=B.size/\Lib.compareBytes A.data.toList B.data.toList=Lib.compareBytes (A.data.toList.drop i) (B.data.toList.drop i)) (fun i=>A.size - i) 0 ⟨zzb _,zzb _,rfl⟩ zS zS ?_;rintro i ⟨hi,hj,hv⟩;simp only [↓wR,zT,simprocAttr];rw [bg];refine ⟨fun h1=>?_,fun h1=>?_⟩
 ·simp only [↓wR,zT,simprocAttr,h1];rw [bg];refine ⟨fun h2=>?_,fun h2=>?_⟩
  ·obtain ⟨x,hx⟩:∃ x,A.data.toList[i]? = some x:=⟨_,zh zO⟩;obtain ⟨y,hy⟩:∃ y,B.data.toList[i]? = some y:=⟨_,zh zO⟩;have iV:A.data.toList.drop i=x::A.data.toList.drop (i+1):=by
    obtain ⟨k,rfl⟩:=zg.1 hx;exact zzs k
   have xR:B.data.toList.drop i=y::B.data.toList.drop (i+1):=by obtain ⟨k,rfl⟩:=zg.1 hy;exact zzs k
   rw [iV,xR,Lib.compareBytes] at hv;simp only [UInt8.lt_iff_toNat_lt] at hv;simp only [↓wR,zT,simprocAttr,h2];refine ⟨zK,.inl ?_⟩;simp only [↓wR,zT,simprocAttr,hx,hy];refine ⟨by apply hq;kernel_rfl,?_⟩;rw [bg];refine ⟨fun h3=>?_,fun h3=>?_⟩
   ·rw [if_pos zO] at hv;simp only [↓wR,zT,simprocAttr,h3,hv]
   ·rw [if_neg zO] at hv;simp only [↓wR,zT,simprocAttr,h3];refine ⟨zK,.inl ?_⟩;simp only [↓wR,zT,simprocAttr,hx,hy];refine ⟨by apply hq;kernel_rfl,?_⟩;rw [bg];refine ⟨fun h4=>?_,fun h4=>?_⟩
    ·rw [if_pos zO] at hv;simp only [↓wR,zT,simprocAttr,h4,hv]
    ·rw [if_neg zO] at hv
     repeat (first|simp only [↓wR,zT,simprocAttr,h4]|simp (disch:=omega) only [zW])
     exact ⟨i+1,⟨zO,zO,hv⟩,zO,zF⟩
  ·have he:=alw (A:=A.data.toList) (B:=B.data.toList) (i:=i) zO zO zO;rw [hv,he,kC,qR];simp only [↓wR,zT,simprocAttr,h2];rw [bg];refine ⟨fun h5=>?_,fun h5=>?_⟩
   ·rw [if_pos zO];simp only [↓wR,zT,simprocAttr,h5]
   ·rw [if_neg zO];simp only [↓wR,zT,simprocAttr,h5];rw [bg];refine ⟨fun h6=>?_,fun h6=>?_⟩
    ·rw [if_pos zO];simp only [↓wR,zT,simprocAttr,h6]
    ·rw [if_neg zO];simp only [↓wR,zT,simprocAttr,h6]
 ·have he:=alw (A:=A.data.toList) (B:=B.data.toList) (i:=i) zO zO zO;rw [hv,he,kC,qR];simp only [↓wR,zT,simprocAttr,h1];rw [bg];refine ⟨fun h5=>?_,fun h5=>?_⟩
  ·rw [if_pos zO];simp only [↓wR,zT,simprocAttr,h5]
  ·rw [if_neg zO];simp only [↓wR,zT,simprocAttr,h5];rw [bg];refine ⟨fun h6=>?_,fun h6=>?_⟩
   ·rw [if_pos zO];simp only [↓wR,zT,simprocAttr,h6]
   ·rw [if_neg zO];simp only [↓wR,zT,simprocAttr,h6]
noncomputable def rr (x:ByteArray × ByteArray × Unit):Option AV:=if x.1.size<=16777216/\x.2.1.size<=16777216 then some ((r1 (ba .i64)).E true (v7 (fold x.1) (fold x.2.1))) else none
theorem Gk (x:ByteArray × ByteArray × Unit) (r:AV) (h:rr x=some r):bf PP 156 ((aC ah (aC ah a0)).E x) r:=by obtain ⟨hc,rfl⟩:=zI h;exact aw (ar.cons (aq Lz) (ar.nil PP)) Tryz.func156 zK zK zK zL (r1 (ba .i64)) true (v7 (fold x.1) (fold x.2.1)) (X2 x.1 x.2.1 hc.1 hc.2)
noncomputable abbrev Sy:zE:=(156,true,ct (aC ah (aC ah a0)) rr)
theorem aws (n:Name) (hn:bp n<17592186044416):wl PP [] 0 (Tryz.f125.body.getD .skip) (c8 PP Tryz.f125.results.toList (fun r st=>(r1 (ba .i64)).get true st.h r=some (bp n:Int))) (cg 0 [ak.val false n]) (bh []):=by
 unfold Tryz.f125;simp only [bw];simp only [↓wR,zT,simprocAttr];refine dq [0,3,4] (fun (i:Nat)=>[zn n,zi (bp (n.take i)),zi i]) (fun _=>[]) (fun i=>i<=n.length/\bp (n.take i)<=bp n/\i<bp (n.take i)) (fun i=>n.length - i) 0 ⟨zzb _,(ja n 0).1,by simp [bp]⟩ zS zS ?_;rintro i ⟨hi,hle,qZ⟩;simp only [↓wR,zT,simprocAttr];rw [bg];refine ⟨fun h=>?_,fun h=>?_⟩
 ·obtain ⟨c,hc,aF,hlt⟩:=du (zp h);have bM:=Fc n i c hc;have qP:=(ja n (i+1)).1
  repeat (first|simp only [↓wR,zT,simprocAttr,h,hc]|simp (disch:=omega) only [zW])
  refine ⟨i+1,⟨hlt,qP,zO⟩,zO,?_⟩;rw [bM];exact zF
 ·have hin:n.take i=n:=zzp zO;rw [hin];simp only [↓wR,zT,simprocAttr,h]
noncomputable def Dh (x:Name × Unit):Option AV:=if bp x.1<17592186044416 then some ((r1 (ba .i64)).E true ((bp x.1:Int))) else none
theorem S5 (x:Name × Unit) (r:AV) (h:Dh x=some r):bf PP 125 ((aC ak a0).E x) r:=by obtain ⟨hc,rfl⟩:=zI h;exact aw (ar.nil PP) Tryz.func125 zK zK zK zL (r1 (ba .i64)) true ((bp x.1:Int)) (aws x.1 hc)
noncomputable abbrev asw:zE:=(125,true,ct (aC ak a0) Dh)
theorem avs (n:Name) (hn:bp n<17592186044416):wl PP [ase,asw] 0 (Tryz.f85.body.getD .skip) (c8 PP Tryz.f85.results.toList (fun r st=>(r1 (ba .i64)).get true st.h r=some (dk n))) (cg 0 [ak.val false n]) (bh []):=by
 have hlen:n.length<bp n:=(ja n 0).2;unfold Tryz.f85;simp only [bw];simp only [↓wR,zT,simprocAttr];refine dq [0,3] (fun (i:Nat)=>[zn n,zi i]) (fun _=>[]) (fun i=>i<=n.length/\sj (n.take i)=false) (fun i=>n.length - i) 0 ⟨zzb _,rfl⟩ zS zS ?_;rintro i ⟨hi,hb⟩;simp only [↓wR,zT,simprocAttr];rw [bg];refine ⟨fun h=>?_,fun h=>?_⟩
 ·obtain ⟨c,hc,aF,hlt⟩:=du (zp h)
  repeat (first|simp only [↓wR,zT,simprocAttr,h,hc,Fl]|simp (disch:=omega) only [zW])
  rw [dg];refine ⟨fun ⟨h2,e2⟩=>?_,fun ⟨h2,e2⟩=>?_⟩
  ·have cH:=O7 n i c hc e2;have hne:i7 c=4:=by
    unfold i7 at e2 ⊢
    split at e2
    ·rename_i q;rw [if_pos q]
    ·exact absurd rfl e2
   have hv:dk n=4:=by unfold dk;rw [if_pos cH]
   simp only [↓wR,zT,simprocAttr,h2,hv,hne]
  ·repeat (first|simp only [↓wR,zT,simprocAttr,h2]|simp (disch:=omega) only [zW])
   refine ⟨i+1,⟨hlt,?_⟩,zO,zF⟩;rw [O1 n i c hc,hb];simpa using e2
 ·have hin:n.take i=n:=zzp zO;rw [hin] at hb;simp only [↓wR,zT,simprocAttr,h,Dh,hn];rw [bg];refine ⟨fun h3=>?_,fun h3=>?_⟩
  ·have hv:dk n=5:=by unfold dk;rw [hb,if_neg (by simp),if_pos zO]
   simp only [↓wR,zT,simprocAttr,h3,hv]
  ·have hv:dk n=0:=by unfold dk;rw [hb,if_neg (by simp),if_neg zO]
   simp only [↓wR,zT,simprocAttr,h3,hv]
noncomputable def xk (x:Name × Unit):Option AV:=if bp x.1<17592186044416 then some ((r1 (ba .i64)).E true (dk x.1)) else none
theorem yn (x:Name × Unit) (r:AV) (h:xk x=some r):bf PP 85 ((aC ak a0).E x) r:=by obtain ⟨hc,rfl⟩:=zI h;exact aw (ar.cons (aq Za) (ar.cons (aq S5) (ar.nil PP))) Tryz.func85 zK zK zK zL (r1 (ba .i64)) true (dk x.1) (avs x.1 hc)
noncomputable abbrev Pp:zE:=(85,true,ct (aC ak a0) xk)
theorem ahw (l:List ByteArray):fg [] l=0:=by cases l<;>rfl
theorem aqi (a b:Name) (ha:ay a) (hb:ay b):wl PP [Sy] 0 (Tryz.f113.body.getD .skip) (c8 PP Tryz.f113.results.toList (fun r st=>(r1 (ba .i64)).get true st.h r=some (common a b:Int))) (cg 0 [ak.val false a,ak.val false b]) (bh []):=by
 have hq:∀ a b c d,ga a b c=d->ga a b c=d:=fun _ _ _ _ h=>h
 have la:=ha.lt;have lb:=hb.lt;unfold Tryz.f113;simp only [bw];simp only [↓wR,zT,simprocAttr];refine dq [0,1,5] (fun (x:Nat)=>[zn a,zn b,zi x]) (fun _=>[]) (fun x=>x<=a.length/\x<=b.length/\common a b=x+fg (a.reverse.drop x) (b.reverse.drop x)) (fun x=>a.length - x) 0 ⟨zzb _,zzb _,by simp [common]⟩ zS zS ?_;rintro x ⟨hx,hx2,hR⟩;simp only [↓wR,zT,simprocAttr];refine ⟨zK,.inl ?_⟩;rw [bg];refine ⟨fun h1=>?_,fun h1=>?_⟩
 ·simp only [↓wR,zT,simprocAttr,h1];rw [bg];refine ⟨fun h2=>?_,fun h2=>?_⟩
  ·obtain ⟨c,hc⟩:∃ c,a[a.length - 1 - x]? = some c:=⟨_,zh zO⟩;obtain ⟨d,hd⟩:∃ d,b[b.length - 1 - x]? = some d:=⟨_,zh zO⟩;have e1:((a.length:Int) - 1 - x).toNat=a.length - 1 - x:=zO;have e2:(0:Int)<=(a.length:Int) - 1 - x:=zO;have e4:((b.length:Int) - 1 - x).toNat=b.length - 1 - x:=zO;have e5:(0:Int)<=(b.length:Int) - 1 - x:=zO;rw [K5 zO hc,K5 zO hd,fg] at hR
   repeat (first|simp only [↓wR,zT,simprocAttr,h2,e1,e2,e4,e5,hc,hd,rr,ha.label c (zm hc),hb.label d (zm hd)]|simp (disch:=omega) only [zW])
   refine ⟨by apply hq;kernel_rfl,?_⟩;rw [bz];refine ⟨fun ⟨h3,e3⟩=>?_,fun ⟨h3,e3⟩=>?_⟩
   ·have h4:fold c=fold d:=abf e3;rw [if_pos h4] at hR
    repeat (first|simp only [↓wR,zT,simprocAttr,h3]|simp (disch:=omega) only [zW])
    exact ⟨x+1,⟨zO,zO,zO⟩,zO,zF⟩
   ·have h4:¬ fold c=fold d:=fun q=>e3 (by rw [q];unfold v7;exact Qt _)
    rw [if_neg h4] at hR
    repeat (first|simp only [↓wR,zT,simprocAttr,h3]|simp (disch:=omega) only [zW])
    rw [hR,Nat.add_zero]
  ·have h5:b.reverse.drop x=[]:=zzx (by simp;omega);rw [h5,Sp] at hR
   repeat (first|simp only [↓wR,zT,simprocAttr,h2]|simp (disch:=omega) only [zW])
   refine ⟨by apply hq;kernel_rfl,?_⟩;rw [hR,Nat.add_zero]
 ·have h5:a.reverse.drop x=[]:=zzx (by simp;omega);rw [h5,ahw] at hR
  repeat (first|simp only [↓wR,zT,simprocAttr,h1]|simp (disch:=omega) only [zW])
  refine ⟨by apply hq;kernel_rfl,?_⟩;rw [hR,Nat.add_zero]
noncomputable def xd (x:Name × Name × Unit):Option AV:=if ay x.1/\ay x.2.1 then some ((r1 (ba .i64)).E true ((common x.1 x.2.1:Int))) else none
theorem Gy (x:Name × Name × Unit) (r:AV) (h:xd x=some r):bf PP 113 ((aC ak (aC ak a0)).E x) r:=by obtain ⟨hc,rfl⟩:=zI h;exact aw (ar.cons (aq Gk) (ar.nil PP)) Tryz.func113 zK zK zK zL (r1 (ba .i64)) true ((common x.1 x.2.1:Int)) (aqi x.1 x.2.1 hc.1 hc.2)
noncomputable abbrev X7:zE:=(113,true,ct (aC ak (aC ak a0)) xd)
theorem aun (n top:Name) (hn:ay n) (ht:ay top):wl PP [X7] 0 (Tryz.f74.body.getD .skip) (c8 PP Tryz.f74.results.toList (fun r st=>(r1 bk).get true st.h r=some (dp n top))) (cg 0 [ak.val false n,ak.val false top]) (bh []):=by
 unfold Tryz.f74;simp only [bw];simp only [↓wR,zT,simprocAttr,xd,hn,ht]
 congr 1
 unfold dp;have:=Cc n top;rw [zyb];simp [<- this];omega
noncomputable def vz (x:Name × Name × Unit):Option AV:=if ay x.1/\ay x.2.1 then some ((r1 bk).E true (dp x.1 x.2.1)) else none
theorem yr (x:Name × Name × Unit) (r:AV) (h:vz x=some r):bf PP 74 ((aC ak (aC ak a0)).E x) r:=by obtain ⟨hc,rfl⟩:=zI h;exact aw (ar.cons (aq Gy) (ar.nil PP)) Tryz.func74 zK zK zK zL (r1 bk) true (dp x.1 x.2.1) (aun x.1 x.2.1 hc.1 hc.2)
noncomputable abbrev mz:zE:=(74,true,ct (aC ak (aC ak a0)) vz)
theorem ax5 (n top:Name) (hn:ay n) (ht:ay top):wl PP [X7] 0 (Tryz.f62.body.getD .skip) (c8 PP Tryz.f62.results.toList (fun r st=>(r1 bk).get true st.h r=some (dm n top))) (cg 0 [ak.val false n,ak.val false top]) (bh []):=by
 unfold Tryz.f62;simp only [bw];simp only [↓wR,zT,simprocAttr,xd,hn,ht];rw [cq];refine ⟨fun h=>?_,fun h=>?_⟩
 ·have hl:n.length=top.length:=by simp at h;omega
  simp only [↓wR,zT,simprocAttr,h,xd,hn,ht]
  congr 1
  unfold dm;have:=Dz n top;rw [zyb];simp [<- this,hl];omega
 ·have hl:¬ n.length=top.length:=by simp at h;omega
  simp only [↓wR,zT,simprocAttr,h];have:=Dz n top;simp [dm,<- this,hl]
noncomputable def wo (x:Name × Name × Unit):Option AV:=if ay x.1/\ay x.2.1 then some ((r1 bk).E true (dm x.1 x.2.1)) else none
theorem uo (x:Name × Name × Unit) (r:AV) (h:wo x=some r):bf PP 62 ((aC ak (aC ak a0)).E x) r:=by obtain ⟨hc,rfl⟩:=zI h;exact aw (ar.cons (aq Gy) (ar.nil PP)) Tryz.func62 zK zK zK zL (r1 bk) true (dm x.1 x.2.1) (ax5 x.1 x.2.1 hc.1 hc.2)
noncomputable abbrev oa:zE:=(62,true,ct (aC ak (aC ak a0)) wo)
theorem ajr (a b:Name) (ha:ay a) (hb:ay b):wl PP [X7,Sy] 0 (Tryz.f116.body.getD .skip) (c8 PP Tryz.f116.results.toList (fun r st=>(r1 (ba .i64)).get true st.h r=some (tm a b))) (cg 0 [ak.val false a,ak.val false b]) (bh []):=by
 unfold Tryz.f116;simp only [bw];simp only [↓wR,zT,simprocAttr,xd,ha,hb];have h1:=Bt a.reverse b.reverse;have h2:=Fj a.reverse b.reverse;rw [List.length_reverse] at h1 h2;change common a b<=a.length at h1;change common a b<=b.length at h2;obtain ⟨k,hk⟩:∃ k,common a b=k:=⟨_,rfl⟩;rw [hk] at h1 h2;unfold tm;rw [hk];rw [cq];refine ⟨fun h=>?_,fun h=>?_⟩
 ·simp only [↓wR,zT,simprocAttr,h];have hka:k=a.length:=by simp at h;omega
  rw [cq];refine ⟨fun h3=>?_,fun h3=>?_⟩
  ·have hkb:k=b.length:=by simp at h3;omega
   simp only [↓wR,zT,simprocAttr,h3];rw [if_pos ⟨hka,hkb⟩]
  ·have hkb:¬ k=b.length:=by simp at h3;omega
   simp only [↓wR,zT,simprocAttr,h3,h];rw [if_neg (fun e=>hkb e.2),if_pos hka]
 ·simp only [↓wR,zT,simprocAttr,h];have hka:¬ k=a.length:=by simp at h;omega
  rw [cq];refine ⟨fun h3=>?_,fun h3=>?_⟩
  ·have hkb:k=b.length:=by simp at h3;omega
   simp only [↓wR,zT,simprocAttr,h3];rw [if_neg (fun e=>hka e.1),if_neg hka,if_pos hkb]
  ·have hkb:¬ k=b.length:=by simp at h3;omega
   rw [if_neg (fun e=>hka e.1),if_neg hka,if_neg hkb];obtain ⟨x,hx⟩:∃ x,a[a.length - 1 - k]? = some x:=⟨_,zh zO⟩;obtain ⟨y,hy⟩:∃ y,b[b.length - 1 - k]? = some y:=⟨_,zh zO⟩;simp only [↓wR,zT,simprocAttr,h3];refine ⟨zK,.inl ?_⟩;have la:=ha.len;have lb:=hb.len;simp (disch:=omega) only [zW];have e1:(((a.length:Int) - 1) - k).toNat=a.length - 1 - k:=zO;have e2:(0:Int)<=((a.length:Int) - 1) - k:=zO;have e3:(((b.length:Int) - 1) - k).toNat=b.length - 1 - k:=zO;have e4:(0:Int)<=((b.length:Int) - 1) - k:=zO;simp only [↓wR,zT,simprocAttr,hx,e1,e2];simp (disch:=omega) only [zW];simp only [↓wR,zT,simprocAttr,hy,e3,e4,rr,ha.label x (zm hx),hb.label y (zm hy)];exact ⟨zK,by simp [adr,hx,hy]⟩
noncomputable def Ey (x:Name × Name × Unit):Option AV:=if ay x.1/\ay x.2.1 then some ((r1 (ba .i64)).E true (tm x.1 x.2.1)) else none
theorem acq (x:Name × Name × Unit) (r:AV) (h:Ey x=some r):bf PP 116 ((aC ak (aC ak a0)).E x) r:=by obtain ⟨hc,rfl⟩:=zI h;exact aw (ar.cons (aq Gy) (ar.cons (aq Gk) (ar.nil PP))) Tryz.func116 zK zK zK zL (r1 (ba .i64)) true (tm x.1 x.2.1) (ajr x.1 x.2.1 hc.1 hc.2)
noncomputable abbrev ax4:zE:=(116,true,ct (aC ak (aC ak a0)) Ey)
noncomputable def n5:di Shape:=yj (kn (ba .i64) (kn (ba .i64) (kn (ba .i64) (kn (ba .i64) (ba .i64))))) (fun s=>(s.names,s.nums,s.texts,s.raw,s.size)) (fun p=>⟨p.1,p.2.1,p.2.2.2.2,p.2.2.1,p.2.2.2.1⟩) (fun _=>rfl) (fun _=>rfl)
theorem vj (l:Bool) (s:Shape):n5.val l s = .agg [.sc (.int .i64 s.names),.sc (.int .i64 s.nums),.sc (.int .i64 s.texts),.sc (.int .i64 s.raw),.sc (.int .i64 s.size)]:=id rfl
theorem il (fr h) (a b c d e:Int):n5.fq fr h (.agg [.sc (.int .i64 a),.sc (.int .i64 b),.sc (.int .i64 c),.sc (.int .i64 d),.sc (.int .i64 e)])=some ⟨a,b,e,c,d⟩:=aC1 n5 fr h ⟨a,b,e,c,d⟩
theorem aEa (t:UInt16):wl PP [] 0 (Tryz.f164.body.getD .skip) (c8 PP Tryz.f164.results.toList (fun r st=>(r2 n5 bk).get true st.h r=some (cz t,!my t))) (cg 0 [cf.val false t]) (bh []):=by
 have hk:∀ n:Int,(t.toNat:Int)=n->n≠0->¬ (128<=n/\n<=255)->my t=false:=by intro n h1 h2 h3;unfold my;rw [h1];simp only [Bool.or_eq_false_iff,beq_eq_false_iff_ne,ne_eq,Bool.and_eq_false_iff,decide_eq_false_iff_not];exact ⟨h2,zO⟩
 unfold Tryz.f164;unfold cz;simp only [↓wR,zT,simprocAttr];rw [bz];refine ⟨fun ⟨h0,e0⟩=>?_,fun ⟨h0,e0⟩=>?_⟩
 ·simp only [↓wR,zT,simprocAttr,h0,il,hk _ e0 (by decide) (by decide)];rw [if_pos e0]
 rw [if_neg e0];simp only [↓wR,zT,simprocAttr,h0];rw [bz];refine ⟨fun ⟨h1,e1⟩=>?_,fun ⟨h1,e1⟩=>?_⟩
 ·simp only [↓wR,zT,simprocAttr,h1,il,hk _ e1 (by decide) (by decide)];rw [if_pos e1]
 rw [if_neg e1];simp only [↓wR,zT,simprocAttr,h1];rw [bz];refine ⟨fun ⟨h2,e2⟩=>?_,fun ⟨h2,e2⟩=>?_⟩
 ·simp only [↓wR,zT,simprocAttr,h2,il,hk _ e2 (by decide) (by decide)];rw [if_pos e2]
 rw [if_neg e2];simp only [↓wR,zT,simprocAttr,h2];rw [bz];refine ⟨fun ⟨h3,e3⟩=>?_,fun ⟨h3,e3⟩=>?_⟩
 ·simp only [↓wR,zT,simprocAttr,h3,il,hk _ e3 (by decide) (by decide)];rw [if_pos e3]
 rw [if_neg e3];simp only [↓wR,zT,simprocAttr,h3];rw [bz];refine ⟨fun ⟨h4,e4⟩=>?_,fun ⟨h4,e4⟩=>?_⟩
 ·simp only [↓wR,zT,simprocAttr,h4,il,hk _ e4 (by decide) (by decide)];rw [if_pos e4]
 rw [if_neg e4];simp only [↓wR,zT,simprocAttr,h4];rw [bz];refine ⟨fun ⟨h5,e5⟩=>?_,fun ⟨h5,e5⟩=>?_⟩
 ·simp only [↓wR,zT,simprocAttr,h5,il,hk _ e5 (by decide) (by decide)];rw [if_pos e5]
 rw [if_neg e5];simp only [↓wR,zT,simprocAttr,h5];rw [bz];refine ⟨fun ⟨h6,e6⟩=>?_,fun ⟨h6,e6⟩=>?_⟩
 ·simp only [↓wR,zT,simprocAttr,h6,il,hk _ e6 (by decide) (by decide)];rw [if_pos e6]
 rw [if_neg e6];simp only [↓wR,zT,simprocAttr,h6];rw [bz];refine ⟨fun ⟨h7,e7⟩=>?_,fun ⟨h7,e7⟩=>?_⟩
 ·simp only [↓wR,zT,simprocAttr,h7,il,hk _ e7 (by decide) (by decide)];rw [if_pos e7]
 rw [if_neg e7];simp only [↓wR,zT,simprocAttr,h7];rw [bz];refine ⟨fun ⟨h8,e8⟩=>?_,fun ⟨h8,e8⟩=>?_⟩
 ·simp only [↓wR,zT,simprocAttr,h8,il,hk _ e8 (by decide) (by decide)];rw [if_pos e8]
 rw [if_neg e8];simp only [↓wR,zT,simprocAttr,h8];rw [bz];refine ⟨fun ⟨h9,e9⟩=>?_,fun ⟨h9,e9⟩=>?_⟩
 ·simp only [↓wR,zT,simprocAttr,h9,il,hk _ e9 (by decide) (by decide)];rw [if_pos e9]
 rw [if_neg e9];simp only [↓wR,zT,simprocAttr,h9];have hb:(!my t)=(if (t.toNat:Int)=0 then false else if (t.toNat:Int)<128 then true else decide (255<(t.toNat:Int))):=by
  unfold my;rw [zyb]
  split
  ·rename_i h;simp [h]
  ·split
   ·rename_i h1 h2;simp [h1];omega
   ·rename_i h1 h2;simp [h1];omega
 rw [hb];rw [dg];refine ⟨fun ⟨h10,eA⟩=>?_,fun ⟨h10,eA⟩=>?_⟩
 ·rw [if_neg eA];simp only [↓wR,zT,simprocAttr,h10];rw [bg];refine ⟨fun h11=>?_,fun h11=>?_⟩
  ·rw [if_pos h11];simp only [↓wR,zT,simprocAttr,h11,il]
  ·rw [if_neg h11];simp only [↓wR,zT,simprocAttr,h11,il]
 ·rw [if_pos eA];simp only [↓wR,zT,simprocAttr,h10,il]
noncomputable def ae5 (x:UInt16 × Unit):Option AV:=some ((r2 n5 bk).E true ((cz x.1,!my x.1)))
theorem Tv (x:UInt16 × Unit) (r:AV) (h:ae5 x=some r):bf PP 164 ((aC cf a0).E x) r:=by cases h;exact aw (ar.nil PP) Tryz.func164 zK zK zK zL (r2 n5 bk) true ((cz x.1,!my x.1)) (aEa x.1)
noncomputable abbrev rOf:zE:=(164,true,ct (aC cf a0) ae5)
def yx (n:Int):UInt32:=if n=1 then 255 else if n=2 then 65535 else 4294967295
theorem ayh (n:Int):wl PP [] 0 (Tryz.f188.body.getD .skip) (c8 PP Tryz.f188.results.toList (fun r st=>(r1 cw).get true st.h r=some (yx n))) (cg 0 [(ba .i64).val false n]) (bh []):=by
 unfold yx;unfold Tryz.f188;simp only [↓wR,zT,simprocAttr];rw [bz];refine ⟨fun ⟨h0,e0⟩=>?_,fun ⟨h0,e0⟩=>?_⟩
 ·simp only [↓wR,zT,simprocAttr,h0];rw [if_pos e0];rfl
 rw [if_neg e0];simp only [↓wR,zT,simprocAttr,h0];rw [bz];refine ⟨fun ⟨h1,e1⟩=>?_,fun ⟨h1,e1⟩=>?_⟩
 ·simp only [↓wR,zT,simprocAttr,h1];rw [if_pos e1];rfl
 rw [if_neg e1];simp only [↓wR,zT,simprocAttr,h1];rfl
noncomputable def aih (x:Int × Unit):Option AV:=some ((r1 cw).E true (yx x.1))
theorem aqn (x:Int × Unit) (r:AV) (h:aih x=some r):bf PP 188 ((aC (ba .i64) a0).E x) r:=by cases h;exact aw (ar.nil PP) Tryz.func188 zK zK zK zL (r1 cw) true (yx x.1) (ayh x.1)
noncomputable abbrev aF2:zE:=(188,true,ct (aC (ba .i64) a0) aih)
theorem apz (n:UInt32) (k:Int) (hk : 0<=k/\k<=4):wl PP [] 0 (Tryz.f191.body.getD .skip) (c8 PP Tryz.f191.results.toList (fun r st=>(r1 (br bq)).get false st.h r=some ((Bx n).drop (4 - k).toNat))) (cg 0 [cw.val false n,(ba .i64).val false k]) (bh []):=by unfold Tryz.f191;simp only [↓wR,zT,simprocAttr];simp (disch:=omega) only [zW];have h4:(4 - k).toNat<=4:=zO;have xC:k=0\/k=1\/k=2\/k=3\/k=4:=zO;simp only [↓wR,zT,simprocAttr,hk,h4];rcases xC with rfl|rfl|rfl|rfl|rfl<;>first|rfl|(simp only [↓wR,zT,simprocAttr,Wq];done)|(simp only [↓wR,zT,simprocAttr,Wq,List.drop,List.take];rfl)
noncomputable def Cu (x:UInt32 × Int × Unit):Option AV:=if 0<=x.2.1/\x.2.1<=4 then some ((r1 (br bq)).E false (((Bx x.1).drop (4 - x.2.1).toNat))) else none
theorem afu (x:UInt32 × Int × Unit) (r:AV) (h:Cu x=some r):bf PP 191 ((aC cw (aC (ba .i64) a0)).E x) r:=by
 by_cases hc : 0<=x.2.1/\x.2.1<=4
 case neg=>simp only [Cu,if_neg hc] at h;cases h
 simp only [Cu,if_pos hc] at h;cases h;exact aw (ar.nil PP) Tryz.func191 zK zK zK zL (r1 (br bq)) false (((Bx x.1).drop (4 - x.2.1).toNat)) (apz x.1 x.2.1 hc)
noncomputable abbrev aBp:zE:=(191,true,ct (aC cw (aC (ba .i64) a0)) Cu)
theorem aCe (s:ByteArray) (hs:s.size<=16777216):wl PP [] 0 (Tryz.f189.body.getD .skip) (c8 PP Tryz.f189.results.toList (fun r st=>(r1 bk).get true st.h r=some (tz s))) (cg 0 [ah.val false s]) (bh []):=by
 unfold Tryz.f189;simp only [↓wR,zT,simprocAttr];rw [bg];refine ⟨fun h1=>?_,fun h1=>?_⟩
 ·have hv:tz s=false:=by unfold tz;rw [Bool.and_eq_false_iff];right;rw [decide_eq_false_iff_not];omega
  simp only [↓wR,zT,simprocAttr,h1,hv]
 simp only [↓wR,zT,simprocAttr,h1];rw [bg];refine ⟨fun h2=>?_,fun h2=>?_⟩
 ·have hv:tz s=false:=by unfold tz;rw [Bool.and_eq_false_iff];right;rw [decide_eq_false_iff_not];omega
  simp only [↓wR,zT,simprocAttr,h2,hv]
 simp only [↓wR,zT,simprocAttr,h2];refine dq [0,3] (fun (i:Nat)=>[.sc (.string s),.sc (.int .i64 i)]) (fun _=>[]) (fun i=>i<=s.size/\s.data.toList.all Cs=(s.data.toList.drop i).all Cs) (fun i=>s.size - i) 0 ⟨zzb _,rfl⟩ zS zS ?_;rintro i ⟨hi,hR⟩;simp only [↓wR,zT,simprocAttr];rw [bg];refine ⟨fun h=>?_,fun h=>?_⟩
 ·obtain ⟨c,hc⟩:∃ c,s.data.toList[i]? = some c:=⟨_,zh (by simp;omega)⟩;have hd:=Dm hc;rw [hd,List.all_cons] at hR
  repeat (first|simp only [↓wR,zT,simprocAttr,h,hc]|simp (disch:=omega) only [zW])
  repeat' (rw [bg];refine ⟨fun h=>?_,fun h=>?_⟩<;>simp only [↓wR,zV,simprocAttr,h,hc])
  all_goals first
   |(
    have ht:Cs c=false:=by (unfold Cs;rw [decide_eq_false_iff_not];omega)
    rw [tz,hR,ht];rfl)
   |(
    have ht:Cs c=true:=by (unfold Cs;rw [decide_eq_true_eq];omega)
    refine ⟨i+1,⟨zO,by rw [hR,ht];simp⟩,zO,zF⟩)
 ·have fM:s.data.toList.drop i=[]:=zzx (by simp;omega);rw [fM,List.all_nil] at hR;have hv:tz s=true:=by unfold tz;rw [hR,Bool.true_and,decide_eq_true_eq];omega
  simp only [↓wR,zT,simprocAttr,h,hv]
noncomputable def V7 (x:ByteArray × Unit):Option AV:=if x.1.size<=16777216 then some ((r1 bk).E true (tz x.1)) else none
theorem asu (x:ByteArray × Unit) (r:AV) (h:V7 x=some r):bf PP 189 ((aC ah a0).E x) r:=by obtain ⟨hc,rfl⟩:=zI h;exact aw (ar.nil PP) Tryz.func189 zK zK zK zL (r1 bk) true (tz x.1) (aCe x.1 hc)
noncomputable abbrev aGw:zE:=(189,true,ct (aC ah a0) V7)
noncomputable def Qf (t:UInt16) (d:cj):Bool:=if (t.toNat:Int)=257 then tz (d.texts.headD ⟨#[]⟩) else true
noncomputable def aoj (t:UInt16) (d:cj):Bool:=if (t.toNat:Int)=16/\(d.texts.any fun x=>decide (255<x.size))=true then false else Qf t d
noncomputable def adn (s:Shape) (t:UInt16) (d:cj):Bool:=if (d.nums.any fun n=>decide ((yx s.size).toNat<n.toNat))=true then false else aoj t d
def po (s:Shape) (d:cj):Prop:=((d.names.length:Int)≠s.names\/(d.nums.length:Int)≠s.nums)\/(0<=s.texts/\(d.texts.length:Int)≠s.texts)\/(s.texts<0/\(d.texts.length:Int)=0)\/(0<=s.raw/\(d.raw.length:Int)≠s.raw)
noncomputable def Fi (s:Shape) (t:UInt16) (d:cj):Bool:=open Classical in if po s d then false else adn s t d
def Wb (s:Shape) (t:UInt16):Prop:=(t.toNat:Int)=257->s.texts=2
instance (s:Shape) (t:UInt16):Decidable (Wb s t):=inferInstanceAs (Decidable (_->_))
set_option maxHeartbeats 4000000 in
theorem aym (s:Shape) (t:UInt16) (d:cj) (hd:c7 d) (dN:Wb s t):wl PP [aF2,aGw] 0 (Tryz.f165.body.getD .skip) (c8 PP Tryz.f165.results.toList (fun r st=>(r1 bk).get true st.h r=some (Fi s t d))) (cg 0 [cf.val false t,n5.val false s,bc.val false d]) (bh []):=by
 obtain ⟨l1,l2,l3,l4⟩:=hd.lens;have cH:po s d->Fi s t d=false:=fun h=>if_pos h
 have aB:¬ po s d->Fi s t d=adn s t d:=fun h=>if_neg h
 unfold Tryz.f165;simp only [vj,gq,bw];have hg:∀ (L:SL) (P1:Prop),(P1->0<d.texts.length)->True:=fun _ _ _=>trivial
 simp only [↓wR,zT,simprocAttr];rw [dg];refine ⟨fun ⟨a1,e1⟩=>?_,fun ⟨a1,e1⟩=>?_⟩
 ·have hv:=cH (.inl (.inl e1));simp only [↓wR,zT,simprocAttr,a1,hv]
 simp only [↓wR,zT,simprocAttr,a1];rw [dg];refine ⟨fun ⟨a2,e2⟩=>?_,fun ⟨a2,e2⟩=>?_⟩
 ·have hv:=cH (.inl (.inr e2));simp only [↓wR,zT,simprocAttr,a2,hv]
 simp only [↓wR,zT,simprocAttr,a2];rw [bg];refine ⟨fun h3=>?_,fun h3=>?_⟩;simp only [↓wR,zT,simprocAttr,h3];rw [dg];refine ⟨fun ⟨a3,e3⟩=>?_,fun ⟨a3,e3⟩=>?_⟩;have hv:=cH (.inr (.inl ⟨h3,e3⟩));simp only [↓wR,zT,simprocAttr,a3,hv];simp only [↓wR,zT,simprocAttr,a3];rw [bg];refine ⟨fun h4=>?_,fun h4=>?_⟩;exfalso;omega;simp only [↓wR,zT,simprocAttr,h4];rw [bg];refine ⟨fun h5=>?_,fun h5=>?_⟩;simp only [↓wR,zT,simprocAttr,h5];rw [dg];refine ⟨fun ⟨a4,e4⟩=>?_,fun ⟨a4,e4⟩=>?_⟩;have hv:=cH (.inr (.inr (.inr ⟨h5,e4⟩)));simp only [↓wR,zT,simprocAttr,a4,hv];have hv:=aB (by unfold po;omega);have hp:(t.toNat:Int)=257->0<d.texts.length:=fun q=>by have:=dN q;omega
 simp only [↓wR,zT,simprocAttr,a4];rotate_left;have hv:=aB (by unfold po;omega);have hp:(t.toNat:Int)=257->0<d.texts.length:=fun q=>by have:=dN q;omega
 simp only [↓wR,zT,simprocAttr,h5];rotate_left;simp only [↓wR,zT,simprocAttr,h3];rw [bg];refine ⟨fun h4=>?_,fun h4=>?_⟩;simp only [↓wR,zT,simprocAttr,h4];rw [bz];refine ⟨fun ⟨a3,e3⟩=>?_,fun ⟨a3,e3⟩=>?_⟩;have hv:=cH (.inr (.inr (.inl ⟨h4,e3⟩)));simp only [↓wR,zT,simprocAttr,a3,hv];simp only [↓wR,zT,simprocAttr,a3];rw [bg];refine ⟨fun h5=>?_,fun h5=>?_⟩;simp only [↓wR,zT,simprocAttr,h5];rw [dg];refine ⟨fun ⟨a4,e4⟩=>?_,fun ⟨a4,e4⟩=>?_⟩;have hv:=cH (.inr (.inr (.inr ⟨h5,e4⟩)));simp only [↓wR,zT,simprocAttr,a4,hv];have hv:=aB (by unfold po;omega);have hp:(t.toNat:Int)=257->0<d.texts.length:=fun q=>by have:=dN q;omega
 simp only [↓wR,zT,simprocAttr,a4];rotate_left;have hv:=aB (by unfold po;omega);have hp:(t.toNat:Int)=257->0<d.texts.length:=fun q=>by have:=dN q;omega
 simp only [↓wR,zT,simprocAttr,h5];rotate_left;exfalso;omega
 all_goals
  rw [hv];clear hv hg cH aB dN;unfold adn;refine dq [0,4,5,7] (fun (i:Nat)=>[.sc (.int .u16 t.toNat),.ptr 0 0,.ptr 1 0,zi i]) (fun _=>[some (.row [.sc (.int .i64 (s).names),.sc (.int .i64 (s).nums),.sc (.int .i64 (s).texts),.sc (.int .i64 (s).raw),.sc (.int .i64 (s).size)] 0 2 183),some (.row [zv d.names,zu d.nums,zn d.texts,zw d.raw] 0 2 101)]) (fun i=>i<=d.nums.length/\(d.nums.any fun n=>decide ((yx s.size).toNat<n.toNat))=((d.nums.drop i).any fun n=>decide ((yx s.size).toNat<n.toNat))) (fun i=>d.nums.length - i) 0 ⟨zzb _,by rw [List.drop_zero]⟩ zS zS ?_;rintro i ⟨hi,hR⟩;simp only [↓wR,zT,simprocAttr];rw [bg];refine ⟨fun h=>?_,fun h=>?_⟩
  ·obtain ⟨c,hc,aF,hlt⟩:=du (zp h);rw [aF,List.any_cons] at hR;simp only [↓wR,zT,simprocAttr,h];refine ⟨zK,.inl ?_⟩;simp only [↓wR,zT,simprocAttr,hc,aih];refine ⟨zK,?_⟩;rw [bg];refine ⟨fun h6=>?_,fun h6=>?_⟩
   ·rw [if_pos (by rw [hR,zp zO,Bool.true_or])];simp only [↓wR,zT,simprocAttr,h6]
   ·repeat (first|simp only [↓wR,zT,simprocAttr,h6]|simp (disch:=omega) only [zW])
    exact ⟨i+1,⟨hlt,by rw [hR,zq zO,Bool.false_or]⟩,zO,zF⟩
  rw [eg (zq h),List.any_nil] at hR;rw [if_neg (by rw [hR];decide)];simp only [↓wR,zT,simprocAttr,h];unfold aoj;refine dq [0,5,8] (fun (i:Nat)=>[.sc (.int .u16 t.toNat),.ptr 0 0,zi i]) (fun _=>[some (.row [zv d.names,zu d.nums,zn d.texts,zw d.raw] 0 2 101)]) (fun i=>i<=d.texts.length/\(d.texts.any fun x=>decide (255<x.size))=((d.texts.drop i).any fun x=>decide (255<x.size))) (fun i=>d.texts.length - i) 0 ⟨zzb _,by rw [List.drop_zero]⟩ zS zS ?_;rintro i ⟨aY,hR2⟩;simp only [↓wR,zT,simprocAttr];rw [bz];refine ⟨fun ⟨h7,e7⟩=>?_,fun ⟨h7,e7⟩=>?_⟩
  ·simp only [↓wR,zT,simprocAttr,h7];rw [bg];refine ⟨fun h8=>?_,fun h8=>?_⟩
   ·obtain ⟨c,hc,aF,hlt⟩:=du (zp h8);rw [aF,List.any_cons] at hR2;simp only [↓wR,zT,simprocAttr,h8,hc];rw [bg];refine ⟨fun h9=>?_,fun h9=>?_⟩
    ·rw [if_pos ⟨e7,by rw [hR2,zp zO,Bool.true_or]⟩];simp only [↓wR,zT,simprocAttr,h9]
    ·repeat (first|simp only [↓wR,zT,simprocAttr,h9]|simp (disch:=omega) only [zW])
     exact ⟨i+1,⟨hlt,by rw [hR2,zq zO,Bool.false_or]⟩,zO,zF⟩
   ·rw [eg (zq h8),List.any_nil] at hR2;rw [if_neg (by rw [hR2];rintro ⟨_,q⟩;cases q)];have hv:Qf t d=true:=if_neg zO;rw [hv];simp only [↓wR,zT,simprocAttr,h8,e7]
  ·rw [if_neg (fun q=>e7 q.1)];simp only [↓wR,zT,simprocAttr,h7];rw [dg];refine ⟨fun ⟨h10,eA⟩=>?_,fun ⟨h10,eA⟩=>?_⟩
   ·have hv:Qf t d=true:=if_neg eA;rw [hv];simp only [↓wR,zT,simprocAttr,h10]
   ·obtain ⟨c,hc⟩:∃ c,d.texts[0]? = some c:=⟨_,zh (hp eA)⟩;have hh:d.texts.headD ⟨#[]⟩=c:=by
     cases ht:d.texts with
     |nil=>rw [ht] at hc;cases hc
     |cons a l=>rw [ht] at hc;simpa using hc
    have hv:Qf t d=tz c:=by unfold Qf;rw [if_pos eA,hh]
    rw [hv];simp only [↓wR,zT,simprocAttr,h10,hc,V7,hd.text c (zm hc)]
noncomputable def O4 (x:UInt16 × Shape × cj × Unit):Option AV:=if c7 x.2.2.1/\Wb x.2.1 x.1 then some ((r1 bk).E true (Fi x.2.1 x.1 x.2.2.1)) else none
theorem aqu (x:UInt16 × Shape × cj × Unit) (r:AV) (h:O4 x=some r):bf PP 165 ((aC cf (aC n5 (aC bc a0))).E x) r:=by obtain ⟨hc,rfl⟩:=zI h;exact aw (ar.cons (aq aqn) (ar.cons (aq asu) (ar.nil PP))) Tryz.func165 zK zK zK zL (r1 bk) true (Fi x.2.1 x.1 x.2.2.1) (aym x.2.1 x.1 x.2.2.1 hc.1 hc.2)
noncomputable abbrev aFb:zE:=(165,true,ct (aC cf (aC n5 (aC bc a0))) O4)
def zz (l:List Name):Nat:=(l.map bp).sum
def zx (t:UInt16):Nat->List ByteArray->Nat
 |_,[]=>0
 |i,x::r=>x.size+(if (t.toNat:Int)=16\/i=0 then 1 else 0)+zx t (i+1) r
theorem aCg (l:List Name):zz l<=gh bp l:=by
 induction l with
 |nil=>exact zza _
 |cons a l ih=>simp only [zz,List.map_cons,List.sum_cons,gh,List.foldr_cons] at ih ⊢;omega
theorem aBh (t:UInt16) (l:List ByteArray):∀ i,zx t i l<=gh ByteArray.size l:=by
 induction l with
 |nil=>intro i;exact zza _
 |cons a l ih=>
  intro i;have:=ih (i+1);simp only [zx,gh,List.foldr_cons] at this ⊢
  split<;>omega
def J8 (s:Shape) (t:UInt16) (d:cj):Int:=d.raw.length+d.nums.length * s.size+zz d.names+zx t 0 d.texts
theorem aBi {l:List Name} {i:Nat} {c:Name} (h:l.drop i=c::l.drop (i+1)):zz (l.drop i)=bp c+zz (l.drop (i+1)):=by rw [h];simp [zz]
theorem aAy {t:UInt16} {l:List ByteArray} {i:Nat} {c:ByteArray} (h:l.drop i=c::l.drop (i+1)):zx t i (l.drop i)=c.size+(if (t.toNat:Int)=16\/i=0 then 1 else 0)+zx t (i+1) (l.drop (i+1)):=by rw [h];rfl
set_option maxHeartbeats 4000000 in
theorem atw (s:Shape) (t:UInt16) (d:cj) (hd:c7 d) (hs : 0<=s.size/\s.size<=4):wl PP [asw] 0 (Tryz.f166.body.getD .skip) (c8 PP Tryz.f166.results.toList (fun r st=>(r1 (ba .i64)).get true st.h r=some (J8 s t d))) (cg 0 [cf.val false t,n5.val false s,bc.val false d]) (bh []):=by
 obtain ⟨l1,l2,l3,l4⟩:=hd.lens;have hn:=aCg d.names;have ht:=aBh t d.texts 0;have hw:gh bp d.names+gh ByteArray.size d.texts<=16777216:=by unfold c7 An at hd;omega
 have hm0 : 0<=(d.nums.length:Int) * s.size:=Int.mul_nonneg zO hs.1;have hm1:(d.nums.length:Int) * s.size<=d.nums.length * 4:=Int.mul_le_mul_of_nonneg_left hs.2 zO;have hz:J8 s t d=d.raw.length+d.nums.length * s.size+zz d.names+zx t 0 d.texts:=rfl;obtain ⟨A,hA⟩:∃ A:Int,A=d.raw.length+d.nums.length * s.size:=⟨_,rfl⟩;rw [hz,<- hA];have oZ : 0<=A/\A<=134217728:=zO;unfold Tryz.f166;simp only [vj,gq,bw];simp only [↓wR,zT,simprocAttr];simp (disch:=omega) only [zW];rw [<- hA];refine dq [0,5,7,8] (fun (i:Nat)=>[.sc (.int .u16 t.toNat),.ptr 0 0,zi (A+(zz d.names - zz (d.names.drop i):Nat)),zi i]) (fun _=>[some (.row [zv d.names,zu d.nums,zn d.texts,zw d.raw] 0 2 101)]) (fun i=>i<=d.names.length/\zz (d.names.drop i)<=zz d.names) (fun i=>d.names.length - i) 0 ⟨zzb _,zza _⟩ (by simp only [↓wR,zT,simprocAttr]<;>first|rfl|(rw [List.drop_zero,Nat.sub_self,Int.add_zero])) zS ?_;rintro i ⟨hi,hx⟩;simp only [↓wR,zT,simprocAttr];rw [bg];refine ⟨fun h=>?_,fun h=>?_⟩
 ·obtain ⟨c,hc,aF,hlt⟩:=du (zp h);have e1:=aBi aF;have oH:=hd.name c (zm hc)
  repeat (first|simp only [↓wR,zT,simprocAttr,h,hc,Dh,oH.fit]|simp (disch:=omega) only [zW])
  exact ⟨i+1,⟨hlt,zO⟩,zO,zF⟩
 rw [eg (zq h)];have e0:zz []=0:=rfl;rw [e0,Nat.sub_zero];simp only [↓wR,zT,simprocAttr,h];refine dq [0,5,7,9] (fun (i:Nat)=>[.sc (.int .u16 t.toNat),.ptr 0 0,zi (A+zz d.names+(zx t 0 d.texts - zx t i (d.texts.drop i):Nat)),zi i]) (fun _=>[some (.row [zv d.names,zu d.nums,zn d.texts,zw d.raw] 0 2 101)]) (fun i=>i<=d.texts.length/\zx t i (d.texts.drop i)<=zx t 0 d.texts) (fun i=>d.texts.length - i) 0 ⟨zzb _,zza _⟩ (by simp only [↓wR,zT,simprocAttr]<;>first|rfl|(rw [List.drop_zero,Nat.sub_self,Int.add_zero])) zS ?_;rintro i ⟨hi,hx⟩;simp only [↓wR,zT,simprocAttr];rw [bg];refine ⟨fun h2=>?_,fun h2=>?_⟩
 ·obtain ⟨c,hc,aF,hlt⟩:=du (zp h2);have e1:=aAy (t:=t) aF
  repeat (first|simp only [↓wR,zT,simprocAttr,h2,hc]|simp (disch:=omega) only [zW])
  rw [bz];refine ⟨fun ⟨h3,e3⟩=>?_,fun ⟨h3,e3⟩=>?_⟩
  ·rw [if_pos (.inl e3)] at e1
   repeat (first|simp only [↓wR,zT,simprocAttr,h3]|simp (disch:=omega) only [zW])
   exact ⟨i+1,⟨hlt,zO⟩,zO,zF⟩
  ·simp only [↓wR,zT,simprocAttr,h3];rw [bz];refine ⟨fun ⟨h4,e4⟩=>?_,fun ⟨h4,e4⟩=>?_⟩
   ·rw [if_pos (.inr zO)] at e1
    repeat (first|simp only [↓wR,zT,simprocAttr,h4]|simp (disch:=omega) only [zW])
    exact ⟨i+1,⟨hlt,zO⟩,zO,zF⟩
   ·rw [if_neg zO] at e1
    repeat (first|simp only [↓wR,zT,simprocAttr,h4]|simp (disch:=omega) only [zW])
    exact ⟨i+1,⟨hlt,zO⟩,zO,zF⟩
 rw [eg (zq h2)];have e1:zx t i []=0:=by cases i<;>rfl
 rw [e1,Nat.sub_zero];simp only [↓wR,zT,simprocAttr,h2]
noncomputable def Jn (x:UInt16 × Shape × cj × Unit):Option AV:=if c7 x.2.2.1/\(0<=x.2.1.size/\x.2.1.size<=4) then some ((r1 (ba .i64)).E true (J8 x.2.1 x.1 x.2.2.1)) else none
theorem aj7 (x:UInt16 × Shape × cj × Unit) (r:AV) (h:Jn x=some r):bf PP 166 ((aC cf (aC n5 (aC bc a0))).E x) r:=by obtain ⟨hc,rfl⟩:=zI h;exact aw (ar.cons (aq S5) (ar.nil PP)) Tryz.func166 zK zK zK zL (r1 (ba .i64)) true (J8 x.2.1 x.1 x.2.2.1) (atw x.2.1 x.1 x.2.2.1 hc.1 hc.2)
noncomputable abbrev aCx:zE:=(166,true,ct (aC cf (aC n5 (aC bc a0))) Jn)
theorem aa9 (s:Shape):(⟨s.names,s.nums,s.size,s.texts,s.raw⟩:Shape)=s:=rfl
theorem D0 (t:UInt16):((t.toNat:Int)=16/\(cz t).texts = -1/\(cz t).nums=0/\(cz t).size=0/\(cz t).raw=0)\/((t.toNat:Int)=257/\(cz t).texts=2/\(cz t).nums=1/\(cz t).size=1/\(cz t).raw=0) \/
 ((t.toNat:Int)≠16/\(t.toNat:Int)≠257/\(cz t).texts=0/\(((cz t).size=0/\(cz t).nums=0)\/(cz t).size=2\/(cz t).size=4)/\((t.toNat:Int)=6->(cz t).raw=0)):=by
 unfold cz
 split
 ·exact .inr (.inr ⟨zO,zO,rfl,.inl ⟨rfl,rfl⟩,zO⟩)
 split
 ·exact .inr (.inr ⟨zO,zO,rfl,.inl ⟨rfl,rfl⟩,zO⟩)
 split
 ·exact .inr (.inr ⟨zO,zO,rfl,.inl ⟨rfl,rfl⟩,zO⟩)
 split
 ·exact .inr (.inr ⟨zO,zO,rfl,.inl ⟨rfl,rfl⟩,zO⟩)
 split
 ·exact .inr (.inr ⟨zO,zO,rfl,.inl ⟨rfl,rfl⟩,zO⟩)
 split
 ·exact .inr (.inr ⟨zO,zO,rfl,.inr (.inr rfl),fun _=>rfl⟩)
 split
 ·exact .inr (.inr ⟨zO,zO,rfl,.inr (.inl rfl),zO⟩)
 split
 ·exact .inr (.inr ⟨zO,zO,rfl,.inr (.inl rfl),zO⟩)
 split
 ·exact .inl ⟨by assumption,rfl,rfl,rfl,rfl⟩
 split
 ·exact .inr (.inl ⟨by assumption,rfl,rfl,rfl,rfl⟩)
 ·exact .inr (.inr ⟨zO,zO,rfl,.inl ⟨rfl,rfl⟩,zO⟩)
theorem Ll {α:Type} {p q : α->Bool}:∀ {l:List α},(∀ x ∈ l,p x=q x)->l.any p=l.any q
 | [],_=>rfl
 |a::l,h=>by rw [List.any_cons,List.any_cons,h a (by simp),Ll (fun x hx=>h x (by simp [hx]))]
theorem aBx (s:Shape) (hs:s.size=0\/s.size=1\/s.size=2\/s.size=4) (l:List UInt32) (h0:s.size=0->l=[]):(s.size<4/\(l.any fun n=>decide (Ci s<=(n.toNat:Int)))=true)↔(l.any fun n=>decide ((yx s.size).toNat<n.toNat))=true:=by
 have hb:∀ n:UInt32,n.toNat<4294967296:=fun n=>n.toNat_lt
 rcases hs with h|h|h|h
 ·rw [h0 h];simp
 ·have e1:Ci s=256:=by unfold Ci;rw [h];rfl
  have e2:(yx s.size).toNat=255:=by rw [h];rfl
  rw [e1,e2,Ll (q:=fun n=>decide (255<n.toNat)) (fun n _=>by rw [decide_eq_decide];omega)];exact ⟨fun q=>q.2,fun q=>⟨zO,q⟩⟩
 ·have e1:Ci s=65536:=by unfold Ci;rw [h];rfl
  have e2:(yx s.size).toNat=65535:=by rw [h];rfl
  rw [e1,e2,Ll (q:=fun n=>decide (65535<n.toNat)) (fun n _=>by rw [decide_eq_decide];omega)];exact ⟨fun q=>q.2,fun q=>⟨zO,q⟩⟩
 ·have e2:(yx s.size).toNat=4294967295:=by rw [h];rfl
  rw [e2];refine ⟨fun q=>by omega,fun q=>?_⟩;obtain ⟨n,_,hn⟩:=List.any_eq_true.1 q;have:=hb n;simp at hn;omega
theorem Xx (t:UInt16) (d:cj):Fi (cz t) t d=ry (cz t) t d:=by
 have hk:=D0 t;unfold Fi ry adn aoj Qf;by_cases hb:(d.names.length:Int)≠(cz t).names\/(d.nums.length:Int)≠(cz t).nums\/(0<=(cz t).raw/\(d.raw.length:Int)≠(cz t).raw)
 ·rw [if_pos hb,if_pos (by unfold po;omega)]
 rw [if_neg hb];have hm:=aBx (cz t) zO d.nums (fun e=>zzf zO);by_cases hm1:(d.nums.any fun n=>decide ((yx (cz t).size).toNat<n.toNat))=true
 ·rw [if_pos (hm.2 hm1),if_pos hm1,ite_self]
 rw [if_neg (fun q=>hm1 (hm.1 q)),if_neg hm1];rcases hk with ⟨k1,k2,_⟩|⟨k1,k2,_⟩|⟨k1,k2,k3,_⟩
 ·rw [if_neg (show ¬ (t.toNat:Int)=257 by omega),if_neg (show ¬ (t.toNat:Int)=257 by omega),if_neg (show ¬ (cz t).texts=0 by omega)];by_cases hl:d.texts.length=0
  ·rw [if_pos (by unfold po;omega),zq zO,Bool.false_and]
  ·rw [if_neg (by unfold po;omega),zp zO,Bool.true_and];cases ha:(d.texts.any fun x=>decide (255<x.size)) with
   |true=>rw [if_pos ⟨k1,rfl⟩];rfl
   |false=>rw [if_neg (by rintro ⟨_,q⟩;cases q)];rfl
 ·rw [if_pos k1,if_pos k1];by_cases hl:d.texts.length=2
  ·rw [if_neg (show ¬ po (cz t) d by unfold po;omega),zp hl,Bool.true_and,if_neg (fun q=>by have:=q.1;omega)]
  ·rw [if_pos (show po (cz t) d by unfold po;omega),zq hl,Bool.false_and]
 ·rw [if_neg k2,if_neg k2,if_pos k3];by_cases hl:d.texts.length=0
  ·rw [if_neg (show ¬ po (cz t) d by unfold po;omega),zp hl,if_neg (fun q=>by have:=q.1;omega)]
  ·rw [if_pos (show po (cz t) d by unfold po;omega),zq hl]
theorem Xv:∀ {l:List Name},j6 l=0->(l.flatMap ku).length=zz l
 | [],_=>rfl
 |n::l,h=>by
  unfold j6 at h
  split at h
  ·exact absurd h (by assumption)
  ·rename_i h1;have h2:dk n=0:=zO;have h3:=vg n;rw [List.flatMap_cons,za,Xv h];simp only [ku,h2,ne_eq,not_true,if_false,nameBytes,za,zyg,zz,List.map_cons,List.sum_cons];omega
theorem Uv (t:UInt16):∀ (l:List ByteArray) (i:Nat),(ox t i l).length=zx t i l
 | [],i=>rfl
 |x::l,i=>by
  have:=Uv t l (i+1);have hx:x.data.toList.length=x.size:=by simp
  simp only [ox,zx,za,this,hx]
  split<;>simp<;>omega
theorem Uh (t:UInt16) (hs : 0<=(cz t).size/\(cz t).size<=4):∀ l:List UInt32,((l.flatMap (Bq t)).length:Int)=l.length * (cz t).size
 | []=>by simp
 |n::l=>by
  have:=Uh t hs l;have h1:((Bq t n).length:Int)=(cz t).size:=by unfold Bq;rw [zzt,Hw];omega
  rw [List.flatMap_cons,za,List.length_cons,Int.natCast_add,this,h1,Int.natCast_add,Int.add_mul];omega
theorem awj (t:UInt16) (d:cj) (hf:ry (cz t) t d=true) (hn:j6 d.names=0):J8 (cz t) t d=((mw t d).length:Int):=by
 have hk:=D0 t;have h1:=Uh t (Bg t) d.nums;have h2:=Xv hn;have h3:=Uv t d.texts 0;unfold J8 mw;change ((wk t d).length:Int)=_ at h1;change (te d).length=_ at h2;change (rq t d).length=_ at h3
 split
 ·rename_i h6;rw [<- Xx] at hf;unfold Fi at hf
  split at hf
  ·cases hf
  ·rename_i hb;unfold po at hb;have e1:d.texts=[]:=zzf zO;rw [e1];rw [za];have:zx t 0 []=0:=rfl;omega
 ·simp only [za];omega
set_option maxHeartbeats 4000000 in
theorem ac7 (t:UInt16) (d:cj) (hd:c7 d):wl PP [rOf,aFb,Pp,aCx] 0 (Tryz.f126.body.getD .skip) (c8 PP Tryz.f126.results.toList (fun r st=>(r1 (ba .i64)).get true st.h r=some (dx t d))) (cg 0 [cf.val false t,bc.val false d]) (bh []):=by
 have hs:=Bg t;have hl:=hd.lens;have dN:Wb (cz t) t:=fun e=>by have:=D0 t;omega
 have hsz:=awj t d;unfold Tryz.f126;simp only [gq,bw];simp only [↓wR,zT,simprocAttr,ae5,vj];unfold dx;rw [cq];refine ⟨fun hb=>?_,fun hb=>?_⟩
 ·have hb':my t=true:=by simpa using hb
  rw [if_pos hb'];simp only [↓wR,zT,simprocAttr,hb]
 have hb':my t=false:=by simpa using hb
 rw [if_neg (by rw [hb'];decide)];simp only [↓wR,zT,simprocAttr,hb,il,aa9,O4,hd,dN,Xx];rw [cq];refine ⟨fun hf=>?_,fun hf=>?_⟩
 ·rw [if_pos (by simpa using hf)];simp only [↓wR,zT,simprocAttr,hf]
 have hf':ry (cz t) t d=true:=by simpa using hf
 rw [if_neg (by rw [hf'];decide)];simp only [↓wR,zT,simprocAttr,hf];refine dq [0,3,5,7] (fun (i:Nat)=>[.sc (.int .u16 t.toNat),.ptr 0 0,.ptr 1 0,zi i]) (fun _=>[some (.row [zv d.names,zu d.nums,zn d.texts,zw d.raw] 0 2 101),some (.row [.sc (.int .i64 (cz t).names),.sc (.int .i64 (cz t).nums),.sc (.int .i64 (cz t).texts),.sc (.int .i64 (cz t).raw),.sc (.int .i64 (cz t).size)] 0 2 183)]) (fun i=>i<=d.names.length/\j6 d.names=j6 (d.names.drop i)) (fun i=>d.names.length - i) 0 ⟨zzb _,rfl⟩ zS zS ?_;rintro i ⟨hi,hx⟩;simp only [↓wR,zT,simprocAttr];rw [bg];refine ⟨fun h=>?_,fun h=>?_⟩
 ·obtain ⟨c,hc,aF,hlt⟩:=du (zp h);rw [Rc aF] at hx;simp only [↓wR,zT,simprocAttr,h,hc,xk,(hd.name c (zm hc)).fit];rw [cq];refine ⟨fun h1=>?_,fun h1=>?_⟩
  ·have he:dk c≠0:=by simpa using h1
   rw [if_pos he] at hx;rw [if_pos (by rw [hx];exact he),hx];simp only [↓wR,zT,simprocAttr,h1]
  ·have he:dk c=0:=by simpa using h1
   rw [if_neg zO] at hx
   repeat (first|simp only [↓wR,zT,simprocAttr,h1]|simp (disch:=omega) only [zW])
   exact ⟨i+1,⟨hlt,hx⟩,zO,zF⟩
 rw [eg (zq h)] at hx;have hx0:j6 d.names=0:=hx;rw [if_neg (by rw [hx];decide)];simp only [↓wR,zT,simprocAttr,h,il,aa9,Jn,hd,hs,hsz hf' hx0];rw [bg];refine ⟨fun h2=>?_,fun h2=>?_⟩
 ·rw [if_pos zO];simp only [↓wR,zT,simprocAttr,h2]
 ·rw [if_neg zO];simp only [↓wR,zT,simprocAttr,h2]
noncomputable def ou (x:UInt16 × cj × Unit):Option AV:=if c7 x.2.1 then some ((r1 (ba .i64)).E true (dx x.1 x.2.1)) else none
theorem B6 (x:UInt16 × cj × Unit) (r:AV) (h:ou x=some r):bf PP 126 ((aC cf (aC bc a0)).E x) r:=by obtain ⟨hc,rfl⟩:=zI h;exact aw (ar.cons (aq Tv) (ar.cons (aq aqu) (ar.cons (aq yn) (ar.cons (aq aj7) (ar.nil PP))))) Tryz.func126 zK zK zK zL (r1 (ba .i64)) true (dx x.1 x.2.1) (ac7 x.1 x.2.1 hc)
noncomputable abbrev Kh:zE:=(126,true,ct (aC cf (aC bc a0)) ou)
theorem acr (n:Name) (hn:ay n):wl PP [Pp] 0 (Tryz.f190.body.getD .skip) (c8 PP Tryz.f190.results.toList (fun r st=>(r2 (br bq) (ba .i64)).get true st.h r=some (ku n,dk n))) (cg 0 [ak.val false n]) (bh []):=by
 unfold Tryz.f190;simp only [bw];have bB:=hn.lt;simp only [↓wR,zT,simprocAttr,xk,hn.fit];rw [cq];refine ⟨fun h=>?_,fun h=>?_⟩
 ·have he:dk n≠0:=by simpa using h
  have hb:ku n=[]:=if_pos he;simp only [↓wR,zT,simprocAttr,h,hb]
 have he:dk n=0:=by simpa using h
 have hb:ku n=nameBytes n:=if_neg zO;rw [hb,he];simp only [↓wR,zT,simprocAttr,h];refine fm [0,6,5] (fun (x:Nat × List UInt8)=>[zn n,.sc (.int .i64 x.1),.sl 0 0 x.2.length 1]) (fun x=>[some (.row (x.2.map (bq.val false)) 0 0 5)]) (fun x=>x.2++(n.drop x.1).flatMap ig=n.flatMap ig/\x.1<=n.length) (fun x=>n.length - x.1) (0,[]) ⟨rfl,zzb _⟩ zX ?_;rintro ⟨i,x⟩ ⟨hR,hx⟩;simp only at hR hx;have oI:=vg n;have hsm:=vp he;simp only [↓wR,zT,simprocAttr];rw [bg];refine ⟨fun h2=>?_,fun h2=>?_⟩
 ·obtain ⟨c,hc,hd,hlt⟩:=du (zp h2);rw [hd,List.flatMap_cons] at hR;have hl:x.length+(ig c).length<=(n.flatMap ig).length:=by rw [<- hR];simp
  rw [Cy] at hl
  repeat (first|simp only [↓wR,zT,simprocAttr,h2,hc]|simp (disch:=omega) only [zW])
  refine ⟨(i+1,x++ig c),⟨by rw [<- hR];simp,hlt⟩,by simp;omega,?_,by simp only [ig,zzw,List.map_cons,zzc,List.singleton_append,E5]⟩;simp only [List.cons.injEq,and_true,true_and,AV.sc.injEq,Value.int.injEq,AV.sl.injEq,ig,za,List.length_cons];refine ⟨by (try simp (disch:=omega) only [zW]);simp,by simp;omega⟩
 ·rw [eg (zq h2)] at hR;obtain rfl:x=n.flatMap ig:=by simpa using hR
  have hcl:(n.flatMap ig).length<=16777216:=by unfold ay at hn;omega
  repeat (first|simp only [↓wR,zT,simprocAttr,h2]|simp (disch:=omega) only [zW])
  rfl
noncomputable def qp (x:Name × Unit):Option AV:=if ay x.1 then some ((r2 (br bq) (ba .i64)).E true ((ku x.1,dk x.1))) else none
theorem V4 (x:Name × Unit) (r:AV) (h:qp x=some r):bf PP 190 ((aC ak a0).E x) r:=by obtain ⟨hc,rfl⟩:=zI h;exact aw (ar.cons (aq yn) (ar.nil PP)) Tryz.func190 zK zK zK zL (r2 (br bq) (ba .i64)) true ((ku x.1,dk x.1)) (acr x.1 hc)
noncomputable abbrev aoq:zE:=(190,true,ct (aC ak a0) qp)
theorem aC0 {t:UInt16} {d:cj} (h:dx t d=0):(t.toNat:Int)=6->d.names.length=2/\d.texts=[]/\d.raw=[]:=by
 intro h6;unfold dx at h
 split at h
 ·cases h
 split at h
 ·cases h
 rename_i hf;have hf':ry (cz t) t d=true:=by cases hx:ry (cz t) t d with|true=>rfl|false=>exact absurd hx hf
 rw [<- Xx] at hf';have hk:=D0 t;have hn:(cz t).names=2:=by unfold cz;rw [if_neg zO,if_neg zO,if_neg zO,if_neg zO,if_neg zO,if_pos h6]
 unfold Fi at hf'
 split at hf'
 ·cases hf'
 ·rename_i hb;unfold po at hb;exact ⟨zO,zzf zO,zzf zO⟩
noncomputable def N3 (t:UInt16) (d:cj):List UInt8:=if (t.toNat:Int)=6 then te d else []
noncomputable def ai5 (t:UInt16) (d:cj):List UInt8:=if (t.toNat:Int)=6 then [] else te d
theorem axd {t:UInt16} {d:cj} (h:(t.toNat:Int)=6->d.texts=[]/\d.raw=[]):mw t d=N3 t d++wk t d++ai5 t d++rq t d++d.raw:=by
 unfold mw N3 ai5
 split
 ·rename_i h6;obtain ⟨e1,e2⟩:=h h6;have:rq t d=[]:=by unfold rq;rw [e1];rfl
  rw [this,e2];simp
 ·simp
set_option maxHeartbeats 8000000 in
theorem as0 (t:UInt16) (d:cj) (hd:c7 d) (h0:dx t d=0):wl PP [rOf,aoq,aBp] 0 (Tryz.f167.body.getD .skip) (c8 PP Tryz.f167.results.toList (fun r st=>(r1 (br bq)).get true st.h r=some (mw t d))) (cg 0 [cf.val false t,bc.val false d]) (bh []):=by
 have lR:=aC0 h0;have hl:=hd.lens;have hk:=hd.written t;have hs:=Bg t;have hpl:(N3 t d).length<=16777216:=by unfold N3;split;exact hk.2.1;simp
 have bS:(ai5 t d).length<=16777216:=by unfold ai5;split;simp;exact hk.2.1
 rw [axd (fun e=>(lR e).2)];unfold Tryz.f167;simp only [gq,bw];simp only [↓wR,zT,simprocAttr,ae5,vj];rw [bz];refine ⟨fun ⟨h6,e6⟩=>?_,fun ⟨h6,e6⟩=>?_⟩;simp only [↓wR,zT,simprocAttr,h6];have aJ:=(lR e6).1;refine fm [0,3,5,8,7] (fun (x:Nat × List UInt8)=>[.sc (.int .u16 t.toNat),.ptr 0 0,.ptr 1 0,zi x.1,.sl 2 0 x.2.length 1]) (fun x=>[some (.row [zv d.names,zu d.nums,zn d.texts,zw d.raw] 0 2 101),some (.row [.sc (.int .i64 (cz t).names),.sc (.int .i64 (cz t).nums),.sc (.int .i64 (cz t).texts),.sc (.int .i64 (cz t).raw),.sc (.int .i64 (cz t).size)] 0 2 183),some (.row (x.2.map (bq.val false)) 0 0 5)]) (fun x=>x.1<=2/\x.2++(d.names.drop x.1).flatMap ku=te d) (fun x=>2 - x.1) (0,[]) ⟨zzb _,rfl⟩ zX ?_;rintro ⟨i,x⟩ ⟨hi,hx⟩;simp only at hi hx;simp only [↓wR,zT,simprocAttr];rw [bg];refine ⟨fun h=>?_,fun h=>?_⟩
 ·obtain ⟨c,hc⟩:∃ c,d.names[i]? = some c:=⟨_,zh zO⟩;have aF:=Dm hc;rw [A7 _ aF] at hx;have bP:x.length+(ku c).length<=(te d).length:=by rw [<- hx];simp
  repeat (first|simp only [↓wR,zT,simprocAttr,h,hc,qp,hd.name c (zm hc)]|simp (disch:=omega) only [zW])
  exact ⟨(i+1,x++ku c),⟨zO,by rw [zzc];exact hx⟩,by simp;omega,zF,zF⟩
 have aY:d.names.drop i=[]:=zzx zO;rw [aY] at hx;have iE:N3 t d=x:=by unfold N3;rw [if_pos e6];simpa using hx.symm
 obtain ⟨y1,hy1⟩:∃ y1,y1=x++wk t d:=⟨_,rfl⟩;rw [iE] at hpl ⊢;rw [<- hy1];have pN:y1.length<=83886080:=by rw [hy1,za];omega
 simp only [↓wR,zT,simprocAttr,h];refine fm [0,3,5,11,7] (fun (x:Nat × List UInt8)=>[.sc (.int .u16 t.toNat),.ptr 0 0,.ptr 1 0,zi x.1,.sl 2 0 x.2.length 1]) (fun x=>[some (.row [zv d.names,zu d.nums,zn d.texts,zw d.raw] 0 2 101),some (.row [.sc (.int .i64 (cz t).names),.sc (.int .i64 (cz t).nums),.sc (.int .i64 (cz t).texts),.sc (.int .i64 (cz t).raw),.sc (.int .i64 (cz t).size)] 0 2 183),some (.row (x.2.map (bq.val false)) 0 0 5)]) (fun x=>x.1<=d.nums.length/\x.2++(d.nums.drop x.1).flatMap (Bq t)=y1) (fun x=>d.nums.length - x.1) (0,x) ⟨zzb _,hy1.symm⟩ zX ?_;clear hx h hi aY h6 iE;rotate_left;simp only [↓wR,zT,simprocAttr,h6];have iE:N3 t d=[]:=by unfold N3;rw [if_neg e6]
 obtain ⟨y1,hy1⟩:∃ y1,y1=[]++wk t d:=⟨_,rfl⟩;rw [iE,<- hy1];have pN:y1.length<=83886080:=by rw [hy1,List.nil_append];omega
 refine fm [0,3,5,11,7] (fun (x:Nat × List UInt8)=>[.sc (.int .u16 t.toNat),.ptr 0 0,.ptr 1 0,zi x.1,.sl 2 0 x.2.length 1]) (fun x=>[some (.row [zv d.names,zu d.nums,zn d.texts,zw d.raw] 0 2 101),some (.row [.sc (.int .i64 (cz t).names),.sc (.int .i64 (cz t).nums),.sc (.int .i64 (cz t).texts),.sc (.int .i64 (cz t).raw),.sc (.int .i64 (cz t).size)] 0 2 183),some (.row (x.2.map (bq.val false)) 0 0 5)]) (fun x=>x.1<=d.nums.length/\x.2++(d.nums.drop x.1).flatMap (Bq t)=y1) (fun x=>d.nums.length - x.1) (0,[]) ⟨zzb _,hy1.symm⟩ zX ?_;clear h6 iE
 all_goals
  clear hy1 hpl;rintro ⟨i,x⟩ ⟨hi,hx⟩;simp only at hi hx;simp only [↓wR,zT,simprocAttr];rw [bg];refine ⟨fun h=>?_,fun h=>?_⟩
  ·obtain ⟨c,hc,aF,hlt⟩:=du (zp h);rw [A7 _ aF] at hx;have bP:x.length+(Bq t c).length<=y1.length:=by rw [<- hx];simp
   simp only [↓wR,zT,simprocAttr,h];refine ⟨zK,.inl ?_⟩
   repeat (first|simp only [↓wR,zT,simprocAttr,hc,Cu,hs,Qy]|simp (disch:=omega) only [zW])
   refine ⟨zK,?_⟩;exact ⟨(i+1,x++Bq t c),⟨hlt,by rw [zzc];exact hx⟩,by simp;omega,zF,zF⟩
  rw [eg (zq h)] at hx;obtain rfl:x=y1:=by simpa using hx
  clear hx;simp only [↓wR,zT,simprocAttr,h];clear h hi;obtain ⟨y2,hy2⟩:∃ y2,y2=x++ai5 t d:=⟨_,rfl⟩;have pM:y2.length<=100663296:=by rw [hy2,za];omega
  rw [<- hy2];refine fm [0,3,12,7] (fun (x:Nat × List UInt8)=>[.sc (.int .u16 t.toNat),.ptr 0 0,zi x.1,.sl 1 0 x.2.length 1]) (fun x=>[some (.row [zv d.names,zu d.nums,zn d.texts,zw d.raw] 0 2 101),some (.row (x.2.map (bq.val false)) 0 0 5)]) (fun p=>p.1<=d.names.length/\p.2++(if (t.toNat:Int)=6 then [] else (d.names.drop p.1).flatMap ku)=y2) (fun p=>d.names.length - p.1) (0,x) ⟨zzb _,hy2.symm⟩ zX ?_;clear hy2 pN;rintro ⟨i,z⟩ ⟨hi,hz⟩;simp only at hi hz;simp only [↓wR,zT,simprocAttr];rw [dg];refine ⟨fun ⟨h7,e7⟩=>?_,fun ⟨h7,e7⟩=>?_⟩
  all_goals try exact absurd e6 e7
  all_goals try exact absurd e7 e6
  first
   |(
    rw [if_pos e7] at hz;obtain rfl:z=y2:=by simpa using hz
    simp only [↓wR,zT,simprocAttr,h7])
   |(
    rw [if_neg e7] at hz;simp only [↓wR,zT,simprocAttr,h7];rw [bg];refine ⟨fun h8=>?_,fun h8=>?_⟩
    ·obtain ⟨c,hc,aF,hlt⟩:=du (zp h8);rw [A7 _ aF] at hz;have bP:z.length+(ku c).length<=y2.length:=by rw [<- hz];simp
     repeat (first|simp only [↓wR,zT,simprocAttr,h8,hc,qp,hd.name c (zm hc)]|simp (disch:=omega) only [zW])
     exact ⟨(i+1,z++ku c),⟨hlt,by rw [if_neg e7,zzc];exact hz⟩,by simp;omega,zF,zF⟩
    rw [eg (zq h8)] at hz;obtain rfl:z=y2:=by simpa using hz
    simp only [↓wR,zT,simprocAttr,h8])
  clear hz hi;obtain ⟨y3,jJ⟩:∃ y3,y3=z++rq t d:=⟨_,rfl⟩;have vW:y3.length<=117440512:=by rw [jJ,za];omega
  rw [<- jJ];refine fm [0,3,15,7] (fun (x:Nat × List UInt8)=>[.sc (.int .u16 t.toNat),.ptr 0 0,zi x.1,.sl 1 0 x.2.length 1]) (fun x=>[some (.row [zv d.names,zu d.nums,zn d.texts,zw d.raw] 0 2 101),some (.row (x.2.map (bq.val false)) 0 0 5)]) (fun p=>p.1<=d.texts.length/\p.2++ox t p.1 (d.texts.drop p.1)=y3) (fun p=>d.texts.length - p.1) (0,z) ⟨zzb _,jJ.symm⟩ zX ?_;clear jJ pM;rintro ⟨i,x⟩ ⟨hi,hx⟩;simp only at hi hx;simp only [↓wR,zT,simprocAttr];rw [bg];refine ⟨fun h=>?_,fun h=>?_⟩
  ·obtain ⟨c,hc,aF,hlt⟩:=du (zp h);rw [aai _ aF] at hx;have bP:x.length+((if (t.toNat:Int)=16\/i=0 then [UInt8.ofNat c.size] else []).length+c.size)<=y3.length:=by rw [<- hx];simp
   have hcs:c.data.toList.length=c.size:=by simp
   have fin:∀ b:List UInt8,x++(b++c.data.toList++ox t (i+1) (d.texts.drop (i+1)))=y3->x++b++c.data.toList++ox t (i+1) (d.texts.drop (i+1))=y3:=fun b hb=>by rw [<- hb];simp
   repeat (first|simp only [↓wR,zT,simprocAttr,h,hc]|simp (disch:=omega) only [zW])
   rw [bz];refine ⟨fun ⟨kL,nN⟩=>?_,fun ⟨kL,nN⟩=>?_⟩
   ·rw [if_pos (.inl nN)] at hx bP;simp only [List.length_cons,List.length_nil] at bP
    repeat (first|simp only [↓wR,zT,simprocAttr,kL,hc]|simp (disch:=omega) only [zW])
    exact ⟨(i+1,x++[UInt8.ofNat c.size]++c.data.toList),⟨hlt,fin _ hx⟩,by simp;omega,zF,zF⟩
   ·repeat (first|simp only [↓wR,zT,simprocAttr,kL]|simp (disch:=omega) only [zW])
    rw [bz];refine ⟨fun ⟨h0,e0⟩=>?_,fun ⟨h0,e0⟩=>?_⟩
    ·rw [if_pos (.inr zO)] at hx bP;simp only [List.length_cons,List.length_nil] at bP
     repeat (first|simp only [↓wR,zT,simprocAttr,h0,hc]|simp (disch:=omega) only [zW])
     exact ⟨(i+1,x++[UInt8.ofNat c.size]++c.data.toList),⟨hlt,fin _ hx⟩,by simp;omega,zF,zF⟩
    ·rw [if_neg zO] at hx bP;simp only [List.length_nil] at bP
     repeat (first|simp only [↓wR,zT,simprocAttr,h0,hc]|simp (disch:=omega) only [zW])
     exact ⟨(i+1,x++c.data.toList),⟨hlt,by have:=fin _ hx;simpa using this⟩,by simp;omega,zF,zF⟩
  rw [eg (zq h)] at hx;obtain rfl:x=y3:=by simpa [ox] using hx
  clear hx
  repeat (first|simp only [↓wR,zT,simprocAttr,h]|simp (disch:=omega) only [zW])
noncomputable def Jt (x:UInt16 × cj × Unit):Option AV:=if c7 x.2.1/\dx x.1 x.2.1=0 then some ((r1 (br bq)).E true (mw x.1 x.2.1)) else none
theorem ako (x:UInt16 × cj × Unit) (r:AV) (h:Jt x=some r):bf PP 167 ((aC cf (aC bc a0)).E x) r:=by obtain ⟨hc,rfl⟩:=zI h;exact aw (ar.cons (aq Tv) (ar.cons (aq V4) (ar.cons (aq afu) (ar.nil PP)))) Tryz.func167 zK zK zK zL (r1 (br bq)) true (mw x.1 x.2.1) (as0 x.1 x.2.1 hc.1 hc.2)
noncomputable abbrev aDm:zE:=(167,true,ct (aC cf (aC bc a0)) Jt)
noncomputable def ltD (t:UInt16) (a b:cj):Bool:=decide (Cl t a b<0)
theorem acx (s:ByteArray):i7 (fold s)=i7 s:=by unfold i7;rw [H8]
theorem Mn (n:Name):dk (ek n)=dk n:=by
 have h:sj (ek n)=sj n:=by
  unfold sj ek;rw [List.any_map]
  congr 1
  funext s
  simp only [Function.comp,acx]
 unfold dk;rw [h,Cv]
theorem ac0 (l:List Name):j6 (l.map ek)=j6 l:=by
 induction l with
 |nil=>rfl
 |cons a l ih=>simp only [List.map_cons,j6,Mn,ih]
theorem aes (n:Name) (h:dk n=0):(ku n).length=bp n:=by unfold ku;rw [if_neg zO];unfold nameBytes;rw [za,zyg,vg]
theorem Mi:∀ {l:List Name},j6 l=0->∀ n ∈ l,dk n=0
 | [],_,n,h=>by cases h
 |a::l,e,n,h=>by
  rw [j6] at e
  split at e
  ·contradiction
  ·rename_i q;rcases zya.1 h with rfl|h
   ·omega
   ·exact Mi e n h
theorem axa {l:List Name} (h:∀ n ∈ l,dk n=0):((l.map ek).flatMap ku).length=(l.flatMap ku).length:=by
 induction l with
 |nil=>rfl
 |cons a l ih=>
  have ha:=h a List.mem_cons_self;rw [List.map_cons,List.flatMap_cons,List.flatMap_cons,za,za,ih fun n hn=>h n (List.mem_cons_of_mem _ hn),aes _ (by rw [Mn];exact ha),aes _ ha,Cv]
theorem Nu {t:UInt16} {d:cj} (h:dx t d=0):dx t (l7 t d)=0:=by
 unfold l7
 split
 case isFalse=>exact h
 unfold dx at h ⊢
 split at h
 ·cases h
 rename_i h1
 split at h
 ·cases h
 rename_i h2
 split at h
 ·contradiction
 rename_i h3;have h4:=Mi (Decidable.not_not.1 h3);rw [if_neg h1,if_neg (by
  unfold ry at h2 ⊢;simpa only [zzo] using h2),if_neg (by rw [ac0];exact h3)]
 have h5:(mw t { d with names:=d.names.map ek }).length=(mw t d).length:=by
  unfold mw te wk rq
  split<;>simp only [za,axa h4]
 rw [h5];exact h
def Yq (l:List az):Bool:=l.all fun s=>!decide ((20:Int)<s.data.length)
def Oi (z:au):Bool:=Yq z.aj && decide ((z.aj.length:Int)<=40)
theorem aEi (z:au) (hz:bj z):wl PP [] 0 (Tryz.f20.body.getD .skip) (c8 PP Tryz.f20.results.toList (fun r st=>(r1 bk).get true st.h r=some (Oi z))) (cg 0 [be.val false z]) (bh []):=by
 have hl:=hz.len;unfold Tryz.f20;simp only [dr];simp only [↓wR,zT,simprocAttr];refine dq [1,3] (fun (i:Nat)=>[.ptr 0 0,zi i]) (fun _=>[(zZ z)]) (fun i=>i<=z.aj.length/\Yq z.aj=Yq (z.aj.drop i)) (fun i=>z.aj.length - i) 0 ⟨zzb _,rfl⟩ zS zS ?_;rintro i ⟨hi,hx⟩;simp only [↓wR,zT,simprocAttr];rw [bg];refine ⟨fun h=>?_,fun h=>?_⟩
 ·obtain ⟨c,hc,aF,hlt⟩:=du (zp h);have hx':Yq z.aj=(!decide ((20:Int)<c.data.length) && Yq (z.aj.drop (i+1))):=by rw [hx,aF];rfl
  repeat (first|simp only [↓wR,zT,simprocAttr,h,hc]|simp (disch:=omega) only [zW])
  rw [bg];refine ⟨fun h2=>?_,fun h2=>?_⟩
  ·rw [zp h2,Bool.not_true,Bool.false_and] at hx'
   repeat (first|simp only [↓wR,zT,simprocAttr,h2]|simp (disch:=omega) only [zW])
   rw [Oi,hx'];rfl
  ·rw [zq h2,Bool.not_false,Bool.true_and] at hx'
   repeat (first|simp only [↓wR,zT,simprocAttr,h2]|simp (disch:=omega) only [zW])
   exact ⟨i+1,⟨hlt,hx'⟩,zO,zF⟩
 ·rw [eg (zq h)] at hx;simp only [↓wR,zT,simprocAttr,h];rw [Oi,hx];rfl
noncomputable def Xn (x:au × Unit):Option AV:=if bj x.1 then some ((r1 bk).E true (Oi x.1)) else none
theorem avp (x:au × Unit) (r:AV) (h:Xn x=some r):bf PP 20 ((aC be a0).E x) r:=by obtain ⟨hc,rfl⟩:=zI h;exact aw (ar.nil PP) Tryz.func20 zK zK zK zL (r1 bk) true (Oi x.1) (aEi x.1 hc)
noncomputable abbrev aDc:zE:=(20,true,ct (aC be a0) Xn)
noncomputable def ff (z:au) (n:Name):Int:=if dy z≠0 then dy z else if dk n≠0 then dk n else if dp n z.origin=false then 2 else 0
theorem ayz (z:au) (n:Name) (hz:bj z) (hn:ay n):wl PP [aim,fk,Au] 0 (Tryz.f169.body.getD .skip) (c8 PP Tryz.f169.results.toList (fun r st=>(r1 (ba .i64)).get true st.h r=some (ff z n))) (cg 0 [be.val false z,ak.val false n]) (bh []):=by
 unfold Tryz.f169;simp only [dr,bw];simp only [↓wR,zT,simprocAttr,C6,hz];unfold ff;rw [cq];refine ⟨fun h=>?_,fun h=>?_⟩
 ·have he:dy z≠0:=by simpa using h
  rw [if_pos he];simp only [↓wR,zT,simprocAttr,h]
 have he:dy z=0:=by simpa using h
 rw [if_neg zO];simp only [↓wR,zT,simprocAttr,h,qh,hn.fit];rw [cq];refine ⟨fun h2=>?_,fun h2=>?_⟩
 ·have he:dk n≠0:=by simpa using h2
  rw [if_pos he];simp only [↓wR,zT,simprocAttr,h2]
 have rG:dk n=0:=by simpa using h2
 rw [if_neg zO];simp only [↓wR,zT,simprocAttr,h2,ot,hn,hz.origin];rw [cq];refine ⟨fun h3=>?_,fun h3=>?_⟩
 ·have dA:dp n z.origin=false:=by simpa only [zyd] using h3
  rw [if_pos dA];simp only [↓wR,zT,simprocAttr,h3]
 ·have dA:dp n z.origin=true:=by simpa only [zyh] using h3
  rw [if_neg (by rw [dA];decide)];simp only [↓wR,zT,simprocAttr,h3]
noncomputable def Jl (x:au × Name × Unit):Option AV:=if bj x.1/\ay x.2.1 then some ((r1 (ba .i64)).E true (ff x.1 x.2.1)) else none
theorem akh (x:au × Name × Unit) (r:AV) (h:Jl x=some r):bf PP 169 ((aC be (aC ak a0)).E x) r:=by obtain ⟨hc,rfl⟩:=zI h;exact aw (ar.cons (aq Iw) (ar.cons (aq qy) (ar.cons (aq qw) (ar.nil PP)))) Tryz.func169 zK zK zK zL (r1 (ba .i64)) true (ff x.1 x.2.1) (ayz x.1 x.2.1 hc.1 hc.2)
noncomputable abbrev aEs:zE:=(169,true,ct (aC be (aC ak a0)) Jl)
def dv (z:au):Name->Name
 | []=>[]
 |a::r=>if nc z (a::r)=true then a::r else dv z r
theorem Ft {z:au} {m:Name} (hu:dp m z.origin=true) (hh:nc z m=false):∃ a r,m=a::r/\dp r z.origin=true/\dv z m=dv z r:=by
 have hs:dm m z.origin=false:=by
  unfold nc at hh;rw [hu,Bool.true_and] at hh;cases h:dm m z.origin with
  |false=>rfl
  |true=>rw [h] at hh;cases hh
 have bD:ek z.origin <:+ ek m:=by simpa [dp] using hu
 have hs':ek m≠ek z.origin:=by simpa [dm] using hs
 cases m with
 |nil=>exact (hs' (List.suffix_nil.1 (by simpa only [ek,List.map_nil] using bD)).symm).elim
 |cons a r=>
  refine ⟨a,r,rfl,?_,by rw [dv,if_neg (by rw [hh];decide)]⟩;have h2:ek z.origin <:+ fold a::ek r:=bD;rcases List.suffix_cons_iff.1 h2 with h3|h3
  ·exact (hs' h3.symm).elim
  ·simpa [dp] using h3
theorem yk {z:au} {m:Name} (hh:nc z m=true):dv z m=m:=by
 cases m with
 |nil=>rfl
 |cons a r=>rw [dv,if_pos hh]
theorem aof (z:au) (n:Name) (hz:bj z) (hn:ay n) (hu:dp n z.origin=true):wl PP [aEe,uq] 0 (Tryz.f170.body.getD .skip) (c8 PP Tryz.f170.results.toList (fun r st=>(r1 ak).get true st.h r=some (dv z n))) (cg 0 [be.val false z,ak.val false n]) (bh []):=by
 unfold Tryz.f170;simp only [dr,bw];simp only [↓wR,zT,simprocAttr];refine dq [1,2] (fun (m:Name)=>[zn m,.ptr 0 0]) (fun _=>[(zZ z)]) (fun m=>ay m/\dp m z.origin=true/\dv z n=dv z m) (fun m=>m.length) n ⟨hn,hu,rfl⟩ zS zS ?_;rintro m ⟨hm,wT,hx⟩;simp only [↓wR,zT,simprocAttr,P8,hz,hm];rw [cq];refine ⟨fun h=>?_,fun h=>?_⟩
 ·simp only [↓wR,zT,simprocAttr,h,nv,hm];rw [hx,yk h]
 ·obtain ⟨a,r,rfl,qA,hcr⟩:=Ft wT h;have hr:ay r:=hm.drop 1;rw [hcr] at hx;simp only [↓wR,zT,simprocAttr,h];exact ⟨r,⟨hr,qA,hx⟩,by simp,rfl⟩
noncomputable def Ee (x:au × Name × Unit):Option AV:=if (bj x.1/\ay x.2.1)/\dp x.2.1 x.1.origin=true then some ((r1 ak).E true (dv x.1 x.2.1)) else none
theorem acj (x:au × Name × Unit) (r:AV) (h:Ee x=some r):bf PP 170 ((aC be (aC ak a0)).E x) r:=by obtain ⟨hc,rfl⟩:=zI h;exact aw (ar.cons (aq Zr) (ar.cons (aq pz) (ar.nil PP))) Tryz.func170 zK zK zK zL (r1 ak) true (dv x.1 x.2.1) (aof x.1 x.2.1 hc.1.1 hc.1.2 hc.2)
noncomputable abbrev ayy:zE:=(170,true,ct (aC be (aC ak a0)) Ee)
theorem xp (z:au) (n:Name):∃ k,dv z n=n.drop k:=by
 induction n with
 |nil=>exact ⟨0,rfl⟩
 |cons a r ih=>
  unfold dv
  split
  ·exact ⟨0,rfl⟩
  ·obtain ⟨k,hk⟩:=ih;exact ⟨k+1,by rw [hk];rfl⟩
theorem Mt {z:au} {n:Name} (hn:ay n):ay (dv z n):=by obtain ⟨k,hk⟩:=xp z n;rw [hk];exact hn.drop k
theorem axu (n:Name) (hn:ay n):wl PP [] 0 (Tryz.f171.body.getD .skip) (c8 PP Tryz.f171.results.toList (fun r st=>(r1 ak).get true st.h r=some (oc::n))) (cg 0 [ak.val false n]) (bh []):=by have hl:=hn.lt;have aD:(n.length+1) * 16<=140737488355328:=zO;unfold Tryz.f171;simp only [bw];simp only [↓wR,zT,simprocAttr,aD,Nat.add_comm 1 n.length];rfl
noncomputable def J2 (x:Name × Unit):Option AV:=if ay x.1 then some ((r1 ak).E true (oc::x.1)) else none
theorem ara (x:Name × Unit) (r:AV) (h:J2 x=some r):bf PP 171 ((aC ak a0).E x) r:=by obtain ⟨hc,rfl⟩:=zI h;exact aw (ar.nil PP) Tryz.func171 zK zK zK zL (r1 ak) true (oc::x.1) (axu x.1 hc)
noncomputable abbrev aFo:zE:=(171,true,ct (aC ak a0) J2)
theorem aci (n:Name) (k:Nat):bp (n.drop k)<=bp n:=by have:=l5 (n.take k) (n.drop k);rw [zzm] at this;have h1:=(ja (n.take k) 0).2;omega
theorem Ld {z:au} {n:Name} (h:dk n=0):ay (oc::dv z n):=by obtain ⟨k,hk⟩:=xp z n;have h1:=aci n k;have h2:=vp h;have h3:=l5 [oc] (dv z n);have h4:bp [oc]=3:=rfl;rw [hk] at h3 ⊢;simp only [List.singleton_append] at h3;unfold ay;omega
theorem u1 {z:au} {n:Name} (h:ff z n=0):dy z=0/\dk n=0/\dp n z.origin=true:=by
 unfold ff at h
 split at h
 ·contradiction
 split at h
 ·contradiction
 split at h
 ·cases h
 ·rename_i h1 h2 h3;exact ⟨zO,zO,by simpa using h3⟩
noncomputable def ic (z:au) (n:Name):D5 × Int:=
 if ff z n≠0 then (Bu 0 [] [],ff z n)
 else match ka z n with
  |some c=>(Bu 4 c [],0)
  |none=>
   if 0<(ew z n).length then (Bu 1 n (dv z n),0)
   else if (dv z n).length=n.length then (Bu 2 [] (dv z n),0)
   else if nc z (oc::dv z n)=true then (Bu 3 (oc::dv z n) (dv z n),0)
   else (Bu 0 [] (dv z n),0)
theorem aAu (z:au) (n:Name) (hz:bj z) (hn:ay n):wl PP [aEs,aEn,ayy,zAt,uq,aFo,aEe] 0 (Tryz.f132.body.getD .skip) (c8 PP Tryz.f132.results.toList (fun r st=>(r2 m8 (ba .i64)).get true st.h r=some (ic z n))) (cg 0 [be.val false z,ak.val false n]) (bh []):=by
 unfold Tryz.f132;simp only [dr,bw];simp only [↓wR,zT,simprocAttr,Jl,hz,hn];unfold ic;rw [cq];refine ⟨fun h=>?_,fun h=>?_⟩
 ·have he:ff z n≠0:=by simpa using h
  rw [if_pos he];simp only [↓wR,zT,simprocAttr,h]
 have he:ff z n=0:=by simpa using h
 obtain ⟨a1,a2,a3⟩:=u1 he;rw [if_neg zO];have hcs:=Mt (z:=z) hn;have hst:=Ld (z:=z) a2;cases hc:ka z n with
 |some c=>
  simp only [↓wR,zT,simprocAttr,h,Hr,hz,hn,hc]
 |none=>
  simp only [↓wR,zT,simprocAttr,h,Hr,hz,hn,hc,Option.isSome_none,Ee,a3,ad7];rw [bg];refine ⟨fun h1=>?_,fun h1=>?_⟩
  ·rw [if_pos zO];simp only [↓wR,zT,simprocAttr,h1,nv,hn]
  rw [if_neg zO];simp only [↓wR,zT,simprocAttr,h1];rw [bz];refine ⟨fun ⟨h2,e2⟩=>?_,fun ⟨h2,e2⟩=>?_⟩
  ·rw [if_pos zO];simp only [↓wR,zT,simprocAttr,h2]
  rw [if_neg zO];simp only [↓wR,zT,simprocAttr,h2];refine ⟨zK,.inl ?_⟩;simp only [↓wR,zT,simprocAttr,J2,hcs,P8,hz,hst];refine ⟨zK,?_⟩;rw [cq];refine ⟨fun h3=>?_,fun h3=>?_⟩
  ·rw [if_pos h3];simp only [↓wR,zT,simprocAttr,h3,J2,hcs]
  ·rw [if_neg (by rw [h3];decide)];simp only [↓wR,zT,simprocAttr,h3]
noncomputable def Pn (x:au × Name × Unit):Option AV:=if bj x.1/\ay x.2.1 then some ((r2 m8 (ba .i64)).E true (ic x.1 x.2.1)) else none
theorem aod (x:au × Name × Unit) (r:AV) (h:Pn x=some r):bf PP 132 ((aC be (aC ak a0)).E x) r:=by obtain ⟨hc,rfl⟩:=zI h;exact aw (ar.cons (aq akh) (ar.cons (aq abl) (ar.cons (aq acj) (ar.cons (aq ay2) (ar.cons (aq pz) (ar.cons (aq ara) (ar.cons (aq Zr) (ar.nil PP)))))))) Tryz.func132 zK zK zK zL (r2 m8 (ba .i64)) true (ic x.1 x.2.1) (aAu x.1 x.2.1 hc.1 hc.2)
noncomputable abbrev aFt:zE:=(132,true,ct (aC be (aC ak a0)) Pn)
end Go.Proofs.YtgencolcibpcaaaGreat
end
section
namespace Go.Proofs.YtgencolcibpcaaaGreat
open Go.Vm
theorem aag (a:Name):dm a a=true:=sr.2 rfl
theorem W6 (a:Name):dp a a=true:=xq.2 (List.suffix_refl _)
theorem ao3 (a:ByteArray) (n:Name):dp (a::n) n=true:=xq.2 (List.suffix_cons _ _)
theorem aco {z:au}:∀ {n:Name},dp n z.origin=true->nc z (dv z n)=true/\dp n (dv z n)=true:=by
 intro n
 induction n with
 |nil=>
  intro hu;cases hh:nc z [] with
  |true=>exact ⟨hh,W6 _⟩
  |false=>obtain ⟨a,r,h,_⟩:=Ft hu hh;cases h
 |cons a n ih=>
  intro hu;cases hh:nc z (a::n) with
  |true=>rw [yk hh];exact ⟨hh,W6 _⟩
  |false=>
   obtain ⟨a',r,h,hr,hc⟩:=Ft hu hh;cases h;rw [hc];obtain ⟨h1,h2⟩:=ih hr;exact ⟨h1,aj0 (ao3 a n) h2⟩
theorem ap8 {z:au} {n:Name} (h:(dv z n).length=n.length):dv z n=n:=by
 obtain ⟨k,hk⟩:=xp z n;rw [hk] at h ⊢;rw [zzt] at h;cases n with
 |nil=>exact List.drop_nil
 |cons a n=>
  have:k=0:=by simp at h;omega
  rw [this];rfl
theorem ag0 {z:au} {n:Name} (h:(dv z n).length≠n.length):nc z n=false:=by
 cases hh:nc z n with
 |false=>rfl
 |true=>rw [yk hh] at h;exact (h rfl).elim
theorem aEj {z:au} {n:Name} (hg:Fo z) (hp : 0<(ew z n).length):nc z n=true:=by obtain ⟨s,hs⟩:=List.exists_mem_of_length_pos hp;obtain ⟨hs1,hs2⟩:=List.mem_filter.1 hs;have hi:=hg.inside s hs1;unfold nc;rw [<- ajs hs2,hi,Bool.true_and,Bool.or_eq_true];exact .inr (List.any_eq_true.2 ⟨s,hs1,aqa hs2⟩)
inductive aDp (z:au) (n:Name):Prop
 |beyond (c:Name) (hc:ka z n=some c) (h:ic z n=(Bu 4 c [],0))
 |exact (hc:ka z n=none) (hp : 0<(ew z n).length) (hh:nc z n=true) (h:ic z n=(Bu 1 n n,0))
 |empty (hc:ka z n=none) (hp:ew z n=[]) (hh:nc z n=true) (h:ic z n=(Bu 2 [] n,0))
 |aGq (hc:ka z n=none) (hp:ew z n=[]) (hh:nc z n=false) (hs:nc z (oc::dv z n)=true) (h:ic z n=(Bu 3 (oc::dv z n) (dv z n),0))
 |none (hc:ka z n=none) (hp:ew z n=[]) (hh:nc z n=false) (hs:nc z (oc::dv z n)=false) (h:ic z n=(Bu 0 [] (dv z n),0))
theorem Xz {z:au} {n:Name} (h:ff z n=0):aDp z n:=by
 obtain ⟨h1,h2,h3⟩:=u1 h;have hg:=B7 h1;have hf:ic z n=match ka z n with
  |some c=>(Bu 4 c [],0)
  |none=>
   if 0<(ew z n).length then (Bu 1 n (dv z n),0)
   else if (dv z n).length=n.length then (Bu 2 [] (dv z n),0)
   else if nc z (oc::dv z n)=true then (Bu 3 (oc::dv z n) (dv z n),0)
   else (Bu 0 [] (dv z n),0):=by unfold ic;rw [if_neg zO]<;>rfl
 cases hc:ka z n with
 |some c=>rw [hc] at hf;exact .beyond c hc hf
 |none=>
  rw [hc] at hf;simp only at hf
  split at hf
  ·rename_i hp;have hh:=aEj hg hp;rw [yk hh] at hf;exact .exact hc hp hh hf
  rename_i hp;have hp:ew z n=[]:=zzf zO
  split at hf
  ·rename_i hl;have he:=ap8 hl;have hh:=(aco h3).1;rw [he] at hh hf;exact .empty hc hp hh hf
  rename_i hl;have hh:=ag0 hl
  split at hf
  ·rename_i hs;exact .aGq hc hp hh hs hf
  ·rename_i hs;exact .none hc hp hh (by simpa using hs) hf
theorem Ua {z:au} {n:Name} (h:ff z n≠0):ic z n=(Bu 0 [] [],ff z n):=by unfold ic;rw [if_pos h]
end Go.Proofs.YtgencolcibpcaaaGreat
end
section
namespace Go.Proofs.YtgencolcibpcaaaGreat
open Go.Vm
def Ez (l:List az):Prop:=gh nl l<=16777216
instance (l:List az):Decidable (Ez l):=inferInstanceAs (Decidable (_<=_))
theorem Ez.mem {l:List az} (h:Ez l):∀ s ∈ l,dh s:=fun s hs=>by have h1:nl s<gh nl l:=Co hs;unfold Ez at h;unfold dh;omega
theorem Ez.len {l:List az} (h:Ez l):l.length<=16777216:=zzu (Dq nl l) h
theorem bj.aj {z:au} (h:bj z):Ez z.aj:=by unfold bj O6 at h;unfold Ez;omega
def se (l:List az):Prop:=l.length<=281474976710656/\∀ s ∈ l,dh s
instance (l:List az):Decidable (se l):=inferInstanceAs (Decidable (_/\_))
theorem bj.mid {z:au} (h:bj z):se z.aj:=⟨zzu h.aj.len (by decide),h.aj.mem⟩
def tw (n:Name) (t:UInt16) (s:az):Bool:=decide ((s.type.toNat:Int)=t.toNat) && (decide ((s.cls.toNat:Int)=1) && dm s.owner n)
def ru (l:List az) (n:Name) (t:UInt16):Option az:=l.find? (tw n t)
def Kn:az:=mkS [] 0 0 0 []
theorem Y4 {l:List az} {p:az->Bool} {i:Nat} {c:az} (h:l.drop i=c::l.drop (i+1)):(l.drop i).find? p=if p c=true then some c else (l.drop (i+1)).find? p:=by rw [h,List.find?_cons];split<;>simp_all
theorem at4 (l:List az) (n:Name) (t:UInt16) (hl:se l) (hn:ay n):wl PP [ee,vr] 0 (Tryz.f9.body.getD .skip) (c8 PP Tryz.f9.results.toList (fun r st=>(r2 ai bk).get true st.h r=some ((ru l n t).getD Kn,(ru l n t).isSome))) (cg 0 [(br ai).val false l,ak.val false n,cf.val false t]) (bh []):=by
 have hlen:=hl.1;unfold Tryz.f9;simp only [bw];simp only [↓wR,zT,simprocAttr];refine dq [1,2,6,10,11,12] (fun (i:Nat)=>[zn n,.sc (.int .u16 t.toNat),.ptr 0 0,zs l,zi l.length,zi i]) (fun _=>[some (.row [.sc (.slice none 0 0),.sc (.int .u16 0),.sc (.int .u16 0),.sc (.int .u32 0),.sc (.slice none 0 0)] 0 2 31)]) (fun i=>i<=l.length/\ru l n t=(l.drop i).find? (tw n t)) (fun i=>l.length - i) 0 ⟨zzb _,rfl⟩ zS zS ?_;rintro i ⟨hi,hx⟩;simp only [↓wR,zT,simprocAttr];rw [bg];refine ⟨fun h=>?_,fun h=>?_⟩
 ·obtain ⟨c,hc,aF,hlt⟩:=du (zp h);rw [Y4 aF] at hx;have hcs:=hl.2 c (zm hc);simp only [↓wR,zT,simprocAttr,h,hc];rw [bz];refine ⟨fun ⟨h1,e1⟩=>?_,fun ⟨h1,e1⟩=>?_⟩
  ·simp only [↓wR,zT,simprocAttr,h1];rw [bz];refine ⟨fun ⟨h2,e2⟩=>?_,fun ⟨h2,e2⟩=>?_⟩
   ·simp only [↓wR,zT,simprocAttr,h2,jx,hcs.owner,hn];rw [cq];refine ⟨fun h3=>?_,fun h3=>?_⟩
    ·have hp:tw n t c=true:=by simp [tw,e1,e2,h3]
     rw [if_pos hp] at hx
     repeat (first|simp only [↓wR,zT,simprocAttr,h3,qb,hcs,hx]|simp (disch:=omega) only [zW])
    ·have hp:tw n t c=false:=by simp [tw,h3]
     rw [hp,if_neg (by decide)] at hx
     repeat (first|simp only [↓wR,zT,simprocAttr,h3]|simp (disch:=omega) only [zW])
     exact ⟨i+1,⟨hlt,hx⟩,zO,zF⟩
   ·have hp:tw n t c=false:=by simp [tw,e2]
    rw [hp,if_neg (by decide)] at hx
    repeat (first|simp only [↓wR,zT,simprocAttr,h2]|simp (disch:=omega) only [zW])
    exact ⟨i+1,⟨hlt,hx⟩,zO,zF⟩
  ·have hp:tw n t c=false:=by simp [tw,e1]
   rw [hp,if_neg (by decide)] at hx
   repeat (first|simp only [↓wR,zT,simprocAttr,h1]|simp (disch:=omega) only [zW])
   exact ⟨i+1,⟨hlt,hx⟩,zO,zF⟩
 ·rw [eg (zq h),List.find?_nil] at hx;simp only [↓wR,zT,simprocAttr,h,hx];rfl
noncomputable def F4 (x:List az × Name × UInt16 × Unit):Option AV:=if se x.1/\ay x.2.1 then some ((r2 ai bk).E true (((ru x.1 x.2.1 x.2.2.1).getD Kn,(ru x.1 x.2.1 x.2.2.1).isSome))) else none
theorem Im (x:List az × Name × UInt16 × Unit) (r:AV) (h:F4 x=some r):bf PP 9 ((aC (br ai) (aC ak (aC cf a0))).E x) r:=by obtain ⟨hc,rfl⟩:=zI h;exact aw (ar.cons (aq j3) (ar.cons (aq ug) (ar.nil PP))) Tryz.func9 zK zK zK zL (r2 ai bk) true (((ru x.1 x.2.1 x.2.2.1).getD Kn,(ru x.1 x.2.1 x.2.2.1).isSome)) (at4 x.1 x.2.1 x.2.2.1 hc.1 hc.2)
noncomputable abbrev J9:zE:=(9,true,ct (aC (br ai) (aC ak (aC cf a0))) F4)
theorem az6 (fr h):cf.fq fr h (.sc (.int .u16 1))=some 1:=xf fr h 1
theorem az1 (fr h):cf.fq fr h (.sc (.int .u16 2))=some 2:=xf fr h 2
theorem azt (fr h):cf.fq fr h (.sc (.int .u16 5))=some 5:=xf fr h 5
theorem aAm (fr h):cf.fq fr h (.sc (.int .u16 6))=some 6:=xf fr h 6
theorem avr (fr h):cf.fq fr h (.sc (.int .u16 28))=some 28:=xf fr h 28
theorem aEq:type_of% @az6/\type_of% @az1/\type_of% @azt/\type_of% @aAm/\type_of% @avr:=⟨@az6,@az1,@azt,@aAm,@avr⟩
theorem I0 (fr h k st et) (s:az) (hro:Af fr st 5 ai.kd et=true):kf ai fr h 0 1 (.row [.vl true 1 (s.owner.map (ah.val false)),.sc (.int .u16 s.type.toNat),.sc (.int .u16 s.cls.toNat),.sc (.int .u32 s.jb.toNat),.vl true 4 (s.data.map (bc.val true))] k st et)=some [s]:=oz ai fr h true [s] k st et 1 rfl rfl hro
theorem jh.aej {bb:Nat} {vs vs':List AV} {os os':List (Option bo)} (hp:bb<=1000) (hV:AV.da.go (fun o=>idx (rh bb vs os) o 0) vs=vs') (hO:jc (bh os).h (fun o=>idx (rh bb vs os) o 0) (rh bb vs os)=os'):jh bb vs os vs' os':=by subst hV hO;exact jh.canon hp
noncomputable def pd (z:au) (n:Name) (t:UInt16):D5 × Int:=
 if (ic z n).2=0/\((t.toNat:Int)=0\/(t.toNat:Int)=41) then (Bu 0 [] [],6) else ic z n
theorem avz (z:au) (n:Name) (t:UInt16) (hz:bj z) (hn:ay n):wl PP [aFt] 0 (Tryz.f93.body.getD .skip) (c8 PP Tryz.f93.results.toList (fun r st=>(r2 m8 (ba .i64)).get true st.h r=some (pd z n t))) (cg 0 [be.val false z,ak.val false n,cf.val false t]) (bh []):=by
 unfold Tryz.f93;simp only [dr,bw];unfold pd;rcases hf:ic z n with ⟨⟨k,nd,cl⟩,e⟩
 simp only [↓wR,zT,simprocAttr,Pn,hz,hn,hf];rw [bz];refine ⟨fun ⟨h1,e1⟩=>?_,fun ⟨h1,e1⟩=>?_⟩
 ·simp only [↓wR,zT,simprocAttr,h1];rw [bz];refine ⟨fun ⟨h2,e2⟩=>?_,fun ⟨h2,e2⟩=>?_⟩
  ·rw [if_pos ⟨e1,.inl e2⟩];simp only [↓wR,zT,simprocAttr,h2]
  ·simp only [↓wR,zT,simprocAttr,h2];rw [bz];refine ⟨fun ⟨h3,e3⟩=>?_,fun ⟨h3,e3⟩=>?_⟩
   ·rw [if_pos ⟨e1,.inr e3⟩];simp only [↓wR,zT,simprocAttr,h3]
   ·rw [if_neg (fun q=>q.2.elim e2 e3)];simp only [↓wR,zT,simprocAttr,h3];rfl
 ·rw [if_neg (fun q=>e1 q.1)];simp only [↓wR,zT,simprocAttr,h1];rfl
noncomputable def Yp (x:au × Name × UInt16 × Unit):Option AV:=if bj x.1/\ay x.2.1 then some ((r2 m8 (ba .i64)).E true (pd x.1 x.2.1 x.2.2.1)) else none
theorem aka (x:au × Name × UInt16 × Unit) (r:AV) (h:Yp x=some r):bf PP 93 ((aC be (aC ak (aC cf a0))).E x) r:=by obtain ⟨hc,rfl⟩:=zI h;exact aw (ar.cons (aq aod) (ar.nil PP)) Tryz.func93 zK zK zK zL (r2 m8 (ba .i64)) true (pd x.1 x.2.1 x.2.2.1) (avz x.1 x.2.1 x.2.2.1 hc.1 hc.2)
theorem It {s:az} (h:k6 s=0):∃ d,s.data[0]? = some d/\dx s.type d=0:=by
 unfold k6 at h
 split at h
 ·contradiction
 split at h
 ·cases h
 rename_i _ q
 split at h
 ·cases h
 cases hd:s.data with
 |nil=>exact (q (by rw [hd];rfl)).elim
 |cons d r=>
  rw [hd,py] at h
  split at h
  ·contradiction
  ·rename_i q;exact ⟨d,rfl,zO⟩
theorem W9 {s:az} (h:k6 s=0):∀ d ∈ s.data,dx s.type d=0:=by
 have key:∀ (l pre:List cj),py s.type pre l=0->∀ d ∈ l,dx s.type d=0:=by
  intro l
  induction l with
  |nil=>intro pre _ d hd;cases hd
  |cons a l ih=>
   intro pre h d hd;rw [py] at h
   split at h
   ·contradiction
   split at h
   ·cases h
   rcases zya.1 hd with rfl|hd
   ·omega
   ·exact ih _ h d hd
 unfold k6 at h
 split at h
 ·contradiction
 split at h
 ·cases h
 split at h
 ·cases h
 exact key _ _ h
theorem Le {t:UInt16} {d:cj} (h:dx t d=0):(d.names.length:Int)=(cz t).names/\(d.nums.length:Int)=(cz t).nums:=by
 have hf:ry (cz t) t d=true:=by
  unfold dx at h
  split at h
  ·cases h
  split at h
  ·cases h
  ·rename_i q;simpa using q
 unfold ry at hf
 split at hf
 ·cases hf
 ·rename_i q;exact ⟨Decidable.byContradiction fun e=>q (.inl e),Decidable.byContradiction fun e=>q (.inr (.inl e))⟩
theorem T7 {s:az} (h:k6 s=0) (ht:(s.type.toNat:Int)=5):∃ d n,s.data[0]? = some d/\d.names[0]? = some n:=by
 obtain ⟨d,hd,he⟩:=It h;have h1:=(Le he).1;have h2:(cz s.type).names=1:=by unfold cz;rw [ht];rfl
 rw [h2] at h1;have : 0<d.names.length:=zO;exact ⟨d,d.names[0],hd,zh this⟩
theorem aso {s:az} (h:k6 s=0) (ht:(s.type.toNat:Int)=6):∃ d k,s.data[0]? = some d/\d.nums[4]? = some k:=by
 obtain ⟨d,hd,he⟩:=It h;have h1:=(Le he).2;have h2:(cz s.type).nums=5:=by unfold cz;rw [ht];rfl
 rw [h2] at h1;have : 4<d.nums.length:=zO;exact ⟨d,d.nums[4],hd,zh this⟩
theorem Ad {z:au} (h:dy z=0):∀ s ∈ z.aj,k6 s=0:=by
 have hf:=(B7 h).first
 unfold oh at hf
 split at hf
 ·contradiction
 have key:∀ (l:List az) (e:Int),nb l e=0->e=0/\∀ s ∈ l,k6 s=0:=by
  intro l
  induction l with
  |nil=>intro e h;exact ⟨h,fun s hs=>by cases hs⟩
  |cons a l ih=>
   intro e h;rw [nb] at h;obtain ⟨h1,h2⟩:=ih _ h
   split at h1
   ·rename_i e0;exact ⟨e0,fun s hs=>(zya.1 hs).elim (fun q=>q ▸ h1) (h2 s)⟩
   ·rename_i e0;exact (e0 h1).elim
 exact (key _ _ hf).2
theorem Fk {l:List az} {n:Name} {t:UInt16} {s:az} (h:ru l n t=some s):s ∈ l/\(s.type.toNat:Int)=t.toNat/\(s.cls.toNat:Int)=1/\dm s.owner n=true:=by have h1:=List.mem_of_find?_eq_some h;have h2:=List.find?_some h;simp only [tw,zzh,decide_eq_true_eq] at h2;exact ⟨h1,h2.1,h2.2.1,h2.2.2⟩
def ly (n:Name) (s:az):az:=mkS n s.type s.cls s.jb s.data
theorem Z9 {xs:List az} {i:Nat} {c:az} (n:Name) (k:Nat) (et:TypeId) (id:Nat) (hc:xs[i]? = some c) :
 F7 id (i * 5) 1 [ak.val true n] (.row (cellsOf ai true xs) 0 k et)=(sf id (.row (cellsOf ai true (xs.take i++ly n c::xs.drop (i+1))) 0 k et)).bind fun _=>.pure (.sc undef):=by
 obtain ⟨hi,rfl⟩:=zg.1 hc;have h0:xs=xs.take i++xs[i]::xs.drop (i+1):=by rw [<- zzs hi,zzm]
 have hl:(cellsOf ai true xs).length=xs.length * 5:=yi ai true xs;have h1:(cellsOf ai true xs).take (i * 5)=cellsOf ai true (xs.take i):=agi ai true xs i;have h2:(cellsOf ai true xs).drop (i * 5)=cellsOf ai true (xs.drop i):=ah0 ai true xs i;have h3:(cellsOf ai true xs).drop (i * 5+1)=(ai.cells true xs[i]).drop 1++cellsOf ai true (xs.drop (i+1)):=by rw [<- List.drop_drop,h2,zzs hi,uc];rfl
 have hlt:i * 5+1<=xs.length * 5:=zO;have h4:(cellsOf ai true xs).take (i * 5)++[ak.val true n]++(cellsOf ai true xs).drop (i * 5+1)=cellsOf ai true (xs.take i++ly n xs[i]::xs.drop (i+1)):=by rw [h1,h3,Iz,uc,zzc];rfl
 have bW:[ak.val true n].all AV.one=true:=rfl;unfold F7;simp only [hl,Nat.ble_eq_true_of_le hlt,h4,bW];rfl
def Q0 (t:UInt16) (l:List az):th:=
 if (t.toNat:Int)=255/\0<l.length then sd 0 l []
 else match l.find? (fun s=>decide ((s.type.toNat:Int)=t.toNat)) with
  |some x=>sd 0 [x] []
  |none=>match l.find? (fun s=>decide ((s.type.toNat:Int)=5) && decide ((t.toNat:Int)≠255)) with
   |some x=>sd 1 [x] (((x.data[0]?).bind fun d=>d.names[0]?).getD [])
   |none=>sd 2 [] []
noncomputable def rz (z:au) (n:Name) (t:UInt16) (s:D5):th:=
 if s.kind=4 then sd 4 [(ru z.aj s.node 2).getD Kn] []
 else if s.kind=0 then sd 3 [] []
 else if s.kind=2 then sd 2 [] []
 else Q0 t (if s.kind=3 then (ew z s.node).map (ly n) else ew z s.node)
theorem m11:z8 1 [1]=true:=id rfl
theorem m01:z8 0 [1]=false:=id rfl
end Go.Proofs.YtgencolcibpcaaaGreat
end
section
namespace Go.Vm
variable [TK]
noncomputable section
def afo (a b:AV) (e:M AV):M AV:=
 match a,b with
 |.sc (.int k x),.sc (.int _ y)=>.pure (.sc (.int k (if y<x then y else x)))
 |_,_=>e
def ahf (a b:AV) (e:M AV):M AV:=
 match a,b with
 |.sc (.int k x),.sc (.int _ y)=>.pure (.sc (.int k (if y > x then y else x)))
 |_,_=>e
theorem atf (k k' x y e):afo (.sc (.int k x)) (.sc (.int k' y)) e = .pure (.sc (.int k (if y<x then y else x))):=id rfl
theorem aud (k k' x y e):ahf (.sc (.int k x)) (.sc (.int k' y)) e = .pure (.sc (.int k (if y > x then y else x))):=id rfl
theorem an9 (P:Program) (ρ:Operand->AV) (d ty pos af gd) (x y:Operand) (ts):kh P ρ ⟨d,.call { callee:=.builtin .min,args:=#[x,y],argTypes:=ts },ty,pos,af,gd⟩ [x,y]=afo (ρ x) (ρ y) (As P ρ ⟨d,.call { callee:=.builtin .min,args:=#[x,y],argTypes:=ts },ty,pos,af,gd⟩ [x,y]):=by
 unfold afo
 split
 ·rename_i k a k' b hx hy;have h2:execOp (fun z=>((ρ z).gw).getD undef) ⟨d,.call { callee:=.builtin .min,args:=#[x,y],argTypes:=ts },ty,pos,af,gd⟩=(do pure (Next.value (<- Builtin.min_ ts ty #[.int k a,.int k' b]))):=by
   simp [execOp,resolve,invoke,builtin,hx,hy,AV.gw]
  have h3:ev P (Builtin.min_ ts ty #[.int k a,.int k' b])=some (.int k (if b<a then b else a)):=by simp [Builtin.min_,Builtin.min2,ev];rfl
  unfold kh k9 tc;simp [hx,hy,AV.gw];rw [h2,Js,h3];rfl
 ·rfl
theorem aqy (P:Program) (ρ:Operand->AV) (d ty pos af gd) (x y:Operand) (ts):kh P ρ ⟨d,.call { callee:=.builtin .max,args:=#[x,y],argTypes:=ts },ty,pos,af,gd⟩ [x,y]=ahf (ρ x) (ρ y) (As P ρ ⟨d,.call { callee:=.builtin .max,args:=#[x,y],argTypes:=ts },ty,pos,af,gd⟩ [x,y]):=by
 unfold ahf
 split
 ·rename_i k a k' b hx hy;have h2:execOp (fun z=>((ρ z).gw).getD undef) ⟨d,.call { callee:=.builtin .max,args:=#[x,y],argTypes:=ts },ty,pos,af,gd⟩=(do pure (Next.value (<- Builtin.max_ ts ty #[.int k a,.int k' b]))):=by
   simp [execOp,resolve,invoke,builtin,hx,hy,AV.gw]
  have h3:ev P (Builtin.max_ ts ty #[.int k a,.int k' b])=some (.int k (if b > a then b else a)):=by simp [Builtin.max_,Builtin.max2,ev];rfl
  unfold kh k9 tc;simp [hx,hy,AV.gw];rw [h2,Js,h3];rfl
 ·rfl
theorem O5 (P:Program) (T:eh) (ρ:Operand->AV) (d ty pos af gd) (s x ts):gz P T ⟨d,.call { callee:=.builtin .min,args:=#[s,x],argTypes:=ts },ty,pos,af,gd⟩ ρ=mono (afo (ρ s) (ρ x) (As P ρ ⟨d,.call { callee:=.builtin .min,args:=#[s,x],argTypes:=ts },ty,pos,af,gd⟩ [s,x])):=by rw [<- an9];rfl
theorem amf {P:Program} {T:eh} {d ty pos af gd recs K L st} (s x ts):fv P T ⟨d,.call { callee:=.builtin .min,args:=#[s,x],argTypes:=ts },ty,pos,af,gd⟩ recs K L st=fo (true) (reach st.h fj (AV.names.go ([s,x].map (dw L))) []) ⟨d,.call { callee:=.builtin .min,args:=#[s,x],argTypes:=ts },ty,pos,af,gd⟩ recs K L st (mono (afo (dw L s) (dw L x) (As P (dj ⟨d,.call { callee:=.builtin .min,args:=#[s,x],argTypes:=ts },ty,pos,af,gd⟩ L) ⟨d,.call { callee:=.builtin .min,args:=#[s,x],argTypes:=ts },ty,pos,af,gd⟩ [s,x]))):=by
 unfold fv kz lq fo;simp only [jo,cond_false];have hm:∀ y,y ∈ ([s,x]:List Operand)->dj ⟨d,.call { callee:=.builtin .min,args:=#[s,x],argTypes:=ts },ty,pos,af,gd⟩ L y=dw L y:=fun y hy=>eu (by simpa [Op.operands,Call.operands] using hy)
 have hmap:([s,x]:List Operand).map (dj ⟨d,.call { callee:=.builtin .min,args:=#[s,x],argTypes:=ts },ty,pos,af,gd⟩ L)=([s,x]:List Operand).map (dw L):=gu (fun y hy=>by simpa [Op.operands,Call.operands] using hy);have ho:(⟨d,.call { callee:=.builtin .min,args:=#[s,x],argTypes:=ts },ty,pos,af,gd⟩:Oper).op.operands.toList=[s,x]:=by simp [Op.operands,Call.operands]
 rw [ho,hmap];rw [O5,hm s (by simp),hm x (by simp)];rfl
theorem Pu (P:Program) (T:eh) (ρ:Operand->AV) (d ty pos af gd) (s x ts):gz P T ⟨d,.call { callee:=.builtin .max,args:=#[s,x],argTypes:=ts },ty,pos,af,gd⟩ ρ=mono (ahf (ρ s) (ρ x) (As P ρ ⟨d,.call { callee:=.builtin .max,args:=#[s,x],argTypes:=ts },ty,pos,af,gd⟩ [s,x])):=by rw [<- aqy];rfl
theorem amb {P:Program} {T:eh} {d ty pos af gd recs K L st} (s x ts):fv P T ⟨d,.call { callee:=.builtin .max,args:=#[s,x],argTypes:=ts },ty,pos,af,gd⟩ recs K L st=fo (true) (reach st.h fj (AV.names.go ([s,x].map (dw L))) []) ⟨d,.call { callee:=.builtin .max,args:=#[s,x],argTypes:=ts },ty,pos,af,gd⟩ recs K L st (mono (ahf (dw L s) (dw L x) (As P (dj ⟨d,.call { callee:=.builtin .max,args:=#[s,x],argTypes:=ts },ty,pos,af,gd⟩ L) ⟨d,.call { callee:=.builtin .max,args:=#[s,x],argTypes:=ts },ty,pos,af,gd⟩ [s,x]))):=by
 unfold fv kz lq fo;simp only [jo,cond_false];have hm:∀ y,y ∈ ([s,x]:List Operand)->dj ⟨d,.call { callee:=.builtin .max,args:=#[s,x],argTypes:=ts },ty,pos,af,gd⟩ L y=dw L y:=fun y hy=>eu (by simpa [Op.operands,Call.operands] using hy)
 have hmap:([s,x]:List Operand).map (dj ⟨d,.call { callee:=.builtin .max,args:=#[s,x],argTypes:=ts },ty,pos,af,gd⟩ L)=([s,x]:List Operand).map (dw L):=gu (fun y hy=>by simpa [Op.operands,Call.operands] using hy);have ho:(⟨d,.call { callee:=.builtin .max,args:=#[s,x],argTypes:=ts },ty,pos,af,gd⟩:Oper).op.operands.toList=[s,x]:=by simp [Op.operands,Call.operands]
 rw [ho,hmap];rw [Pu,hm s (by simp),hm x (by simp)];rfl
theorem MM0:type_of% @atf/\type_of% @aud/\type_of% @O5/\type_of% @Pu/\type_of% @amf/\type_of% @amb:=
 ⟨@atf,@aud,@O5,@Pu,@amf,@amb⟩
end
end Go.Vm
end
section
namespace Go.Proofs.YtgencolcibpcaaaGreat
open Go.Vm
theorem abm {z:au} {n:Name} (hz:bj z) (hn:ay n):ay (ic z n).1.node:=by
 by_cases h:ff z n=0
 ·rcases Xz h with ⟨c,hc,e⟩|⟨hc,_,_,e⟩|⟨hc,_,_,e⟩|⟨hc,_,_,_,e⟩|⟨hc,_,_,_,e⟩<;>rw [e]
  ·exact M7 hz z.aj none (fun _ h=>h) (fun m hm=>by cases hm) c hc
  ·exact hn
  ·show bp []<=_;decide
  ·exact Ld (u1 h).2.1
  ·show bp []<=_;decide
 ·rw [Ua h];show bp []<=_;decide
theorem aAq {z:au} {n:Name} (h:(ic z n).2=0):ff z n=0:=by
 by_cases e:ff z n=0
 ·exact e
 ·rw [Ua e] at h;exact h
theorem abu {z:au} {n:Name} {t:UInt16} (h:(pd z n t).2=0):ff z n=0/\(t.toNat:Int)≠0/\(t.toNat:Int)≠41/\(pd z n t).1=(ic z n).1:=by
 unfold pd at h ⊢
 split at h
 ·cases h
 ·rename_i q;rw [if_neg q];exact ⟨aAq h,fun e=>q ⟨h,.inl e⟩,fun e=>q ⟨h,.inr e⟩,rfl⟩
noncomputable def uv (z:au) (n:Name) (t:UInt16):th × Int:=if (pd z n t).2≠0 then (sd 0 [] [],(pd z n t).2) else (rz z n t (ic z n).1,0)
def ag1 (a b:UInt32):UInt32:=if (a.toNat:Int)<=b.toNat then a else b
def qx (z:au):az:=
 let s:=(ru z.aj z.origin 6).getD Kn
 mkS s.owner s.type s.cls (ag1 s.jb (((s.data[0]?).bind fun d=>d.nums[4]?).getD 0)) s.data
theorem awo (z:au):∀ (l:List az) (p:Nat × Nat),p.2<(l.foldl (ki z) p).2->∃ s ∈ l,(s.type.toNat:Int)=6/\dm s.owner z.origin=true:=by
 intro l
 induction l with
 |nil=>intro p h;exact absurd h (Nat.lt_irrefl _)
 |cons a l ih=>
  intro p h;rw [List.foldl_cons] at h;by_cases h2:(ki z p a).2<(l.foldl (ki z) (ki z p a)).2
  ·obtain ⟨s,hs,h3⟩:=ih _ h2;exact ⟨s,by simp [hs],h3⟩
  ·have h3:(ki z p a).2≠p.2:=zO;refine ⟨a,by simp,?_⟩;unfold ki at h3
   split at h3
   ·rename_i e6;dsimp only at h3
    split at h3
    ·rename_i e7;rw [zzh] at e7;exact ⟨e6,e7.1⟩
    ·exact (h3 rfl).elim
   ·exact (h3 rfl).elim
theorem aea {s:az} (h:ju s=true):(s.cls.toNat:Int)=1/\(s.type.toNat:Int)≠255:=by
 unfold ju at h
 split at h
 ·cases h
 split at h
 ·cases h
 split at h
 ·cases h
 ·rename_i q _ _;exact ⟨zO,by simpa using h⟩
theorem O2 {z:au} (h:dy z=0):∃ s,ru z.aj z.origin 6=some s:=by
 have hg:=B7 h;have h2:(0:Nat)<(gb z).2:=by rw [hg.aGu.2];decide
 obtain ⟨s,hs,e6,iJ⟩:=awo z z.aj (0,0) h2;have hc:=(aea (hg.cls s hs)).1;have hp:tw z.origin 6 s=true:=by unfold tw;rw [zp (show (s.type.toNat:Int)=(6:UInt16).toNat from e6),zp hc,iJ];rfl
 cases hf:ru z.aj z.origin 6 with
 |some q=>exact ⟨q,rfl⟩
 |none=>exact absurd hp (by simpa using List.find?_eq_none.1 hf s hs)
theorem atv (z:au) (hz:bj z) (he:dy z=0):wl PP [J9] 0 (Tryz.f97.body.getD .skip) (c8 PP Tryz.f97.results.toList (fun r st=>(r1 ai).get true st.h r=some (qx z))) (cg 0 [be.val false z]) (bh []):=by
 obtain ⟨s,hs⟩:=O2 he;obtain ⟨m1,m2,m3,m4⟩:=Fk hs;obtain ⟨d,k,hd,hk⟩:=aso (Ad he s m1) (by rw [m2];rfl);unfold Tryz.f97;simp only [dr];unfold qx;simp only [↓wR,zT,simprocAttr,aEq,F4,hz.mid,hz.origin,hs];refine ⟨zK,.inl ?_⟩;have hm:(if (k.toNat:Int)<s.jb.toNat then (k.toNat:Int) else s.jb.toNat)=((ag1 s.jb k).toNat:Int):=by unfold ag1;split<;>split<;>first|rfl|omega
 simp only [↓wR,zT,simprocAttr,hd,hk,MM0,hm];have hq:∀ a b c d,ga a b c=d->ga a b c=d:=fun _ _ _ _ h=>h
 apply hq;kernel_rfl
noncomputable def Hb (x:au × Unit):Option AV:=if bj x.1/\dy x.1=0 then some ((r1 ai).E true (qx x.1)) else none
theorem afp (x:au × Unit) (r:AV) (h:Hb x=some r):bf PP 97 ((aC be a0).E x) r:=by obtain ⟨hc,rfl⟩:=zI h;exact aw (ar.cons (aq Im) (ar.nil PP)) Tryz.func97 zK zK zK zL (r1 ai) true (qx x.1) (atv x.1 hc.1 hc.2)
noncomputable abbrev aCo:zE:=(97,true,ct (aC be a0) Hb)
noncomputable def qv (z:au):az × Int:=if dy z≠0 then (Kn,dy z) else (qx z,0)
theorem an5 (z:au) (hz:bj z):wl PP [aim,aCo] 0 (Tryz.f42.body.getD .skip) (c8 PP Tryz.f42.results.toList (fun r st=>(r2 ai (ba .i64)).get true st.h r=some (qv z))) (cg 0 [be.val false z]) (bh []):=by
 unfold Tryz.f42;simp only [dr];simp only [↓wR,zT,simprocAttr,C6,hz];unfold qv;rw [cq];refine ⟨fun h=>?_,fun h=>?_⟩
 ·have he:dy z≠0:=by simpa using h
  rw [if_pos he];simp only [↓wR,zT,simprocAttr,h];rfl
 have he:dy z=0:=by simpa using h
 rw [if_neg zO];simp only [↓wR,zT,simprocAttr,h,Hb,hz,he]
noncomputable def Eo (x:au × Unit):Option AV:=if bj x.1 then some ((r2 ai (ba .i64)).E true (qv x.1)) else none
theorem ac9 (x:au × Unit) (r:AV) (h:Eo x=some r):bf PP 42 ((aC be a0).E x) r:=by obtain ⟨hc,rfl⟩:=zI h;exact aw (ar.cons (aq Iw) (ar.cons (aq afp) (ar.nil PP))) Tryz.func42 zK zK zK zL (r2 ai (ba .i64)) true (qv x.1) (an5 x.1 hc)
noncomputable abbrev ahl:zE:=(42,true,ct (aC be a0) Eo)
def qi (n:Name) (s:az):Bool:=(decide ((s.type.toNat:Int)=1) || decide ((s.type.toNat:Int)=28)) && dm s.owner n
def qm (z:au):List Name->List Name->List az
 |_,[]=>[]
 |pre,n::r=>(if pre.any (fun m=>dm m n)=true then [] else z.aj.filter (qi n))++qm z (pre++[n]) r
def wj (z:au) (l:List Name):List az:=qm z [] l
def jq (l:List Name):Prop:=gh bp l<=16777216
instance (l:List Name):Decidable (jq l):=inferInstanceAs (Decidable (_<=_))
theorem jq.mem {l:List Name} (h:jq l):∀ n ∈ l,ay n:=fun n hn=>by have h1:bp n<gh bp l:=Co hn;unfold jq at h;unfold ay;omega
theorem jq.len {l:List Name} (h:jq l):l.length<=16777216:=zzu (Dq bp l) h
theorem ad6 {z:au} (h:dy z=0):z.aj.length<=2048:=by
 have hs:=Ad h;have hf:=(B7 h).first
 unfold oh at hf
 split at hf
 ·contradiction
 have key:∀ (l:List az) (e:Int),nb l e=0->e=0:=by
  intro l
  induction l with
  |nil=>intro e h;exact h
  |cons a l ih=>
   intro e h;rw [nb] at h;have h1:=ih _ h
   split at h1
   ·assumption
   ·exact h1
 have h1:=key _ _ hf;have h2:jw z.aj<=2048:=by
  unfold db at h1
  split at h1
  ·cases h1
  ·rename_i q;by_cases hd:jw z.aj<=2048
   ·exact hd
   ·exact (q ⟨rfl,zq hd⟩).elim
 have h3:∀ (l:List az) (k:Nat),(∀ s ∈ l,k6 s=0)->k+l.length<=l.foldl (fun n s=>n+s.data.length) k:=by
  intro l
  induction l with
  |nil=>intro k _;exact zza _
  |cons a l ih=>
   intro k hl;obtain ⟨d,hd,_⟩:=It (hl a (by simp));have : 0<a.data.length:=(zg.1 hd).1;have:=ih (k+a.data.length) (fun s hs=>hl s (by simp [hs]));rw [List.length_cons,List.foldl_cons];omega
 have:=h3 z.aj 0 hs;unfold jw at h2;omega
theorem aak (z:au):∀ (r pre:List Name),(qm z pre r).length<=r.length * z.aj.length:=by
 intro r
 induction r with
 |nil=>intro pre;simp [qm]
 |cons n r ih=>
  intro pre;have h1:=ih (pre++[n]);have h2:=mj (l:=z.aj) (qi n);have h3:(r.length+1) * z.aj.length=r.length * z.aj.length+z.aj.length:=Nat.succ_mul _ _;rw [qm,za,List.length_cons,h3]
  split
  ·simp;omega
  ·omega
theorem ae7 {z:au} {l:List Name} {i:Nat} {n:Name} (hc:l[i]? = some n):qm z (l.take i) (l.drop i)=(if (l.take i).any (fun m=>dm m n)=true then [] else z.aj.filter (qi n))++qm z (l.take (i+1)) (l.drop (i+1)):=by obtain ⟨hi,rfl⟩:=zg.1 hc;rw [zzs hi,qm,zz5 hi]
set_option maxHeartbeats 4000000 in
theorem ae8 (z:au) (l:List Name) (hz:bj z) (he:dy z=0) (hl:jq l):wl PP [ee,vr] 0 (Tryz.f99.body.getD .skip) (c8 PP Tryz.f99.results.toList (fun r st=>(r1 (br ai)).get true st.h r=some (wj z l))) (cg 0 [be.val false z,(br ak).val false l]) (bh []):=by
 have hzl:=ad6 he;have hlen:=hl.len;have ok:ar PP [ee,vr]:=ar.cons (aq j3) (ar.cons (aq ug) (ar.nil PP));have pT:=aak z l [];have lL:l.length * z.aj.length<=16777216 * 2048:=Nat.mul_le_mul hlen hzl;unfold Tryz.f99;simp only [dr];simp only [↓wR,zT,simprocAttr];refine fm [1,2,10,11,12,5] (fun (x:Nat × List az)=>[zv l,.ptr 0 0,zv l,zi l.length,zi x.1,.sl 1 0 x.2.length 5]) (fun x=>[(zZ z),some (.row (cellsOf ai true (x.2)) 0 0 31)]) (fun x=>x.1<=l.length/\x.2++qm z (l.take x.1) (l.drop x.1)=wj z l) (fun x=>l.length - x.1) (0,[]) ⟨zzb _,by rw [List.take_zero,List.drop_zero];rfl⟩ zX ?_;rintro ⟨i,x⟩ ⟨hi,hx⟩;simp only at hi hx;simp only [↓wR,zT,simprocAttr];rw [bg];refine ⟨fun h=>?_,fun h=>?_⟩
 ·obtain ⟨n,hc,aF,hlt⟩:=du (zp h);rw [ae7 hc] at hx;have kR:=hl.mem n (zm hc)
  repeat (first|simp only [↓wR,zT,simprocAttr,h,hc]|simp (disch:=omega) only [zW])
  obtain ⟨p,hp⟩:∃ p,p=l.take i:=⟨_,rfl⟩;have hpl:p.length<=l.length:=by rw [hp,zzl];omega
  have wO:∀ c ∈ p,c ∈ l:=fun c hc=>by rw [hp] at hc;exact zzr hc
  rw [<- hp] at hx ⊢;refine ed (fun r aA=>r = .sc (.bool (p.any (fun m=>dm m n)))/\aA=bh [(zZ z),some (.row (cellsOf ai true (x)) 0 0 31),some (.row [ak.val false n] 0 2 24)]) rfl ?_ ?_
  ·refine cx (T:=[]) (ar.nil PP) mixed Tryz.func138 rfl zK zK zK zK ?_;unfold Tryz.f138;simp only [↓wR,zT,simprocAttr];refine cx (T:=[]) (ar.nil PP) mixed Tryz.func174 rfl zK zK zK zK ?_;unfold Tryz.f174;simp only [↓wR,zT,simprocAttr];refine dq [0,1,7,8] (fun (k:Nat)=>[zv p,.fn (.func 139) [] [.ptr 2 0],zi p.length,zi k]) (fun _=>[(zZ z),some (.row (cellsOf ai true (x)) 0 0 31),some (.row [ak.val false n] 0 2 24)]) (fun k=>k<=p.length/\(p.any fun m=>dm m n)=((p.drop k).any fun m=>dm m n)) (fun k=>p.length - k) 0 ⟨zzb _,rfl⟩ zS zS ?_;clear hx;rintro k ⟨hk,hx⟩;simp only [↓wR,zT,simprocAttr];rw [bg];refine ⟨fun h3=>?_,fun h3=>?_⟩
   ·obtain ⟨c,hc2,gR,hlt2⟩:=du (zp h3);rw [gR,List.any_cons] at hx;have hcs:=hl.mem c (wO c (zm hc2))
    repeat (first|simp only [↓wR,zT,simprocAttr,h3,hc2]|simp (disch:=omega) only [zW])
    refine cx (T:=[ee,vr]) ok mixed Tryz.func139 rfl zK zK zK zK ?_;unfold Tryz.f139;simp only [↓wR,zT,simprocAttr,jx,hcs,kR];rw [cq];refine ⟨fun h4=>?_,fun h4=>?_⟩
    ·rw [h4,Bool.true_or] at hx;simp only [↓wR,zT,simprocAttr,h4,jl,jd,iy,hx]
    ·rw [h4,Bool.false_or] at hx
     repeat (first|simp only [↓wR,zT,simprocAttr,h4]|simp (disch:=omega) only [zW])
     exact ⟨k+1,⟨hlt2,hx⟩,zO,zF⟩
   ·rw [eg (zq h3),List.any_nil] at hx;simp only [↓wR,zT,simprocAttr,h3,jl,jd,iy,hx]
  rintro _ _ ⟨rfl,rfl⟩;simp only [↓wR,zT,simprocAttr,fu];rw [cq];refine ⟨fun h2=>?_,fun h2=>?_⟩
  ·rw [if_pos h2,List.nil_append] at hx
   repeat (first|simp only [↓wR,zT,simprocAttr,h2]|simp (disch:=omega) only [zW])
   exact ⟨(i+1,x),⟨hlt,hx⟩,by simp;omega,zF⟩
  rw [h2,if_neg (by decide)] at hx;simp only [↓wR,zT,simprocAttr,h2];refine fm [1,2,7,10,11,12,23,24,25,5] (fun (y:Nat × List az)=>[zv l,.ptr 0 0,.ptr 1 0,zv l,zi l.length,zi i,zs z.aj,zi z.aj.length,zi y.1,.sl 2 0 y.2.length 5]) (fun y=>[(zZ z),some (.row [ak.val false n] 0 2 24),some (.row (cellsOf ai true (y.2)) 0 0 31)]) (fun y=>y.1<=z.aj.length/\y.2++(z.aj.drop y.1).filter (qi n)=x++z.aj.filter (qi n)) (fun y=>z.aj.length - y.1) (0,x) ⟨zzb _,rfl⟩ zX ?_;rintro ⟨k,y⟩ ⟨hk,hy⟩;simp only at hk hy;have pN:y.length<=16777216 * 2048:=by have h5:=congrArg List.length hy;have h6:=congrArg List.length hx;unfold wj at h6;simp only [za] at h5 h6;omega
  simp only [↓wR,zT,simprocAttr];rw [bg];refine ⟨fun h3=>?_,fun h3=>?_⟩
  ·obtain ⟨c,hc2,gR,hlt2⟩:=du (zp h3);rw [N9 gR] at hy;have hcs:=hz.set c (zm hc2);have aD:(y.length * 5+5) * 64<=140737488355328:=zO
   repeat (first|simp only [↓wR,zT,simprocAttr,h3,hc2]|simp (disch:=omega) only [zW])
   have pO:qi n c=true->(dm c.owner n=true):=fun q=>by simp only [qi,zzh] at q;exact q.2
   have lC:qi n c=true->(y++[c])++(z.aj.drop (k+1)).filter (qi n)=x++z.aj.filter (qi n):=fun q=>by rw [if_pos q] at hy;rw [<- hy,zzc]
   have step0:qi n c=false->y++(z.aj.drop (k+1)).filter (qi n)=x++z.aj.filter (qi n):=fun q=>by rw [q,if_neg (by decide),List.nil_append] at hy;exact hy
   clear hy pO;rw [bz];refine ⟨fun ⟨h4,e4⟩=>?_,fun ⟨h4,e4⟩=>?_⟩;rotate_left;simp only [↓wR,zT,simprocAttr,h4];rw [bz];refine ⟨fun ⟨h5,e5⟩=>?yes,fun ⟨h5,e5⟩=>?no⟩
   case no=>
    repeat (first|simp only [↓wR,zT,simprocAttr,h5]|simp (disch:=omega) only [zW])
    exact ⟨(k+1,y),⟨hlt2,step0 (by unfold qi;rw [zq e4,zq e5];rfl)⟩,by simp;omega,zF⟩
   have tB:(decide ((c.type.toNat:Int)=1) || decide ((c.type.toNat:Int)=28))=true:=by rw [zp e5,Bool.or_true]
   simp only [↓wR,zT,simprocAttr,h5];rotate_left;have tB:(decide ((c.type.toNat:Int)=1) || decide ((c.type.toNat:Int)=28))=true:=by rw [zp e4];rfl
   simp only [↓wR,zT,simprocAttr,h4]
   all_goals
    simp only [↓wR,zT,simprocAttr,jx,hcs.owner,kR];rw [cq];refine ⟨fun h6=>?_,fun h6=>?_⟩
    ·repeat (first|simp only [↓wR,zT,simprocAttr,h6,qb,hcs,aD]|simp (disch:=omega) only [zW])
     refine ⟨(k+1,y++[c]),⟨hlt2,lC (by unfold qi;rw [tB,h6];rfl)⟩,by simp;omega,zF,?_⟩;rw [ov]
    ·repeat (first|simp only [↓wR,zT,simprocAttr,h6]|simp (disch:=omega) only [zW])
     exact ⟨(k+1,y),⟨hlt2,step0 (by unfold qi;rw [h6,Bool.and_false])⟩,by simp;omega,zF⟩
  ·rw [eg (zq h3),List.filter_nil,zzn] at hy;subst hy
   repeat (first|simp only [↓wR,zT,simprocAttr,h3]|simp (disch:=omega) only [zW])
   exact ⟨(i+1,x++z.aj.filter (qi n)),⟨hlt,by rw [zzc];exact hx⟩,by simp;omega,zF⟩
 ·rw [eg (zq h)] at hx;rw [qm,zzn] at hx;subst hx;simp only [↓wR,zT,simprocAttr,h]
noncomputable def Od (x:au × List Name × Unit):Option AV:=if (bj x.1/\dy x.1=0)/\jq x.2.1 then some ((r1 (br ai)).E true (wj x.1 x.2.1)) else none
theorem aom (x:au × List Name × Unit) (r:AV) (h:Od x=some r):bf PP 99 ((aC be (aC (br ak) a0)).E x) r:=by obtain ⟨hc,rfl⟩:=zI h;exact aw (ar.cons (aq j3) (ar.cons (aq ug) (ar.nil PP))) Tryz.func99 zK zK zK zL (r1 (br ai)) true (wj x.1 x.2.1) (ae8 x.1 x.2.1 hc.1.1 hc.1.2 hc.2)
noncomputable abbrev aE2:zE:=(99,true,ct (aC be (aC (br ak) a0)) Od)
def aFr (s:az):Bool:=decide ((s.type.toNat:Int)=2) || (decide ((s.type.toNat:Int)=15) || decide ((s.type.toNat:Int)=33))
def Ea (l:List cj):List Name:=l.flatMap fun d=>d.names
def C0 (s:az):List Name:=if aFr s=true then Ea s.data else []
def lj (l:List az):List Name:=l.flatMap C0
def aE5 (dC:List az) (s:az):Bool:=dC.any fun x=>decide ((x.type.toNat:Int)=s.type.toNat) && dm x.owner s.owner
def aAa (z:au) (dC l:List az):List az:=(wj z (lj l)).filter fun s=>!aE5 dC s
def aiz (l:List Name) (n:Name):Bool:=l.any fun m=>dm m n
noncomputable def avw (z:au) (t:UInt16):Nat->Name->List Name->List az->Og
 |0,_,_,dC=>mkY 0 true dC [] []
 |k+1,n,seen,dC=>
  let x:=rz z n t (ic z n).1
  if x.turn=0 then mkY 0 true (dC++x.aj) [] (aAa z (dC++x.aj) x.aj)
  else if x.turn=3 then mkY 3 true dC [qx z] []
  else if x.turn=2 then mkY 0 true dC [qx z] []
  else if x.turn=4 then mkY 0 (decide (0<dC.length)) dC x.aj (aAa z dC x.aj)
  else if dp x.to z.origin=false then mkY 0 true (dC++x.aj) [] []
  else if aiz (seen++[n]) x.to=true then mkY 0 true (dC++x.aj) [] []
  else avw z t k x.to (seen++[n]) (dC++x.aj)
noncomputable def ofV (z:au) (n:Name) (t:UInt16):Og × Int:=
 if (pd z n t).2≠0 then (mkY 0 false [] [] [],(pd z n t).2) else (avw z t 16 n [] [],0)
theorem aqr {z:au} (hz:bj z) {l:List Name}:∀ s ∈ wj z l,dh s:=by
 have key:∀ (r pre:List Name),∀ s ∈ qm z pre r,dh s:=by
  intro r
  induction r with
  |nil=>intro pre s hs;cases hs
  |cons n r ih=>
   intro pre s hs;rw [qm] at hs;rcases zzq.1 hs with h|h
   ·split at h
    ·cases h
    ·exact hz.set s (List.mem_filter.1 h).1
   ·exact ih _ s h
 exact key l []
end Go.Proofs.YtgencolcibpcaaaGreat
end
section
namespace Go.Proofs.YtgencolcibpcaaaGreat
open Go.Vm
theorem at_mem {z:au} {n:Name} {s:az} (h:s ∈ ew z n):s ∈ z.aj/\dm s.owner n=true:=List.mem_filter.1 h
theorem aft {l:List Name} (h:j6 l=0):∀ n ∈ l,dk n=0:=by
 induction l with
 |nil=>intro n hn;cases hn
 |cons a l ih=>
  intro n hn;rw [j6] at h
  split at h
  ·contradiction
  ·rename_i q;rcases zya.1 hn with rfl|hn
   ·omega
   ·exact ih h n hn
theorem ac4 {t:UInt16} {d:cj} (h:dx t d=0):∀ n ∈ d.names,dk n=0:=by
 unfold dx at h
 split at h
 ·cases h
 split at h
 ·cases h
 split at h
 ·contradiction
 ·rename_i q;exact aft zO
theorem aut {z:au} (h:dy z=0) {y:az} (hy:y ∈ z.aj) (ht:(y.type.toNat:Int)=5):∃ d m,y.data=[d]/\d.names=[m]/\dk m=0:=by
 have hg:=B7 h;obtain ⟨k,hk,rfl⟩:=List.getElem_of_mem hy;have ha:=hg.alone k _ (zh hk);unfold jm at ha;rw [if_neg zO] at ha
 split at ha
 ·cases ha
 rename_i hl;have he:=Ad h _ hy;have hall:=W9 he;cases hd:(z.aj[k]).data with
 |nil=>rw [hd] at hl;simp at hl
 |cons d r=>
  have hr:r=[]:=by rw [hd] at hl;simp only [List.length_cons] at hl;exact zzf zO
  subst hr;have oQ:dx (z.aj[k]).type d=0:=hall d (by rw [hd];simp);have hn:=(Le oQ).1;have h2:(cz (z.aj[k]).type).names=1:=by unfold cz;rw [ht];rfl
  rw [h2] at hn;cases hm:d.names with
  |nil=>rw [hm] at hn;simp at hn
  |cons m r2=>
   have:r2=[]:=by rw [hm] at hn;simp only [List.length_cons] at hn;exact zzf zO
   subst this;exact ⟨d,m,rfl,hm,ac4 oQ m (by rw [hm];simp)⟩
theorem Qw {α:Type} (f : α->Nat) (a b:List α):gh f (a++b)=gh f a+gh f b:=by
 induction a with
 |nil=>simp [gh]
 |cons x a ih=>simp only [gh,List.cons_append,List.foldr_cons] at ih ⊢;omega
theorem U4 {α:Type} (f : α->Nat) (p : α->Bool) (l:List α):gh f (l.filter p)<=gh f l:=by
 induction l with
 |nil=>exact zza _
 |cons x l ih=>
  rw [List.filter_cons]
  split
  ·simp only [gh,List.foldr_cons] at ih ⊢;omega
  ·simp only [gh,List.foldr_cons] at ih ⊢;omega
theorem afi (l:List cj):gh bp (Ea l)<=gh An l:=by
 induction l with
 |nil=>exact zza _
 |cons d l ih=>
  have h:Ea (d::l)=d.names++Ea l:=by simp [Ea]
  rw [h,Qw];have h2:gh bp d.names<=An d:=by unfold An;omega
  simp only [gh,List.foldr_cons] at ih h2 ⊢;omega
theorem ak4 (s:az):gh bp (C0 s)<=nl s:=by
 unfold C0
 split
 ·have:=afi s.data;unfold nl;omega
 ·exact zzb _
theorem Us (l:List az):gh bp (lj l)<=gh nl l:=by
 induction l with
 |nil=>exact zza _
 |cons s l ih=>
  have h:lj (s::l)=C0 s++lj l:=by simp [lj]
  rw [h,Qw];have h2:=ak4 s;simp only [gh,List.foldr_cons] at ih h2 ⊢;omega
theorem ale (n:Name) (l:List az):lj (l.map (ly n))=lj l:=by
 induction l with
 |nil=>rfl
 |cons s l ih=>
  have h:∀ (s:az) l,lj (s::l)=C0 s++lj l:=fun s l=>by simp [lj]
  rw [List.map_cons,h,h,ih];rfl
theorem akf {l:List az} {x:az} (h:x ∈ l):gh bp (lj [x])<=gh bp (lj l):=by
 induction l with
 |nil=>cases h
 |cons s l ih=>
  have hc:∀ (s:az) l,lj (s::l)=C0 s++lj l:=fun s l=>by simp [lj]
  rw [hc s l,Qw];rcases zya.1 h with rfl|h
  ·rw [hc,Qw];show _+gh bp (lj [])<=_;have:gh bp (lj [])=0:=rfl;omega
  ·have:=ih h;omega
inductive arw (z:au) (n:Name) (t:UInt16):Prop
 |aFd (c:Name) (s:az) (hc:ka z n=some c) (hs:s ∈ z.aj) (ht:(s.type.toNat:Int)=2) (ho:dm s.owner c=true) (h:rz z n t (ic z n).1=sd 4 [s] [])
 |aDt (hc:ka z n=none) (h:rz z n t (ic z n).1=sd 3 [] [])
 |aur (hc:ka z n=none) (h:rz z n t (ic z n).1=sd 2 [] [])
 |found (hc:ka z n=none) (l:List az) (hne:l≠[]) (bB:l.length<=z.aj.length) (hw:gh bp (lj l)<=gh nl z.aj) (hl:∀ s ∈ l,dm s.owner n=true/\(s.owner=n\/s ∈ z.aj)/\((t.toNat:Int)=255\/(s.type.toNat:Int)=t.toNat)/\∃ y ∈ z.aj,s.data=y.data/\s.type=y.type) (h:rz z n t (ic z n).1=sd 0 l [])
 |alias (hc:ka z n=none) (s:az) (d:cj) (m:Name) (ht:(s.type.toNat:Int)=5) (h5:(t.toNat:Int)≠5) (rZ:(t.toNat:Int)≠255) (ho:dm s.owner n=true) (tI:s.owner=n\/s ∈ z.aj) (hd:s.data=[d]) (hm:d.names=[m]) (he:dk m=0) (hy:∃ y ∈ z.aj,s.data=y.data/\s.type=y.type) (h:rz z n t (ic z n).1=sd 1 [s] m)
theorem aBu {z:au} {n c:Name}:∀ (l:List az) (b:Option Name),(∀ s ∈ l,s ∈ z.aj)->(∀ m,b=some m->∃ s ∈ z.aj,(s.type.toNat:Int)=2/\s.owner=m)->l.foldl (j4 z n) b=some c->∃ s ∈ z.aj,(s.type.toNat:Int)=2/\s.owner=c:=by
 intro l
 induction l with
 |nil=>intro b _ h hc;exact h c hc
 |cons s l ih=>
  intro b hl h hc;refine ih _ (fun x hx=>hl x (by simp [hx])) (fun m hm=>?_) hc;unfold j4 at hm
  split at hm
  ·rename_i hq;cases hm;simp only [zzh,decide_eq_true_eq] at hq;exact ⟨s,hl s (by simp),hq.1,rfl⟩
  ·exact h m hm
theorem am0 {z:au} {n:Name} {t:UInt16} (h:dy z=0) (hc:ka z n=none) (L:List az) (bB:L.length<=z.aj.length) (hw:gh bp (lj L)<=gh nl z.aj) (hL:∀ s ∈ L,dm s.owner n=true/\(s.owner=n\/s ∈ z.aj)/\∃ y ∈ z.aj,s.data=y.data/\s.type=y.type) (hs:rz z n t (ic z n).1=Q0 t L):arw z n t:=by
 unfold Q0 at hs
 split at hs
 ·rename_i q;exact .found hc L (fun e=>by rw [e] at q;simp at q) bB hw (fun s hs=>⟨(hL s hs).1,(hL s hs).2.1,.inl q.1,(hL s hs).2.2⟩) hs
 rename_i q
 split at hs
 ·rename_i x hx;have h1:=List.mem_of_find?_eq_some hx;have h2:=List.find?_some hx;exact .found hc [x] (by simp) (by have:=List.length_pos_of_mem h1;rw [zyg];omega) (zzu (akf h1) hw) (fun s hs=>by rw [zz0] at hs;subst hs;exact ⟨(hL s h1).1,(hL s h1).2.1,.inr (by simpa using h2),(hL s h1).2.2⟩) hs
 ·rename_i hx
  split at hs
  ·rename_i x hx2;have h1:=List.mem_of_find?_eq_some hx2;have h2:=List.find?_some hx2;simp only [zzh,decide_eq_true_eq] at h2;obtain ⟨y,hy,gA,iD⟩:=(hL x h1).2.2;obtain ⟨d,m,e1,e2,e3⟩:=aut h hy (by rw [<- iD];exact h2.1);rw [<- gA] at e1;have h5:(t.toNat:Int)≠5:=fun e=>by
    have:=List.find?_eq_none.1 hx x h1;simp [h2.1,e] at this
   refine .alias hc x d m h2.1 h5 h2.2 (hL x h1).1 (hL x h1).2.1 e1 e2 e3 ⟨y,hy,gA,iD⟩ ?_;rw [hs,e1];simp [e2]
  ·exact .aur hc hs
theorem aBy {z:au} {n:Name} (t:UInt16) (h:ff z n=0):arw z n t:=by
 obtain ⟨a1,a2,a3⟩:=u1 h;have hg:=B7 a1;rcases Xz h with ⟨c,hc,e⟩|⟨hc,hp,hh,e⟩|⟨hc,hp,hh,e⟩|⟨hc,hp,hh,hs,e⟩|⟨hc,hp,hh,hs,e⟩
 ·obtain ⟨s,hs,ht,ho⟩:=aBu z.aj none (fun _ h=>h) (fun m hm=>by cases hm) hc;have hcl:=(aea (hg.cls s hs)).1;cases hf:ru z.aj c 2 with
  |none=>
   have:=List.find?_eq_none.1 hf s hs;have hp:tw c 2 s=true:=by unfold tw;rw [zp (show (s.type.toNat:Int)=(2:UInt16).toNat from ht),zp hcl,ho,aag];rfl
   exact (this hp).elim
  |some x=>
   obtain ⟨m1,m2,m3,m4⟩:=Fk hf;exact .aFd c x hc m1 m2 m4 (by rw [e];show sd 4 [(ru z.aj c 2).getD Kn] []=_;rw [hf];rfl)
 ·refine am0 a1 hc (ew z n) (mj _) (zzu (Us _) (U4 _ _ _)) (fun s hs=>⟨(at_mem hs).2,.inr (at_mem hs).1,s,(at_mem hs).1,rfl,rfl⟩) ?_;rw [e];rfl
 ·exact .aur hc (by rw [e];rfl)
 ·refine am0 a1 hc ((ew z (oc::dv z n)).map (ly n)) (by rw [zzo];exact mj _) (by rw [ale];exact zzu (Us _) (U4 _ _ _)) (fun s hs=>?_) ?_
  ·obtain ⟨y,hy,rfl⟩:=zyj.1 hs;exact ⟨aag n,.inl rfl,y,(at_mem hy).1,rfl,rfl⟩
  ·rw [e];rfl
 ·exact .aDt hc (by rw [e];rfl)
end Go.Proofs.YtgencolcibpcaaaGreat
end
section
namespace Go.Proofs.YtgencolcibpcaaaGreat
open Go.Vm
def wtW (w:ahb):Nat:=gh O6 w.aol+(gh (fun h:azu=>h.aol.length) w.aE6+w.hints.length)
def aDl (w:ahb):Prop:=wtW w<=5242880
instance (w:ahb):Decidable (aDl w):=inferInstanceAs (Decidable (_<=_))
theorem afd (l:Name) (hl:l.length<=16777216):wl PP [] 0 (Tryz.f118.body.getD .skip) (c8 PP Tryz.f118.results.toList (fun r st=>(r1 ak).get true st.h r=some l)) (cg 0 [ak.val false l]) (bh []):=by have aD:l.length * 16<=140737488355328:=zO;unfold Tryz.f118;simp only [bw];simp only [↓wR,zT,simprocAttr,aD]
noncomputable def x8 (x:Name × Unit):Option AV:=if x.1.length<=16777216 then some ((r1 ak).E true (x.1)) else none
theorem J7 (x:Name × Unit) (r:AV) (h:x8 x=some r):bf PP 118 ((aC ak a0).E x) r:=by obtain ⟨hc,rfl⟩:=zI h;exact aw (ar.nil PP) Tryz.func118 zK zK zK zL (r1 ak) true (x.1) (afd x.1 hc)
noncomputable abbrev aad:zE:=(118,true,ct (aC ak a0) x8)
theorem ajl (l:Name) (hl:l.length<=16777216):wl PP [aad] 0 (Tryz.f67.body.getD .skip) (c8 PP Tryz.f67.results.toList (fun r st=>(r1 ak).get true st.h r=some l)) (cg 0 [ak.val false l]) (bh []):=by unfold Tryz.f67;simp only [bw];simp only [↓wR,zT,simprocAttr,x8,hl]
noncomputable def kp (x:Name × Unit):Option AV:=if x.1.length<=16777216 then some ((r1 ak).E true (x.1)) else none
theorem ny (x:Name × Unit) (r:AV) (h:kp x=some r):bf PP 67 ((aC ak a0).E x) r:=by obtain ⟨hc,rfl⟩:=zI h;exact aw (ar.cons (aq J7) (ar.nil PP)) Tryz.func67 zK zK zK zL (r1 ak) true (x.1) (ajl x.1 hc)
noncomputable abbrev wx:zE:=(67,true,ct (aC ak a0) kp)
theorem agu (l:List UInt8) (hl:l.length<=16777216):wl PP [] 0 (Tryz.f141.body.getD .skip) (c8 PP Tryz.f141.results.toList (fun r st=>(r1 (br bq)).get true st.h r=some l)) (cg 0 [(br bq).val false l]) (bh []):=by have aD:l.length<=140737488355328:=zO;unfold Tryz.f141;simp only [j5];simp only [↓wR,zT,simprocAttr,aD]
noncomputable def Br (x:List UInt8 × Unit):Option AV:=if x.1.length<=16777216 then some ((r1 (br bq)).E true (x.1)) else none
theorem Yr (x:List UInt8 × Unit) (r:AV) (h:Br x=some r):bf PP 141 ((aC (br bq) a0).E x) r:=by obtain ⟨hc,rfl⟩:=zI h;exact aw (ar.nil PP) Tryz.func141 zK zK zK zL (r1 (br bq)) true (x.1) (agu x.1 hc)
noncomputable abbrev ar6:zE:=(141,true,ct (aC (br bq) a0) Br)
theorem ajp (d:cj) (hd:c7 d):wl PP [aad,wx,ar6] 0 (Tryz.f101.body.getD .skip) (c8 PP Tryz.f101.results.toList (fun r st=>(r1 bc).get true st.h r=some d)) (cg 0 [bc.val false d]) (bh []):=by
 have kA:=hd.lens;have hq:∀ a b c d,ga a b c=d->ga a b c=d:=fun _ _ _ _ h=>h
 unfold Tryz.f101;simp only [gq];have hnl:=kA.1;have aD:d.nums.length * 4<=140737488355328:=zO;simp only [↓wR,zT,simprocAttr];refine ⟨zK,.inl ?_⟩;simp only [↓wR,zT,simprocAttr,aD,x8,Br,kA.2.2.1,kA.2.2.2];refine ⟨by apply hq;kernel_rfl,?_⟩;refine fm [1,2,4,3] (fun (x:List Name)=>[.ptr 0 0,.ptr 1 0,zi x.length,.ptr 2 0]) (fun x=>[some (.row [zv d.names,zu d.nums,zn d.texts,zw d.raw] 0 2 101),some (.row [.sc (.slice none 0 0),.sc (.slice none 0 0),.sc (.slice none 0 0),.sc (.slice none 0 0)] 0 2 101),some (.row [.sl 3 0 x.length 1,.vl true 1 (d.nums.map (cw.val true)),.vl true 1 (d.texts.map (ah.val true)),.vl true 1 (d.raw.map (bq.val true))] 0 2 101),some (.row (x.map (ak.val true)) 0 0 24)]) (fun x=>x.length<=d.names.length/\x++d.names.drop x.length=d.names) (fun x=>d.names.length - x.length) [] ⟨zzb _,rfl⟩ (by
  simp only [↓wR,zT,simprocAttr];refine .trans (vs':=[.ptr 0 0,.ptr 1 0,zi 0,.ptr 2 0]) (os':=[some (.row [zv d.names,zu d.nums,zn d.texts,zw d.raw] 0 2 101),some (.row [.sc (.slice none 0 0),.sc (.slice none 0 0),.sc (.slice none 0 0),.sc (.slice none 0 0)] 0 2 101),some (.row [.sc (.slice none 0 0),.vl true 1 (d.nums.map (cw.val true)),.vl true 1 (d.texts.map (ah.val true)),.vl true 1 (d.raw.map (bq.val true))] 0 2 101),none]) (jh.lax [3] (zB rfl) (en.refl _ _) (.same (.same (.row (.cons (.same _) (.cons (.data (br cw) true d.nums _ ?_) (.cons (.same _) (.cons (.same _) .nil)))) (cp.refl _ _))))) (.trans (vs':=[.ptr 0 0,.ptr 1 0,zi 0,.ptr 2 0]) (os':=[some (.row [zv d.names,zu d.nums,zn d.texts,zw d.raw] 0 2 101),some (.row [.sc (.slice none 0 0),.sc (.slice none 0 0),.sc (.slice none 0 0),.sc (.slice none 0 0)] 0 2 101),some (.row [.sc (.slice none 0 0),.vl true 1 (d.nums.map (cw.val true)),.vl true 1 (d.texts.map (ah.val true)),.vl true 1 (d.raw.map (bq.val true))] 0 2 101)]) (jh.aej (by decide) ?_ ?_) (by (refine jh.lax [] (by first|exact zB rfl|(simp [c9];omega)) ?_ ?_<;>repeat' first|exact en.nil|exact cp.nil|exact fc.same _|exact fc.nil _ _ _|exact fc.mq _ _|exact cp.refl _ _|apply en.cons|apply cp.ghost|apply cp.same|apply cp.row)))<;>simp only [↓wR,zT,simprocAttr,xt,zb,z8,rh]) ?_
 rintro x ⟨hi,hx⟩;simp only [↓wR,zT,simprocAttr];rw [bg];refine ⟨fun h=>?_,fun h=>?_⟩
 ·obtain ⟨c,hc,aF,hlt⟩:=du (zp h);rw [aF] at hx;have cS:(x.length+1) * 24<=140737488355328:=zO;have hcl:c.length<=16777216:=by have:=(hd.name c (zm hc));have:=(ja c 0).2;unfold ay at *;omega
  simp only [↓wR,zT,simprocAttr,h];refine ⟨zK,.inl ?_⟩
  repeat (first|simp only [↓wR,zT,simprocAttr,hc,kp,hcl,cS]|simp (disch:=omega) only [zW])
  exact ⟨by apply hq;kernel_rfl,x++[c],⟨by simp;omega,by simpa using hx⟩,by simp;omega,zF,zF⟩
 ·rw [eg (zq h),zzn] at hx;subst hx;simp only [↓wR,zT,simprocAttr,h]
noncomputable def Az (x:cj × Unit):Option AV:=if c7 x.1 then some ((r1 bc).E true (x.1)) else none
theorem ac1 (x:cj × Unit) (r:AV) (h:Az x=some r):bf PP 101 ((aC bc a0).E x) r:=by obtain ⟨hc,rfl⟩:=zI h;exact aw (ar.cons (aq J7) (ar.cons (aq ny) (ar.cons (aq Yr) (ar.nil PP)))) Tryz.func101 zK zK zK zL (r1 bc) true (x.1) (ajp x.1 hc)
noncomputable abbrev axp:zE:=(101,true,ct (aC bc a0) Az)
theorem qc {n:Name} (h:ay n):n.length<=16777216:=by have:=(ja n 0).2;unfold ay at h;omega
theorem aqd (s:az) (hs:dh s):wl PP [wx,axp] 0 (Tryz.f46.body.getD .skip) (c8 PP Tryz.f46.results.toList (fun r st=>(r1 ai).get true st.h r=some s)) (cg 0 [ai.val false s]) (bh []):=by
 have bY:=qc hs.owner;have hd:=hs.data;have hn:=hd.len;have hq:∀ a b c d,ga a b c=d->ga a b c=d:=fun _ _ _ _ h=>h
 unfold Tryz.f46;simp only [jj];simp only [↓wR,zT,simprocAttr];refine ⟨zK,.inl ?_⟩;simp only [↓wR,zT,simprocAttr,kp,bY];refine ⟨by apply hq;kernel_rfl,?_⟩;refine fm [1,2,4,3] (fun (x:List cj)=>[.ptr 0 0,.ptr 1 0,zi x.length,.ptr 2 0]) (fun x=>[(zY s),some (.row [.sc (.slice none 0 0),.sc (.int .u16 0),.sc (.int .u16 0),.sc (.int .u32 0),.sc (.slice none 0 0)] 0 2 31),some (.row [ak.val true s.owner,.sc (.int .u16 s.type.toNat),.sc (.int .u16 s.cls.toNat),.sc (.int .u32 s.jb.toNat),.sl 3 0 x.length 4] 0 2 31),some (.row (cellsOf bc true x) 0 0 101)]) (fun x=>x.length<=s.data.length/\x++s.data.drop x.length=s.data) (fun x=>s.data.length - x.length) [] ⟨zzb _,rfl⟩ zX ?_;rintro x ⟨hi,hx⟩;simp only [↓wR,zT,simprocAttr];rw [bg];refine ⟨fun h=>?_,fun h=>?_⟩
 ·obtain ⟨c,hc,aF,hlt⟩:=du (zp h);rw [aF] at hx;have hcs:=hd.mem c (zm hc);have aD:(x.length * 4+4) * 96<=140737488355328:=zO;simp only [↓wR,zT,simprocAttr,h];refine ⟨zK,.inl ?_⟩
  repeat (first|simp only [↓wR,zT,simprocAttr,hc,Az,hcs,aD]|simp (disch:=omega) only [zW])
  refine ⟨by apply hq;kernel_rfl,x++[c],⟨by simp;omega,by simpa using hx⟩,by simp;omega,zF,?_⟩;rw [Ml,za];rfl
 ·rw [eg (zq h),zzn] at hx;subst hx;simp only [↓wR,zT,simprocAttr,h]
noncomputable def tn (x:az × Unit):Option AV:=if dh x.1 then some ((r1 ai).E true (x.1)) else none
theorem Gt (x:az × Unit) (r:AV) (h:tn x=some r):bf PP 46 ((aC ai a0).E x) r:=by obtain ⟨hc,rfl⟩:=zI h;exact aw (ar.cons (aq ny) (ar.cons (aq ac1) (ar.nil PP))) Tryz.func46 zK zK zK zL (r1 ai) true (x.1) (aqd x.1 hc)
noncomputable abbrev Y0:zE:=(46,true,ct (aC ai a0) tn)
theorem ajy (l:List az) (hl:se l) (hl2:l.length<=16777216):wl PP [Y0] 0 (Tryz.f8.body.getD .skip) (c8 PP Tryz.f8.results.toList (fun r st=>(r1 (br ai)).get true st.h r=some l)) (cg 0 [(br ai).val false l]) (bh []):=by
 unfold Tryz.f8;simp only [j5];simp only [↓wR,zT,simprocAttr];refine fm [0,4,3] (fun (x:List az)=>[zs l,zi x.length,.sl 0 0 x.length 5]) (fun x=>[some (.row (cellsOf ai true (x)) 0 0 31)]) (fun x=>x.length<=l.length/\x++l.drop x.length=l) (fun x=>l.length - x.length) [] ⟨zzb _,rfl⟩ zX ?_;rintro x ⟨hi,hx⟩;simp only [↓wR,zT,simprocAttr];rw [bg];refine ⟨fun h=>?_,fun h=>?_⟩
 ·obtain ⟨c,hc,aF,hlt⟩:=du (zp h);rw [aF] at hx;have hcs:=hl.2 c (zm hc);have aD:(x.length * 5+5) * 64<=140737488355328:=zO
  repeat (first|simp only [↓wR,zT,simprocAttr,h,hc,tn,hcs,aD]|simp (disch:=omega) only [zW])
  refine ⟨x++[c],⟨by simp;omega,by simpa using hx⟩,by simp;omega,zF,?_⟩;rw [ov]
 ·rw [eg (zq h),zzn] at hx;subst hx;simp only [↓wR,zT,simprocAttr,h]
noncomputable def Eg (x:List az × Unit):Option AV:=if se x.1/\x.1.length<=16777216 then some ((r1 (br ai)).E true (x.1)) else none
theorem ada (x:List az × Unit) (r:AV) (h:Eg x=some r):bf PP 8 ((aC (br ai) a0).E x) r:=by obtain ⟨hc,rfl⟩:=zI h;exact aw (ar.cons (aq Gt) (ar.nil PP)) Tryz.func8 zK zK zK zL (r1 (br ai)) true (x.1) (ajy x.1 hc.1 hc.2)
noncomputable abbrev axn:zE:=(8,true,ct (aC (br ai) a0) Eg)
theorem ak8 (z:au) (hz:bj z):wl PP [wx,axn] 0 (Tryz.f21.body.getD .skip) (c8 PP Tryz.f21.results.toList (fun r st=>(r1 be).get true st.h r=some z)) (cg 0 [be.val false z]) (bh []):=by
 have bY:=qc hz.origin;have hzl:=hz.len;have hq:∀ a b c d,ga a b c=d->ga a b c=d:=fun _ _ _ _ h=>h
 unfold Tryz.f21;simp only [dr];simp only [↓wR,zT,simprocAttr];refine ⟨zK,.inl ?_⟩;simp only [↓wR,zT,simprocAttr,kp,bY,Eg,hz.mid,hzl];apply hq;kernel_rfl
noncomputable def E3 (x:au × Unit):Option AV:=if bj x.1 then some ((r1 be).E true (x.1)) else none
theorem adg (x:au × Unit) (r:AV) (h:E3 x=some r):bf PP 21 ((aC be a0).E x) r:=by obtain ⟨hc,rfl⟩:=zI h;exact aw (ar.cons (aq ny) (ar.cons (aq ada) (ar.nil PP))) Tryz.func21 zK zK zK zL (r1 be) true (x.1) (ak8 x.1 hc)
noncomputable abbrev ad1:zE:=(21,true,ct (aC be a0) E3)
theorem en.aDh {h:Tr bo}:∀ (a:List AV) {b c:List AV},en h b c->en h (a++b) (a++c)
 | [],_,_,q=>q
 |x::a,_,_,q=>.cons (.same x) (en.aDh a q)
end Go.Proofs.YtgencolcibpcaaaGreat
end
