/- A piece of the proof. Proved: where the arguments are together of bulk at most 1048576, the law ZoneTurns returns true (a zone with a set more, and without one), and what it was given reads afterwards as it did before. No other conditions. -/
import Derived.WalkKit
import Derived.CallsIn
import Derived.RangeFuncIn
import Derived.RangeFuncLeaves
import Derived.Orders
import Derived.OrdersIn
import Derived.Scope
import Derived.RangeFuncOwn
import Derived.Stop.SameAnswer
import Derived.Laws.Externs
import Derived.Lib.Bytealg
import Derived.ProofKit
import Derived.OpenShut
import Derived.ReadAgain
import Derived.Deep.Slices
import Derived.ChangeSame
import Derived.Test.YtgencolcibpcaaaGreatProg
import Derived.KernelRfl
import Derived.Test.YtgencolcibpcaaaGreatRows
import Derived.JoinedCond
import Derived.Test.YtgencolcibpcaaaGreatT3
set_option linter.unusedSimpArgs false
set_option linter.unusedVariables false
set_option linter.unusedSectionVars false
section
namespace Go.Proofs.YtgencolcibpcaaaGreat
open Go.Vm
set_option maxRecDepth 2000000
def dh (b:Bool) (err e:Int):Int:=if e=0∧b=false then err else e
def gn (err:Int) (p:Nat→az→Bool):Nat→List az→Int→Int
 |_,[],e=>e
 |i,s::r,e=>if e≠0 then e else gn err p (i+1) r (dh (p i s) err e)
def kx (l:List az):Nat:=l.foldl (fun n s=>n+s.data.length) 0
noncomputable def pj:List az→Int→Int
 | [],e=>e
 |s::r,e=>pj r (if e=0 then py s else e)
noncomputable def qu (z:bp):Int:=if du z.origin≠0 then du z.origin else pj z.ai (dh (decide (kx z.ai≤2048)) 3 0)
def Jv (z:bp) (l:List az):Bool:=l.any fun s=>decide ((s.type.toNat:Int)=2) && er s.owner z.origin
def i7 (z:bp):Bool:=Jv z z.ai
theorem ae3 {z:bp} {l:List az} {i:Nat} {c:az} (h:l.drop i=c::l.drop (i+1)):Jv z (l.drop i)=((decide ((c.type.toNat:Int)=2) && er c.owner z.origin) || Jv z (l.drop (i+1))):=by rw [h];rfl
noncomputable def xn (z:bp):Int:=gn 260 (g9 z) 0 z.ai (qu z)
noncomputable def Fx (z:bp):Int:=gn 261 (fun _ s=>kq s) 0 z.ai (xn z)
noncomputable def o9 (z:bp):Int:=gn 262 (fun _ s=>gq s.owner z.origin) 0 z.ai (Fx z)
noncomputable def ly (z:bp):Int:=dh (decide ((gz z).1=1) && decide ((gz z).2=1)) 263 (o9 z)
noncomputable def xl (z:bp):Int:=dh (i7 z) 264 (ly z)
noncomputable def xo (z:bp):Int:=gn 265 (jz z) 0 z.ai (xl z)
noncomputable def Dq (z:bp):Int:=gn 266 (fun _ s=>jy s) 0 z.ai (xo z)
noncomputable def Ul (z:bp):Int:=gn 267 (fun _ s=>mc z s) 0 z.ai (Dq z)
noncomputable def lg (z:bp):Int:=if qu z≠0 then qu z else Ul z
theorem Mb (l:List az) (i:Nat) (c:az) (h:l[i]? = some c):kx (l.take (i+1))=kx (l.take i)+c.data.length:=by
 obtain ⟨hk,rfl⟩:=List.getElem?_eq_some_iff.1 h
 rw [List.take_succ_eq_append_getElem hk];simp only [kx,List.foldl_append,List.foldl_cons,List.foldl_nil]
theorem abo (l:List az):∀ k,l.foldl (fun n s=>n+s.data.length) k≤k+gj jh l:=by
 induction l with
 |nil=>intro k;exact Nat.le_refl _
 |cons a l ih=>
  intro k
  have h1:=ih (k+a.data.length)
  have h2:=Et Ba a.data
  simp only [gj,List.foldr_cons,List.foldl_cons,jh] at h1 ⊢
  unfold gj at h2
  omega
theorem I5 (l:List az):kx l≤gj jh l:=by have:=abo l 0;unfold kx;omega
theorem ae5 {l:List az} {i:Nat} {c:az} (h:l.drop i=c::l.drop (i+1)) (e:Int):pj (l.drop i) e=pj (l.drop (i+1)) (if e=0 then py c else e):=by rw [h];rfl
theorem ug {l:List az} {i:Nat} {c:az} (h:l.drop i=c::l.drop (i+1)) (err:Int) (p:Nat→az→Bool) (e:Int):gn err p i (l.drop i) e=if e≠0 then e else gn err p (i+1) (l.drop (i+1)) (dh (p i c) err e):=by rw [h];rfl
set_option maxHeartbeats 4000000 in
theorem ag4 (z:bp) (hz:bz z):wl PP [ft,fw,ia,kb,ke,kg,jq,l5,pd,lz] 0 (Tryz.f27.body.getD .skip) (da PP Tryz.f27.results.toList (fun r st=>(r1 (bh .i64)).get true st.h r=some (lg z))) (cj 0 [br.val false z]) (bj []):=by
 have hl:=hz.len
 have ok:ar PP [ft,fw,ia,kb,ke,kg,jq,l5,pd,lz]:=ar.cons (ak tn) (ar.cons (ak pv) (ar.cons (ak Kt) (ar.cons (ak P8) (ar.cons (ak Q8) (ar.cons (ak P0) (ar.cons (ak Lh) (ar.cons (ak Tq) (ar.cons (ak X4) (ar.cons (ak Us) (ar.nil PP))))))))))
 unfold Tryz.f27
 simp only [fq]
 simp only [↓wR,RA,simprocAttr,TF,ae]
 refine dr (fun r st'=>r = .fo []∧st'=bj [some (.row [.vl false 1 (z.origin.map (aj.val false)),.vl false 5 (z.ai.map (ah.val false))] 0 2 41),some (.row [.vl false 1 (z.origin.map (aj.val false)),.vl false 5 (z.ai.map (ah.val false)),.sc (.int .i64 (qu z))] 0 2 111)]) rfl ?_ ?_
 ·refine ct (T:=[ft,fw,ia,kb,ke,kg,jq,l5,pd,lz]) ok mixed Tryz.func75 rfl (by kernel_rfl) (by kernel_rfl) (by kernel_rfl) (by kernel_rfl) ?_;unfold Tryz.f75
  simp only [↓wR,RA,simprocAttr,TF,ae,sd,hz.origin.fit]
  unfold qu
  rw [di];refine ⟨fun h=>?_,fun h=>?_⟩
  ·have he:du z.origin≠0:=by simpa using h
   rw [if_pos he]
   simp only [↓wR,RA,simprocAttr,TF,ae,h,g6,gv,gk]
  have he:du z.origin=0:=by simpa using h
  rw [if_neg (by omega)]
  simp only [↓wR,RA,simprocAttr,TF,ae,h,he]
  refine c7 [0,2,25,26,27] (fun (i:Nat)=>[.ptr 1 0,.sc (.int .i64 (kx (z.ai.take i))),.vl false 5 (z.ai.map (ah.val false)),.sc (.int .i64 (z.ai.length)),.sc (.int .i64 (i))]) (fun _=>[some (.row [.vl false 1 (z.origin.map (aj.val false)),.vl false 5 (z.ai.map (ah.val false))] 0 2 41),some (.row [.vl false 1 (z.origin.map (aj.val false)),.vl false 5 (z.ai.map (ah.val false)),.sc (.int .i64 (0))] 0 2 111)]) (fun i=>i≤z.ai.length) (fun i=>z.ai.length - i) 0 (Nat.zero_le _) (by simp only [↓wR,RA,simprocAttr,TF,ae]<;>rfl) (by simp only [↓wR,RA,simprocAttr,TF,ae]<;>rfl) ?_
  clear h
  intro i hi
  have hsum:=I5 (z.ai.take i)
  have hsum2:=Rl jh z.ai i
  have hzz:gj jh z.ai≤16777216:=by unfold bz sy at hz;omega
  simp only [↓wR,RA,simprocAttr,TF,ae]
  rw [aw];refine ⟨fun h=>?_,fun h=>?_⟩
  ·obtain ⟨c,hc,hd1,hlt⟩:=dx (decide_eq_true h)
   have hst:=Mb z.ai i c hc
   have hcl:=(hz.set c (List.mem_of_getElem? hc)).data.len
   simp only [↓wR,RA,simprocAttr,TF,ae,h,hc];repeat (simp (disch:=omega) only [ag,bf,bg,be,bb];try simp only [↓wR,RA,simprocAttr,TF,ae,h,hc])
   exact ⟨i+1,hlt,by omega,by rw [hst];(first|rfl|trivial|omega|((try (simp (disch:=omega) only [ag]));(try (simp only [FB]));first|done|rfl|omega))⟩
  have hin:i=z.ai.length:=by omega
  rw [hin,List.take_length] at hsum ⊢
  simp only [↓wR,RA,simprocAttr,TF,ae,h]
  have hd:decide ((kx z.ai:Int)≤2048)=decide (kx z.ai≤2048):=by rw [decide_eq_decide];omega
  rw [hd]
  refine dr (fun r st'=>r = .fo []∧st'=bj [some (.row [.vl false 1 (z.origin.map (aj.val false)),.vl false 5 (z.ai.map (ah.val false))] 0 2 41),some (.row [.vl false 1 (z.origin.map (aj.val false)),.vl false 5 (z.ai.map (ah.val false)),.sc (.int .i64 (dh (decide (kx z.ai≤2048)) 3 (0)))] 0 2 111)]) rfl ?_ ?_
  ·refine ct (T:=[ft,fw,ia,kb,ke,kg,jq,l5,pd,lz]) ok mixed Tryz.func81 rfl (by kernel_rfl) (by kernel_rfl) (by kernel_rfl) (by kernel_rfl) ?_;unfold Tryz.f81
   simp only [↓wR,RA,simprocAttr,TF,ae]
   rw [di];refine ⟨fun hn2=>?_,fun hn2=>?_⟩
   ·have hb:(decide (kx z.ai≤2048))=false:=by simpa only [Bool.not_eq_true'] using hn2
    have hv:dh (decide (kx z.ai≤2048)) 3 (0)=3:=by unfold dh;rw [if_pos ⟨rfl,hb⟩]
    simp only [↓wR,RA,simprocAttr,TF,ae,hn2,g6,gv,gk]
    try rw [hv]
   ·have hb:(decide (kx z.ai≤2048))=true:=by simpa only [Bool.not_eq_false'] using hn2
    have hv:dh (decide (kx z.ai≤2048)) 3 (0)=0:=by unfold dh;rw [if_neg (fun q=>by rw [hb] at q;cases q.2)]
    simp only [↓wR,RA,simprocAttr,TF,ae,hn2,g6,gv,gk]
    try rw [hv]
  rintro _ _ ⟨rfl,rfl⟩
  simp only [↓wR,RA,simprocAttr,TF,ae,dv]
  refine c7 [0,45,46,47] (fun (x:Nat × Int)=>[.ptr 1 0,.vl false 5 (z.ai.map (ah.val false)),.sc (.int .i64 (z.ai.length)),.sc (.int .i64 (x.1))]) (fun x=>[some (.row [.vl false 1 (z.origin.map (aj.val false)),.vl false 5 (z.ai.map (ah.val false))] 0 2 41),some (.row [.vl false 1 (z.origin.map (aj.val false)),.vl false 5 (z.ai.map (ah.val false)),.sc (.int .i64 (x.2))] 0 2 111)]) (fun x=>x.1≤z.ai.length∧pj z.ai (dh (decide (kx z.ai≤2048)) 3 0)=pj (z.ai.drop x.1) x.2) (fun x=>z.ai.length - x.1) (0,dh (decide (kx z.ai≤2048)) 3 0) ⟨Nat.zero_le _,rfl⟩ (by simp only [↓wR,RA,simprocAttr,TF,ae]<;>rfl) (by simp only [↓wR,RA,simprocAttr,TF,ae]<;>rfl) ?_
  clear h hi hin hd
  rintro ⟨i,e⟩ ⟨hi,hx⟩
  simp only at hi hx
  simp only [↓wR,RA,simprocAttr,TF,ae]
  rw [aw];refine ⟨fun h=>?_,fun h=>?_⟩
  ·obtain ⟨c,hc,hd1,hlt⟩:=dx (decide_eq_true h)
   rw [ae5 hd1] at hx
   have hcs:=hz.set c (List.mem_of_getElem? hc)
   simp only [↓wR,RA,simprocAttr,TF,ae,h,hc]
   rw [cp];refine ⟨fun ⟨h1,e1⟩=>?_,fun ⟨h1,e1⟩=>?_⟩
   ·rw [if_pos e1] at hx
    simp only [↓wR,RA,simprocAttr,TF,ae,h1,yv,hcs];repeat (simp (disch:=omega) only [ag,bf,bg,be,bb];try simp only [↓wR,RA,simprocAttr,TF,ae,h1,yv,hcs])
    exact ⟨(i+1,py c),⟨hlt,hx⟩,by simp;omega,by (first|rfl|trivial|omega|((try (simp (disch:=omega) only [ag]));(try (simp only [FB]));first|done|rfl|omega)),by (first|rfl|trivial|omega|((try (simp (disch:=omega) only [ag]));(try (simp only [FB]));first|done|rfl|omega))⟩
   ·rw [if_neg e1] at hx
    simp only [↓wR,RA,simprocAttr,TF,ae,h1];repeat (simp (disch:=omega) only [ag,bf,bg,be,bb];try simp only [↓wR,RA,simprocAttr,TF,ae,h1])
    exact ⟨(i+1,e),⟨hlt,hx⟩,by simp;omega,by (first|rfl|trivial|omega|((try (simp (disch:=omega) only [ag]));(try (simp only [FB]));first|done|rfl|omega)),by (first|rfl|trivial|omega|((try (simp (disch:=omega) only [ag]));(try (simp only [FB]));first|done|rfl|omega))⟩
  ·rw [fl (decide_eq_false h)] at hx
   simp only [↓wR,RA,simprocAttr,TF,ae,h,g6,gv,gk]
   rw [hx];rfl
 rintro _ _ ⟨rfl,rfl⟩
 simp only [↓wR,RA,simprocAttr,TF,ae,dv]
 unfold lg
 rw [di];refine ⟨fun h=>?_,fun h=>?_⟩
 ·have he:qu z≠0:=by simpa using h
  rw [if_pos he]
  simp only [↓wR,RA,simprocAttr,TF,ae,h]
 have he:qu z=0:=by simpa using h
 rw [if_neg (by omega)]
 simp only [↓wR,RA,simprocAttr,TF,ae,h]
 clear h he
 obtain ⟨e0,he0⟩:∃ e0,qu z=e0:=⟨_,rfl⟩
 rw [he0]
 refine dr (fun r st'=>r = .fo []∧st'=bj [some (.row [.vl false 1 (z.origin.map (aj.val false)),.vl false 5 (z.ai.map (ah.val false))] 0 2 41),some (.row [.vl false 1 (z.origin.map (aj.val false)),.vl false 5 (z.ai.map (ah.val false)),.sc (.int .i64 (gn 260 (g9 z) 0 z.ai e0))] 0 2 111)]) rfl ?_ ?_
 ·refine ct (T:=[ft,fw,ia,kb,ke,kg,jq,l5,pd,lz]) ok mixed Tryz.func76 rfl (by kernel_rfl) (by kernel_rfl) (by kernel_rfl) (by kernel_rfl) ?_;unfold Tryz.f76
  simp only [↓wR,RA,simprocAttr,TF,ae]
  refine c7 [0,1,2,12,13,14] (fun (x:Nat × Int)=>[.ptr 1 0,.sc (.int .i64 (260)),.fn (.func 77) [.ptr 1 0] [],.vl false 5 (z.ai.map (ah.val false)),.sc (.int .i64 (z.ai.length)),.sc (.int .i64 (x.1))]) (fun x=>[some (.row [.vl false 1 (z.origin.map (aj.val false)),.vl false 5 (z.ai.map (ah.val false))] 0 2 41),some (.row [.vl false 1 (z.origin.map (aj.val false)),.vl false 5 (z.ai.map (ah.val false)),.sc (.int .i64 (x.2))] 0 2 111)]) (fun x=>x.1≤z.ai.length∧gn 260 (g9 z) 0 z.ai e0=gn 260 (g9 z) x.1 (z.ai.drop x.1) x.2) (fun x=>z.ai.length - x.1) (0,e0) ⟨Nat.zero_le _,rfl⟩ (by simp only [↓wR,RA,simprocAttr,TF,ae]<;>rfl) (by simp only [↓wR,RA,simprocAttr,TF,ae]<;>rfl) ?_
  rintro ⟨i,e⟩ ⟨hi,hx⟩
  simp only at hi hx
  simp only [↓wR,RA,simprocAttr,TF,ae]
  rw [aw];refine ⟨fun h=>?_,fun h=>?_⟩
  ·obtain ⟨c,hc,hd1,hlt⟩:=dx (decide_eq_true h)
   rw [ug hd1] at hx
   have hcs:=hz.set c (List.mem_of_getElem? hc)
   have hi2:(0:Int)≤i∧(i:Int)≤z.ai.length:=by omega
   simp only [↓wR,RA,simprocAttr,TF,ae,h,hc]
   rw [c9];refine ⟨fun ⟨h1,e1⟩=>?_,fun ⟨h1,e1⟩=>?_⟩
   ·rw [if_pos e1] at hx
    simp only [↓wR,RA,simprocAttr,TF,ae,h1,g6,gv,gk]
    rw [hx]
   ·rw [if_neg (by omega)] at hx
    simp only [↓wR,RA,simprocAttr,TF,ae,h1,hcs,hz,hi2,Io]
    refine dr (fun r st'=>r = .fo []∧st'=bj [some (.row [.vl false 1 (z.origin.map (aj.val false)),.vl false 5 (z.ai.map (ah.val false))] 0 2 41),some (.row [.vl false 1 (z.origin.map (aj.val false)),.vl false 5 (z.ai.map (ah.val false)),.sc (.int .i64 (dh ((g9 z) i c) 260 e))] 0 2 111),some (.row [.vl false 1 (c.owner.map (aj.val false)),.sc (.int .u16 c.type.toNat),.sc (.int .u16 c.cls.toNat),.sc (.int .u32 c.ey.toNat),.vl false 4 (c.data.map (aq.val false))] 0 2 31)]) rfl ?_ ?_
    ·refine ct (T:=[ft,fw,ia,kb,ke,kg,jq,l5,pd,lz]) ok mixed Tryz.func81 rfl (by kernel_rfl) (by kernel_rfl) (by kernel_rfl) (by kernel_rfl) ?_;unfold Tryz.f81
     simp only [↓wR,RA,simprocAttr,TF,ae,e1]
     rw [di];refine ⟨fun hn2=>?_,fun hn2=>?_⟩
     ·have hb:((g9 z) i c)=false:=by simpa only [Bool.not_eq_true'] using hn2
      have hv:dh ((g9 z) i c) 260 0=260:=by unfold dh;rw [if_pos ⟨rfl,hb⟩]
      simp only [↓wR,RA,simprocAttr,TF,ae,hn2,g6,gv,gk]
      try rw [hv]
     ·have hb:((g9 z) i c)=true:=by simpa only [Bool.not_eq_false'] using hn2
      have hv:dh ((g9 z) i c) 260 0=0:=by unfold dh;rw [if_neg (fun q=>by rw [hb] at q;cases q.2)]
      simp only [↓wR,RA,simprocAttr,TF,ae,hn2,g6,gv,gk]
      try rw [hv]
    rintro _ _ ⟨rfl,rfl⟩
    simp only [↓wR,RA,simprocAttr,TF,ae,dv];repeat (simp (disch:=omega) only [ag,bf,bg,be,bb];try simp only [↓wR,RA,simprocAttr,TF,ae,dv])
    exact ⟨(i+1,dh ((g9 z) i c) 260 e),⟨hlt,hx⟩,by simp;omega,by (first|rfl|trivial|omega|((try (simp (disch:=omega) only [ag]));(try (simp only [FB]));first|done|rfl|omega)),by (first|rfl|trivial|omega|((try (simp (disch:=omega) only [ag]));(try (simp only [FB]));first|done|rfl|omega))⟩
  ·rw [fl (decide_eq_false h)] at hx
   simp only [↓wR,RA,simprocAttr,TF,ae,h,g6,gv,gk]
   rw [hx];rfl
 rintro _ _ ⟨rfl,rfl⟩
 rw [← he0]
 clear he0
 simp only [↓wR,RA,simprocAttr,TF,ae,dv]
 rw [show gn 260 (g9 z) 0 z.ai (qu z)=xn z from rfl]
 obtain ⟨e0,he0⟩:∃ e0,xn z=e0:=⟨_,rfl⟩
 rw [he0]
 refine dr (fun r st'=>r = .fo []∧st'=bj [some (.row [.vl false 1 (z.origin.map (aj.val false)),.vl false 5 (z.ai.map (ah.val false))] 0 2 41),some (.row [.vl false 1 (z.origin.map (aj.val false)),.vl false 5 (z.ai.map (ah.val false)),.sc (.int .i64 (gn 261 (fun _ s=>kq s) 0 z.ai e0))] 0 2 111)]) rfl ?_ ?_
 ·refine ct (T:=[ft,fw,ia,kb,ke,kg,jq,l5,pd,lz]) ok mixed Tryz.func76 rfl (by kernel_rfl) (by kernel_rfl) (by kernel_rfl) (by kernel_rfl) ?_;unfold Tryz.f76
  simp only [↓wR,RA,simprocAttr,TF,ae]
  refine c7 [0,1,2,12,13,14] (fun (x:Nat × Int)=>[.ptr 1 0,.sc (.int .i64 (261)),.sc (.func (.func 78) #[] #[]),.vl false 5 (z.ai.map (ah.val false)),.sc (.int .i64 (z.ai.length)),.sc (.int .i64 (x.1))]) (fun x=>[some (.row [.vl false 1 (z.origin.map (aj.val false)),.vl false 5 (z.ai.map (ah.val false))] 0 2 41),some (.row [.vl false 1 (z.origin.map (aj.val false)),.vl false 5 (z.ai.map (ah.val false)),.sc (.int .i64 (x.2))] 0 2 111)]) (fun x=>x.1≤z.ai.length∧gn 261 (fun _ s=>kq s) 0 z.ai e0=gn 261 (fun _ s=>kq s) x.1 (z.ai.drop x.1) x.2) (fun x=>z.ai.length - x.1) (0,e0) ⟨Nat.zero_le _,rfl⟩ (by simp only [↓wR,RA,simprocAttr,TF,ae]<;>rfl) (by simp only [↓wR,RA,simprocAttr,TF,ae]<;>rfl) ?_
  rintro ⟨i,e⟩ ⟨hi,hx⟩
  simp only at hi hx
  simp only [↓wR,RA,simprocAttr,TF,ae]
  rw [aw];refine ⟨fun h=>?_,fun h=>?_⟩
  ·obtain ⟨c,hc,hd1,hlt⟩:=dx (decide_eq_true h)
   rw [ug hd1] at hx
   have hcs:=hz.set c (List.mem_of_getElem? hc)
   have hi2:(0:Int)≤i∧(i:Int)≤z.ai.length:=by omega
   simp only [↓wR,RA,simprocAttr,TF,ae,h,hc]
   rw [c9];refine ⟨fun ⟨h1,e1⟩=>?_,fun ⟨h1,e1⟩=>?_⟩
   ·rw [if_pos e1] at hx
    simp only [↓wR,RA,simprocAttr,TF,ae,h1,g6,gv,gk]
    rw [hx]
   ·rw [if_neg (by omega)] at hx
    simp only [↓wR,RA,simprocAttr,TF,ae,h1,hcs,hz,hi2,Wa]
    refine dr (fun r st'=>r = .fo []∧st'=bj [some (.row [.vl false 1 (z.origin.map (aj.val false)),.vl false 5 (z.ai.map (ah.val false))] 0 2 41),some (.row [.vl false 1 (z.origin.map (aj.val false)),.vl false 5 (z.ai.map (ah.val false)),.sc (.int .i64 (dh ((fun _ s=>kq s) i c) 261 e))] 0 2 111),some (.row [.vl false 1 (c.owner.map (aj.val false)),.sc (.int .u16 c.type.toNat),.sc (.int .u16 c.cls.toNat),.sc (.int .u32 c.ey.toNat),.vl false 4 (c.data.map (aq.val false))] 0 2 31)]) rfl ?_ ?_
    ·refine ct (T:=[ft,fw,ia,kb,ke,kg,jq,l5,pd,lz]) ok mixed Tryz.func81 rfl (by kernel_rfl) (by kernel_rfl) (by kernel_rfl) (by kernel_rfl) ?_;unfold Tryz.f81
     simp only [↓wR,RA,simprocAttr,TF,ae,e1]
     rw [di];refine ⟨fun hn2=>?_,fun hn2=>?_⟩
     ·have hb:((fun _ s=>kq s) i c)=false:=by simpa only [Bool.not_eq_true'] using hn2
      have hv:dh ((fun _ s=>kq s) i c) 261 0=261:=by unfold dh;rw [if_pos ⟨rfl,hb⟩]
      simp only [↓wR,RA,simprocAttr,TF,ae,hn2,g6,gv,gk]
      try rw [hv]
     ·have hb:((fun _ s=>kq s) i c)=true:=by simpa only [Bool.not_eq_false'] using hn2
      have hv:dh ((fun _ s=>kq s) i c) 261 0=0:=by unfold dh;rw [if_neg (fun q=>by rw [hb] at q;cases q.2)]
      simp only [↓wR,RA,simprocAttr,TF,ae,hn2,g6,gv,gk]
      try rw [hv]
    rintro _ _ ⟨rfl,rfl⟩
    simp only [↓wR,RA,simprocAttr,TF,ae,dv];repeat (simp (disch:=omega) only [ag,bf,bg,be,bb];try simp only [↓wR,RA,simprocAttr,TF,ae,dv])
    exact ⟨(i+1,dh ((fun _ s=>kq s) i c) 261 e),⟨hlt,hx⟩,by simp;omega,by (first|rfl|trivial|omega|((try (simp (disch:=omega) only [ag]));(try (simp only [FB]));first|done|rfl|omega)),by (first|rfl|trivial|omega|((try (simp (disch:=omega) only [ag]));(try (simp only [FB]));first|done|rfl|omega))⟩
  ·rw [fl (decide_eq_false h)] at hx
   simp only [↓wR,RA,simprocAttr,TF,ae,h,g6,gv,gk]
   rw [hx];rfl
 rintro _ _ ⟨rfl,rfl⟩
 rw [← he0]
 clear he0
 simp only [↓wR,RA,simprocAttr,TF,ae,dv]
 rw [show gn 261 (fun _ s=>kq s) 0 z.ai (xn z)=Fx z from rfl]
 obtain ⟨e0,he0⟩:∃ e0,Fx z=e0:=⟨_,rfl⟩
 rw [he0]
 refine dr (fun r st'=>r = .fo []∧st'=bj [some (.row [.vl false 1 (z.origin.map (aj.val false)),.vl false 5 (z.ai.map (ah.val false))] 0 2 41),some (.row [.vl false 1 (z.origin.map (aj.val false)),.vl false 5 (z.ai.map (ah.val false)),.sc (.int .i64 (gn 262 (fun _ s=>gq s.owner z.origin) 0 z.ai e0))] 0 2 111)]) rfl ?_ ?_
 ·refine ct (T:=[ft,fw,ia,kb,ke,kg,jq,l5,pd,lz]) ok mixed Tryz.func76 rfl (by kernel_rfl) (by kernel_rfl) (by kernel_rfl) (by kernel_rfl) ?_;unfold Tryz.f76
  simp only [↓wR,RA,simprocAttr,TF,ae]
  refine c7 [0,1,2,12,13,14] (fun (x:Nat × Int)=>[.ptr 1 0,.sc (.int .i64 (262)),.fn (.func 79) [] [.ptr 0 0],.vl false 5 (z.ai.map (ah.val false)),.sc (.int .i64 (z.ai.length)),.sc (.int .i64 (x.1))]) (fun x=>[some (.row [.vl false 1 (z.origin.map (aj.val false)),.vl false 5 (z.ai.map (ah.val false))] 0 2 41),some (.row [.vl false 1 (z.origin.map (aj.val false)),.vl false 5 (z.ai.map (ah.val false)),.sc (.int .i64 (x.2))] 0 2 111)]) (fun x=>x.1≤z.ai.length∧gn 262 (fun _ s=>gq s.owner z.origin) 0 z.ai e0=gn 262 (fun _ s=>gq s.owner z.origin) x.1 (z.ai.drop x.1) x.2) (fun x=>z.ai.length - x.1) (0,e0) ⟨Nat.zero_le _,rfl⟩ (by simp only [↓wR,RA,simprocAttr,TF,ae]<;>rfl) (by simp only [↓wR,RA,simprocAttr,TF,ae]<;>rfl) ?_
  rintro ⟨i,e⟩ ⟨hi,hx⟩
  simp only at hi hx
  simp only [↓wR,RA,simprocAttr,TF,ae]
  rw [aw];refine ⟨fun h=>?_,fun h=>?_⟩
  ·obtain ⟨c,hc,hd1,hlt⟩:=dx (decide_eq_true h)
   rw [ug hd1] at hx
   have hcs:=hz.set c (List.mem_of_getElem? hc)
   have hi2:(0:Int)≤i∧(i:Int)≤z.ai.length:=by omega
   simp only [↓wR,RA,simprocAttr,TF,ae,h,hc]
   rw [c9];refine ⟨fun ⟨h1,e1⟩=>?_,fun ⟨h1,e1⟩=>?_⟩
   ·rw [if_pos e1] at hx
    simp only [↓wR,RA,simprocAttr,TF,ae,h1,g6,gv,gk]
    rw [hx]
   ·rw [if_neg (by omega)] at hx
    simp only [↓wR,RA,simprocAttr,TF,ae,h1,hcs,hz,hi2,Fp]
    refine dr (fun r st'=>r = .fo []∧st'=bj [some (.row [.vl false 1 (z.origin.map (aj.val false)),.vl false 5 (z.ai.map (ah.val false))] 0 2 41),some (.row [.vl false 1 (z.origin.map (aj.val false)),.vl false 5 (z.ai.map (ah.val false)),.sc (.int .i64 (dh ((fun _ s=>gq s.owner z.origin) i c) 262 e))] 0 2 111),some (.row [.vl false 1 (c.owner.map (aj.val false)),.sc (.int .u16 c.type.toNat),.sc (.int .u16 c.cls.toNat),.sc (.int .u32 c.ey.toNat),.vl false 4 (c.data.map (aq.val false))] 0 2 31)]) rfl ?_ ?_
    ·refine ct (T:=[ft,fw,ia,kb,ke,kg,jq,l5,pd,lz]) ok mixed Tryz.func81 rfl (by kernel_rfl) (by kernel_rfl) (by kernel_rfl) (by kernel_rfl) ?_;unfold Tryz.f81
     simp only [↓wR,RA,simprocAttr,TF,ae,e1]
     rw [di];refine ⟨fun hn2=>?_,fun hn2=>?_⟩
     ·have hb:((fun _ s=>gq s.owner z.origin) i c)=false:=by simpa only [Bool.not_eq_true'] using hn2
      have hv:dh ((fun _ s=>gq s.owner z.origin) i c) 262 0=262:=by unfold dh;rw [if_pos ⟨rfl,hb⟩]
      simp only [↓wR,RA,simprocAttr,TF,ae,hn2,g6,gv,gk]
      try rw [hv]
     ·have hb:((fun _ s=>gq s.owner z.origin) i c)=true:=by simpa only [Bool.not_eq_false'] using hn2
      have hv:dh ((fun _ s=>gq s.owner z.origin) i c) 262 0=0:=by unfold dh;rw [if_neg (fun q=>by rw [hb] at q;cases q.2)]
      simp only [↓wR,RA,simprocAttr,TF,ae,hn2,g6,gv,gk]
      try rw [hv]
    rintro _ _ ⟨rfl,rfl⟩
    simp only [↓wR,RA,simprocAttr,TF,ae,dv];repeat (simp (disch:=omega) only [ag,bf,bg,be,bb];try simp only [↓wR,RA,simprocAttr,TF,ae,dv])
    exact ⟨(i+1,dh ((fun _ s=>gq s.owner z.origin) i c) 262 e),⟨hlt,hx⟩,by simp;omega,by (first|rfl|trivial|omega|((try (simp (disch:=omega) only [ag]));(try (simp only [FB]));first|done|rfl|omega)),by (first|rfl|trivial|omega|((try (simp (disch:=omega) only [ag]));(try (simp only [FB]));first|done|rfl|omega))⟩
  ·rw [fl (decide_eq_false h)] at hx
   simp only [↓wR,RA,simprocAttr,TF,ae,h,g6,gv,gk]
   rw [hx];rfl
 rintro _ _ ⟨rfl,rfl⟩
 rw [← he0]
 clear he0
 simp only [↓wR,RA,simprocAttr,TF,ae,dv,M6,hz]
 rw [show gn 262 (fun _ s=>gq s.owner z.origin) 0 z.ai (Fx z)=o9 z from rfl]
 rw [cp];refine ⟨fun ⟨hs1,es1⟩=>?_,fun ⟨hs1,es1⟩=>?_⟩
 ·simp only [↓wR,RA,simprocAttr,TF,ae,hs1]
  rw [show (((gz z).2:Int) == 1)=(decide ((gz z).1=1) && decide ((gz z).2=1)) from by rw [decide_eq_true (show (gz z).1=1 by omega),Bool.true_and,Bool.eq_iff_iff];simp;omega]
  refine dr (fun r st'=>r = .fo []∧st'=bj [some (.row [.vl false 1 (z.origin.map (aj.val false)),.vl false 5 (z.ai.map (ah.val false))] 0 2 41),some (.row [.vl false 1 (z.origin.map (aj.val false)),.vl false 5 (z.ai.map (ah.val false)),.sc (.int .i64 (dh (decide ((gz z).1=1) && decide ((gz z).2=1)) 263 (o9 z)))] 0 2 111)]) rfl ?_ ?_
  ·refine ct (T:=[ft,fw,ia,kb,ke,kg,jq,l5,pd,lz]) ok mixed Tryz.func81 rfl (by kernel_rfl) (by kernel_rfl) (by kernel_rfl) (by kernel_rfl) ?_;unfold Tryz.f81
   simp only [↓wR,RA,simprocAttr,TF,ae]
   rw [cp];refine ⟨fun ⟨hn1,en1⟩=>?_,fun ⟨hn1,en1⟩=>?_⟩
   ·simp only [↓wR,RA,simprocAttr,TF,ae,hn1]
    rw [di];refine ⟨fun hn2=>?_,fun hn2=>?_⟩
    ·have hb:(decide ((gz z).1=1) && decide ((gz z).2=1))=false:=by simpa only [Bool.not_eq_true'] using hn2
     have hv:dh (decide ((gz z).1=1) && decide ((gz z).2=1)) 263 (o9 z)=263:=by unfold dh;rw [if_pos ⟨en1,hb⟩]
     simp only [↓wR,RA,simprocAttr,TF,ae,hn1,hn2,g6,gv,gk]
     try rw [hv]
    ·have hb:(decide ((gz z).1=1) && decide ((gz z).2=1))=true:=by simpa only [Bool.not_eq_false'] using hn2
     have hv:dh (decide ((gz z).1=1) && decide ((gz z).2=1)) 263 (o9 z)=o9 z:=by unfold dh;rw [if_neg (fun q=>by rw [hb] at q;cases q.2)]
     simp only [↓wR,RA,simprocAttr,TF,ae,hn1,hn2,g6,gv,gk]
     try rw [hv]
   ·have hv:dh (decide ((gz z).1=1) && decide ((gz z).2=1)) 263 (o9 z)=o9 z:=by unfold dh;rw [if_neg (fun q=>en1 q.1)]
    simp only [↓wR,RA,simprocAttr,TF,ae,hn1,g6,gv,gk]
    try rw [hv]
  rintro _ _ ⟨rfl,rfl⟩
  rw [show dh (decide ((gz z).1=1) && decide ((gz z).2=1)) 263 (o9 z)=ly z from rfl]
  simp only [↓wR,RA,simprocAttr,TF,ae,dv]
  refine ct (T:=[]) (ar.nil PP) mixed Tryz.func70 rfl (by kernel_rfl) (by kernel_rfl) (by kernel_rfl) (by kernel_rfl) ?_;unfold Tryz.f70
  simp only [↓wR,RA,simprocAttr,TF,ae]
  refine ⟨[1,3,6,45],?_⟩
  have hib:Cw PP 120=some (Tryz.f120.ntmps,Tryz.f120.body.getD .skip):=by kernel_rfl
  simp only [↓wR,RA,simprocAttr,TF,ae,hib]
  refine ⟨by kernel_rfl,fun l=>?_⟩
  unfold Tryz.f120
  simp only [↓wR,RA,simprocAttr,TF,ae]
  refine Gc [0,2,7,8,9] (fun (x:Nat × Bool)=>[.sc (.func (.yield l) #[] #[]),.ptr 4 0,.vl false 5 (z.ai.map (ah.val false)),.sc (.int .i64 (z.ai.length)),.sc (.int .i64 (x.1))]) (fun x=>[some (.row [.vl false 1 (z.origin.map (aj.val false)),.vl false 5 (z.ai.map (ah.val false))] 0 2 41),some (.row [.vl false 1 (z.origin.map (aj.val false)),.vl false 5 (z.ai.map (ah.val false)),.sc (.int .i64 (ly z))] 0 2 111),some (.row [.sc (.bool (x.2))] 0 2 4),some (.row [.vl false 1 (z.origin.map (aj.val false)),.vl false 5 (z.ai.map (ah.val false))] 0 2 41),some (.row [.sc (.int .u16 2)] 0 2 26)]) (fun x=>x.1≤z.ai.length∧i7 z=(x.2 || Jv z (z.ai.drop x.1))) (fun x=>z.ai.length - x.1) (0,false) ⟨Nat.zero_le _,by rw [Bool.false_or];rfl⟩ (by simp only [↓wR,RA,simprocAttr,TF,ae]<;>rfl) (by simp only [↓wR,RA,simprocAttr,TF,ae]<;>rfl) ?_
  rintro ⟨i,b⟩ ⟨hi,hx⟩
  simp only at hi hx
  simp only [↓wR,RA,simprocAttr,TF,ae]
  rw [wt];refine ⟨fun h=>?_,fun h=>?_⟩
  ·obtain ⟨c,hc,hd1,hlt⟩:=dx h
   have hcs:=hz.set c (List.mem_of_getElem? hc)
   rw [ae3 hd1] at hx
   simp only [↓wR,RA,simprocAttr,TF,ae,h,hc]
   rw [wt];refine ⟨fun h2=>?_,fun h2=>?_⟩
   ·have e2:(c.type.toNat:Int)=2:=by simpa using h2
    rw [decide_eq_true e2,Bool.true_and] at hx
    simp only [↓wR,RA,simprocAttr,TF,ae,h2]
    refine zp [0,2,7,8,9,17,19] ?_
    simp only [↓wR,RA,simprocAttr,TF,ae,Af,oe]
    cases b with
    |true=>
     simp only [↓wR,RA,simprocAttr,TF,ae];repeat (simp (disch:=omega) only [ag,bf,bg,be,bb];try simp only [↓wR,RA,simprocAttr,TF,ae])
     exact ⟨(i+1,true),⟨hlt,by rw [hx];rfl⟩,by simp;omega,by (first|rfl|trivial|omega|((try (simp (disch:=omega) only [ag]));(try (simp only [FB]));first|done|rfl|omega)),by (first|rfl|trivial|omega|((try (simp (disch:=omega) only [ag]));(try (simp only [FB]));first|done|rfl|omega))⟩
    |false=>
     simp only [↓wR,RA,simprocAttr,TF,ae,jr,hcs.owner,hz.origin];repeat (simp (disch:=omega) only [ag,bf,bg,be,bb];try simp only [↓wR,RA,simprocAttr,TF,ae,jr,hcs.owner,hz.origin])
     exact ⟨(i+1,er c.owner z.origin),⟨hlt,by rw [hx,Bool.false_or]⟩,by simp;omega,by (first|rfl|trivial|omega|((try (simp (disch:=omega) only [ag]));(try (simp only [FB]));first|done|rfl|omega)),by (first|rfl|trivial|omega|((try (simp (disch:=omega) only [ag]));(try (simp only [FB]));first|done|rfl|omega))⟩
   ·have e2:¬ (c.type.toNat:Int)=2:=by simpa using h2
    rw [decide_eq_false e2,Bool.false_and,Bool.false_or] at hx
    simp only [↓wR,RA,simprocAttr,TF,ae,h2];repeat (simp (disch:=omega) only [ag,bf,bg,be,bb];try simp only [↓wR,RA,simprocAttr,TF,ae,h2])
    exact ⟨(i+1,b),⟨hlt,hx⟩,by simp;omega,by (first|rfl|trivial|omega|((try (simp (disch:=omega) only [ag]));(try (simp only [FB]));first|done|rfl|omega)),by (first|rfl|trivial|omega|((try (simp (disch:=omega) only [ag]));(try (simp only [FB]));first|done|rfl|omega))⟩
  rw [fl h] at hx
  have hb:b=i7 z:=by rw [hx];simp [Jv]
  simp only [↓wR,RA,simprocAttr,TF,ae,h]
  rw [hb]
  clear h hx hb
  refine dr (fun r st'=>r = .fo []∧st'=bj [some (.row [.vl false 1 (z.origin.map (aj.val false)),.vl false 5 (z.ai.map (ah.val false))] 0 2 41),some (.row [.vl false 1 (z.origin.map (aj.val false)),.vl false 5 (z.ai.map (ah.val false)),.sc (.int .i64 (dh (i7 z) 264 (ly z)))] 0 2 111),some (.row [.sc (.bool (i7 z))] 0 2 4),some (.row [.vl false 1 (z.origin.map (aj.val false)),.vl false 5 (z.ai.map (ah.val false))] 0 2 41),some (.row [.sc (.int .u16 2)] 0 2 26)]) rfl ?_ ?_
  ·refine ct (T:=[ft,fw,ia,kb,ke,kg,jq,l5,pd,lz]) ok mixed Tryz.func81 rfl (by kernel_rfl) (by kernel_rfl) (by kernel_rfl) (by kernel_rfl) ?_;unfold Tryz.f81
   simp only [↓wR,RA,simprocAttr,TF,ae]
   rw [cp];refine ⟨fun ⟨hn1,en1⟩=>?_,fun ⟨hn1,en1⟩=>?_⟩
   ·simp only [↓wR,RA,simprocAttr,TF,ae,hn1]
    rw [di];refine ⟨fun hn2=>?_,fun hn2=>?_⟩
    ·have hb:(i7 z)=false:=by simpa only [Bool.not_eq_true'] using hn2
     have hv:dh (i7 z) 264 (ly z)=264:=by unfold dh;rw [if_pos ⟨en1,hb⟩]
     simp only [↓wR,RA,simprocAttr,TF,ae,hn1,hn2,g6,gv,gk]
     try rw [hv]
    ·have hb:(i7 z)=true:=by simpa only [Bool.not_eq_false'] using hn2
     have hv:dh (i7 z) 264 (ly z)=ly z:=by unfold dh;rw [if_neg (fun q=>by rw [hb] at q;cases q.2)]
     simp only [↓wR,RA,simprocAttr,TF,ae,hn1,hn2,g6,gv,gk]
     try rw [hv]
   ·have hv:dh (i7 z) 264 (ly z)=ly z:=by unfold dh;rw [if_neg (fun q=>en1 q.1)]
    simp only [↓wR,RA,simprocAttr,TF,ae,hn1,g6,gv,gk]
    try rw [hv]
  rintro _ _ ⟨rfl,rfl⟩
  rw [show dh (i7 z) 264 (ly z)=xl z from rfl]
  simp only [↓wR,RA,simprocAttr,TF,ae,dv]
  obtain ⟨e0,he0⟩:∃ e0,xl z=e0:=⟨_,rfl⟩
  rw [he0]
  refine dr (fun r st'=>r = .fo []∧st'=bj [some (.row [.vl false 1 (z.origin.map (aj.val false)),.vl false 5 (z.ai.map (ah.val false))] 0 2 41),some (.row [.vl false 1 (z.origin.map (aj.val false)),.vl false 5 (z.ai.map (ah.val false)),.sc (.int .i64 (gn 265 (jz z) 0 z.ai e0))] 0 2 111),some (.row [.sc (.bool (i7 z))] 0 2 4),some (.row [.vl false 1 (z.origin.map (aj.val false)),.vl false 5 (z.ai.map (ah.val false))] 0 2 41),some (.row [.sc (.int .u16 2)] 0 2 26)]) rfl ?_ ?_
  ·refine ct (T:=[ft,fw,ia,kb,ke,kg,jq,l5,pd,lz]) ok mixed Tryz.func76 rfl (by kernel_rfl) (by kernel_rfl) (by kernel_rfl) (by kernel_rfl) ?_;unfold Tryz.f76
   simp only [↓wR,RA,simprocAttr,TF,ae]
   refine c7 [0,1,2,12,13,14] (fun (x:Nat × Int)=>[.ptr 1 0,.sc (.int .i64 (265)),.fn (.func 82) [.ptr 1 0] [],.vl false 5 (z.ai.map (ah.val false)),.sc (.int .i64 (z.ai.length)),.sc (.int .i64 (x.1))]) (fun x=>[some (.row [.vl false 1 (z.origin.map (aj.val false)),.vl false 5 (z.ai.map (ah.val false))] 0 2 41),some (.row [.vl false 1 (z.origin.map (aj.val false)),.vl false 5 (z.ai.map (ah.val false)),.sc (.int .i64 (x.2))] 0 2 111),some (.row [.sc (.bool (i7 z))] 0 2 4),some (.row [.vl false 1 (z.origin.map (aj.val false)),.vl false 5 (z.ai.map (ah.val false))] 0 2 41),some (.row [.sc (.int .u16 2)] 0 2 26)]) (fun x=>x.1≤z.ai.length∧gn 265 (jz z) 0 z.ai e0=gn 265 (jz z) x.1 (z.ai.drop x.1) x.2) (fun x=>z.ai.length - x.1) (0,e0) ⟨Nat.zero_le _,rfl⟩ (by simp only [↓wR,RA,simprocAttr,TF,ae]<;>rfl) (by simp only [↓wR,RA,simprocAttr,TF,ae]<;>rfl) ?_
   rintro ⟨i,e⟩ ⟨hi,hx⟩
   simp only at hi hx
   simp only [↓wR,RA,simprocAttr,TF,ae]
   rw [aw];refine ⟨fun h=>?_,fun h=>?_⟩
   ·obtain ⟨c,hc,hd1,hlt⟩:=dx (decide_eq_true h)
    rw [ug hd1] at hx
    have hcs:=hz.set c (List.mem_of_getElem? hc)
    have hi2:(0:Int)≤i∧(i:Int)≤z.ai.length:=by omega
    simp only [↓wR,RA,simprocAttr,TF,ae,h,hc]
    rw [c9];refine ⟨fun ⟨h1,e1⟩=>?_,fun ⟨h1,e1⟩=>?_⟩
    ·rw [if_pos e1] at hx
     simp only [↓wR,RA,simprocAttr,TF,ae,h1,g6,gv,gk]
     rw [hx]
    ·rw [if_neg (by omega)] at hx
     simp only [↓wR,RA,simprocAttr,TF,ae,h1,hcs,hz,hi2,Er]
     refine dr (fun r st'=>r = .fo []∧st'=bj [some (.row [.vl false 1 (z.origin.map (aj.val false)),.vl false 5 (z.ai.map (ah.val false))] 0 2 41),some (.row [.vl false 1 (z.origin.map (aj.val false)),.vl false 5 (z.ai.map (ah.val false)),.sc (.int .i64 (dh ((jz z) i c) 265 e))] 0 2 111),some (.row [.sc (.bool (i7 z))] 0 2 4),some (.row [.vl false 1 (z.origin.map (aj.val false)),.vl false 5 (z.ai.map (ah.val false))] 0 2 41),some (.row [.sc (.int .u16 2)] 0 2 26),some (.row [.vl false 1 (c.owner.map (aj.val false)),.sc (.int .u16 c.type.toNat),.sc (.int .u16 c.cls.toNat),.sc (.int .u32 c.ey.toNat),.vl false 4 (c.data.map (aq.val false))] 0 2 31)]) rfl ?_ ?_
     ·refine ct (T:=[ft,fw,ia,kb,ke,kg,jq,l5,pd,lz]) ok mixed Tryz.func81 rfl (by kernel_rfl) (by kernel_rfl) (by kernel_rfl) (by kernel_rfl) ?_;unfold Tryz.f81
      simp only [↓wR,RA,simprocAttr,TF,ae,e1]
      rw [di];refine ⟨fun hn2=>?_,fun hn2=>?_⟩
      ·have hb:((jz z) i c)=false:=by simpa only [Bool.not_eq_true'] using hn2
       have hv:dh ((jz z) i c) 265 0=265:=by unfold dh;rw [if_pos ⟨rfl,hb⟩]
       simp only [↓wR,RA,simprocAttr,TF,ae,hn2,g6,gv,gk]
       try rw [hv]
      ·have hb:((jz z) i c)=true:=by simpa only [Bool.not_eq_false'] using hn2
       have hv:dh ((jz z) i c) 265 0=0:=by unfold dh;rw [if_neg (fun q=>by rw [hb] at q;cases q.2)]
       simp only [↓wR,RA,simprocAttr,TF,ae,hn2,g6,gv,gk]
       try rw [hv]
     rintro _ _ ⟨rfl,rfl⟩
     simp only [↓wR,RA,simprocAttr,TF,ae,dv];repeat (simp (disch:=omega) only [ag,bf,bg,be,bb];try simp only [↓wR,RA,simprocAttr,TF,ae,dv])
     exact ⟨(i+1,dh ((jz z) i c) 265 e),⟨hlt,hx⟩,by simp;omega,by (first|rfl|trivial|omega|((try (simp (disch:=omega) only [ag]));(try (simp only [FB]));first|done|rfl|omega)),by (first|rfl|trivial|omega|((try (simp (disch:=omega) only [ag]));(try (simp only [FB]));first|done|rfl|omega))⟩
   ·rw [fl (decide_eq_false h)] at hx
    simp only [↓wR,RA,simprocAttr,TF,ae,h,g6,gv,gk]
    rw [hx];rfl
  rintro _ _ ⟨rfl,rfl⟩
  rw [← he0]
  clear he0
  simp only [↓wR,RA,simprocAttr,TF,ae,dv]
  rw [show gn 265 (jz z) 0 z.ai (xl z)=xo z from rfl]
  obtain ⟨e0,he0⟩:∃ e0,xo z=e0:=⟨_,rfl⟩
  rw [he0]
  refine dr (fun r st'=>r = .fo []∧st'=bj [some (.row [.vl false 1 (z.origin.map (aj.val false)),.vl false 5 (z.ai.map (ah.val false))] 0 2 41),some (.row [.vl false 1 (z.origin.map (aj.val false)),.vl false 5 (z.ai.map (ah.val false)),.sc (.int .i64 (gn 266 (fun _ s=>jy s) 0 z.ai e0))] 0 2 111),some (.row [.sc (.bool (i7 z))] 0 2 4),some (.row [.vl false 1 (z.origin.map (aj.val false)),.vl false 5 (z.ai.map (ah.val false))] 0 2 41),some (.row [.sc (.int .u16 2)] 0 2 26)]) rfl ?_ ?_
  ·refine ct (T:=[ft,fw,ia,kb,ke,kg,jq,l5,pd,lz]) ok mixed Tryz.func76 rfl (by kernel_rfl) (by kernel_rfl) (by kernel_rfl) (by kernel_rfl) ?_;unfold Tryz.f76
   simp only [↓wR,RA,simprocAttr,TF,ae]
   refine c7 [0,1,2,12,13,14] (fun (x:Nat × Int)=>[.ptr 1 0,.sc (.int .i64 (266)),.sc (.func (.func 83) #[] #[]),.vl false 5 (z.ai.map (ah.val false)),.sc (.int .i64 (z.ai.length)),.sc (.int .i64 (x.1))]) (fun x=>[some (.row [.vl false 1 (z.origin.map (aj.val false)),.vl false 5 (z.ai.map (ah.val false))] 0 2 41),some (.row [.vl false 1 (z.origin.map (aj.val false)),.vl false 5 (z.ai.map (ah.val false)),.sc (.int .i64 (x.2))] 0 2 111),some (.row [.sc (.bool (i7 z))] 0 2 4),some (.row [.vl false 1 (z.origin.map (aj.val false)),.vl false 5 (z.ai.map (ah.val false))] 0 2 41),some (.row [.sc (.int .u16 2)] 0 2 26)]) (fun x=>x.1≤z.ai.length∧gn 266 (fun _ s=>jy s) 0 z.ai e0=gn 266 (fun _ s=>jy s) x.1 (z.ai.drop x.1) x.2) (fun x=>z.ai.length - x.1) (0,e0) ⟨Nat.zero_le _,rfl⟩ (by simp only [↓wR,RA,simprocAttr,TF,ae]<;>rfl) (by simp only [↓wR,RA,simprocAttr,TF,ae]<;>rfl) ?_
   rintro ⟨i,e⟩ ⟨hi,hx⟩
   simp only at hi hx
   simp only [↓wR,RA,simprocAttr,TF,ae]
   rw [aw];refine ⟨fun h=>?_,fun h=>?_⟩
   ·obtain ⟨c,hc,hd1,hlt⟩:=dx (decide_eq_true h)
    rw [ug hd1] at hx
    have hcs:=hz.set c (List.mem_of_getElem? hc)
    have hi2:(0:Int)≤i∧(i:Int)≤z.ai.length:=by omega
    simp only [↓wR,RA,simprocAttr,TF,ae,h,hc]
    rw [c9];refine ⟨fun ⟨h1,e1⟩=>?_,fun ⟨h1,e1⟩=>?_⟩
    ·rw [if_pos e1] at hx
     simp only [↓wR,RA,simprocAttr,TF,ae,h1,g6,gv,gk]
     rw [hx]
    ·rw [if_neg (by omega)] at hx
     simp only [↓wR,RA,simprocAttr,TF,ae,h1,hcs,hz,hi2,H7]
     refine dr (fun r st'=>r = .fo []∧st'=bj [some (.row [.vl false 1 (z.origin.map (aj.val false)),.vl false 5 (z.ai.map (ah.val false))] 0 2 41),some (.row [.vl false 1 (z.origin.map (aj.val false)),.vl false 5 (z.ai.map (ah.val false)),.sc (.int .i64 (dh ((fun _ s=>jy s) i c) 266 e))] 0 2 111),some (.row [.sc (.bool (i7 z))] 0 2 4),some (.row [.vl false 1 (z.origin.map (aj.val false)),.vl false 5 (z.ai.map (ah.val false))] 0 2 41),some (.row [.sc (.int .u16 2)] 0 2 26),some (.row [.vl false 1 (c.owner.map (aj.val false)),.sc (.int .u16 c.type.toNat),.sc (.int .u16 c.cls.toNat),.sc (.int .u32 c.ey.toNat),.vl false 4 (c.data.map (aq.val false))] 0 2 31)]) rfl ?_ ?_
     ·refine ct (T:=[ft,fw,ia,kb,ke,kg,jq,l5,pd,lz]) ok mixed Tryz.func81 rfl (by kernel_rfl) (by kernel_rfl) (by kernel_rfl) (by kernel_rfl) ?_;unfold Tryz.f81
      simp only [↓wR,RA,simprocAttr,TF,ae,e1]
      rw [di];refine ⟨fun hn2=>?_,fun hn2=>?_⟩
      ·have hb:((fun _ s=>jy s) i c)=false:=by simpa only [Bool.not_eq_true'] using hn2
       have hv:dh ((fun _ s=>jy s) i c) 266 0=266:=by unfold dh;rw [if_pos ⟨rfl,hb⟩]
       simp only [↓wR,RA,simprocAttr,TF,ae,hn2,g6,gv,gk]
       try rw [hv]
      ·have hb:((fun _ s=>jy s) i c)=true:=by simpa only [Bool.not_eq_false'] using hn2
       have hv:dh ((fun _ s=>jy s) i c) 266 0=0:=by unfold dh;rw [if_neg (fun q=>by rw [hb] at q;cases q.2)]
       simp only [↓wR,RA,simprocAttr,TF,ae,hn2,g6,gv,gk]
       try rw [hv]
     rintro _ _ ⟨rfl,rfl⟩
     simp only [↓wR,RA,simprocAttr,TF,ae,dv];repeat (simp (disch:=omega) only [ag,bf,bg,be,bb];try simp only [↓wR,RA,simprocAttr,TF,ae,dv])
     exact ⟨(i+1,dh ((fun _ s=>jy s) i c) 266 e),⟨hlt,hx⟩,by simp;omega,by (first|rfl|trivial|omega|((try (simp (disch:=omega) only [ag]));(try (simp only [FB]));first|done|rfl|omega)),by (first|rfl|trivial|omega|((try (simp (disch:=omega) only [ag]));(try (simp only [FB]));first|done|rfl|omega))⟩
   ·rw [fl (decide_eq_false h)] at hx
    simp only [↓wR,RA,simprocAttr,TF,ae,h,g6,gv,gk]
    rw [hx];rfl
  rintro _ _ ⟨rfl,rfl⟩
  rw [← he0]
  clear he0
  simp only [↓wR,RA,simprocAttr,TF,ae,dv]
  rw [show gn 266 (fun _ s=>jy s) 0 z.ai (xo z)=Dq z from rfl]
  obtain ⟨e0,he0⟩:∃ e0,Dq z=e0:=⟨_,rfl⟩
  rw [he0]
  refine dr (fun r st'=>r = .fo []∧st'=bj [some (.row [.vl false 1 (z.origin.map (aj.val false)),.vl false 5 (z.ai.map (ah.val false))] 0 2 41),some (.row [.vl false 1 (z.origin.map (aj.val false)),.vl false 5 (z.ai.map (ah.val false)),.sc (.int .i64 (gn 267 (fun _ s=>mc z s) 0 z.ai e0))] 0 2 111),some (.row [.sc (.bool (i7 z))] 0 2 4),some (.row [.vl false 1 (z.origin.map (aj.val false)),.vl false 5 (z.ai.map (ah.val false))] 0 2 41),some (.row [.sc (.int .u16 2)] 0 2 26)]) rfl ?_ ?_
  ·refine ct (T:=[ft,fw,ia,kb,ke,kg,jq,l5,pd,lz]) ok mixed Tryz.func76 rfl (by kernel_rfl) (by kernel_rfl) (by kernel_rfl) (by kernel_rfl) ?_;unfold Tryz.f76
   simp only [↓wR,RA,simprocAttr,TF,ae]
   refine c7 [0,1,2,12,13,14] (fun (x:Nat × Int)=>[.ptr 1 0,.sc (.int .i64 (267)),.fn (.func 84) [] [.ptr 0 0],.vl false 5 (z.ai.map (ah.val false)),.sc (.int .i64 (z.ai.length)),.sc (.int .i64 (x.1))]) (fun x=>[some (.row [.vl false 1 (z.origin.map (aj.val false)),.vl false 5 (z.ai.map (ah.val false))] 0 2 41),some (.row [.vl false 1 (z.origin.map (aj.val false)),.vl false 5 (z.ai.map (ah.val false)),.sc (.int .i64 (x.2))] 0 2 111),some (.row [.sc (.bool (i7 z))] 0 2 4),some (.row [.vl false 1 (z.origin.map (aj.val false)),.vl false 5 (z.ai.map (ah.val false))] 0 2 41),some (.row [.sc (.int .u16 2)] 0 2 26)]) (fun x=>x.1≤z.ai.length∧gn 267 (fun _ s=>mc z s) 0 z.ai e0=gn 267 (fun _ s=>mc z s) x.1 (z.ai.drop x.1) x.2) (fun x=>z.ai.length - x.1) (0,e0) ⟨Nat.zero_le _,rfl⟩ (by simp only [↓wR,RA,simprocAttr,TF,ae]<;>rfl) (by simp only [↓wR,RA,simprocAttr,TF,ae]<;>rfl) ?_
   rintro ⟨i,e⟩ ⟨hi,hx⟩
   simp only at hi hx
   simp only [↓wR,RA,simprocAttr,TF,ae]
   rw [aw];refine ⟨fun h=>?_,fun h=>?_⟩
   ·obtain ⟨c,hc,hd1,hlt⟩:=dx (decide_eq_true h)
    rw [ug hd1] at hx
    have hcs:=hz.set c (List.mem_of_getElem? hc)
    have hi2:(0:Int)≤i∧(i:Int)≤z.ai.length:=by omega
    simp only [↓wR,RA,simprocAttr,TF,ae,h,hc]
    rw [c9];refine ⟨fun ⟨h1,e1⟩=>?_,fun ⟨h1,e1⟩=>?_⟩
    ·rw [if_pos e1] at hx
     simp only [↓wR,RA,simprocAttr,TF,ae,h1,g6,gv,gk]
     rw [hx]
    ·rw [if_neg (by omega)] at hx
     simp only [↓wR,RA,simprocAttr,TF,ae,h1,hcs,hz,hi2,O3]
     refine dr (fun r st'=>r = .fo []∧st'=bj [some (.row [.vl false 1 (z.origin.map (aj.val false)),.vl false 5 (z.ai.map (ah.val false))] 0 2 41),some (.row [.vl false 1 (z.origin.map (aj.val false)),.vl false 5 (z.ai.map (ah.val false)),.sc (.int .i64 (dh ((fun _ s=>mc z s) i c) 267 e))] 0 2 111),some (.row [.sc (.bool (i7 z))] 0 2 4),some (.row [.vl false 1 (z.origin.map (aj.val false)),.vl false 5 (z.ai.map (ah.val false))] 0 2 41),some (.row [.sc (.int .u16 2)] 0 2 26),some (.row [.vl false 1 (c.owner.map (aj.val false)),.sc (.int .u16 c.type.toNat),.sc (.int .u16 c.cls.toNat),.sc (.int .u32 c.ey.toNat),.vl false 4 (c.data.map (aq.val false))] 0 2 31)]) rfl ?_ ?_
     ·refine ct (T:=[ft,fw,ia,kb,ke,kg,jq,l5,pd,lz]) ok mixed Tryz.func81 rfl (by kernel_rfl) (by kernel_rfl) (by kernel_rfl) (by kernel_rfl) ?_;unfold Tryz.f81
      simp only [↓wR,RA,simprocAttr,TF,ae,e1]
      rw [di];refine ⟨fun hn2=>?_,fun hn2=>?_⟩
      ·have hb:((fun _ s=>mc z s) i c)=false:=by simpa only [Bool.not_eq_true'] using hn2
       have hv:dh ((fun _ s=>mc z s) i c) 267 0=267:=by unfold dh;rw [if_pos ⟨rfl,hb⟩]
       simp only [↓wR,RA,simprocAttr,TF,ae,hn2,g6,gv,gk]
       try rw [hv]
      ·have hb:((fun _ s=>mc z s) i c)=true:=by simpa only [Bool.not_eq_false'] using hn2
       have hv:dh ((fun _ s=>mc z s) i c) 267 0=0:=by unfold dh;rw [if_neg (fun q=>by rw [hb] at q;cases q.2)]
       simp only [↓wR,RA,simprocAttr,TF,ae,hn2,g6,gv,gk]
       try rw [hv]
     rintro _ _ ⟨rfl,rfl⟩
     simp only [↓wR,RA,simprocAttr,TF,ae,dv];repeat (simp (disch:=omega) only [ag,bf,bg,be,bb];try simp only [↓wR,RA,simprocAttr,TF,ae,dv])
     exact ⟨(i+1,dh ((fun _ s=>mc z s) i c) 267 e),⟨hlt,hx⟩,by simp;omega,by (first|rfl|trivial|omega|((try (simp (disch:=omega) only [ag]));(try (simp only [FB]));first|done|rfl|omega)),by (first|rfl|trivial|omega|((try (simp (disch:=omega) only [ag]));(try (simp only [FB]));first|done|rfl|omega))⟩
   ·rw [fl (decide_eq_false h)] at hx
    simp only [↓wR,RA,simprocAttr,TF,ae,h,g6,gv,gk]
    rw [hx];rfl
  rintro _ _ ⟨rfl,rfl⟩
  rw [← he0]
  clear he0
  simp only [↓wR,RA,simprocAttr,TF,ae,dv]
  rfl
 ·simp only [↓wR,RA,simprocAttr,TF,ae,hs1]
  have hbf:(decide ((gz z).1=1) && decide ((gz z).2=1))=false:=by rw [decide_eq_false (show ¬ (gz z).1=1 by omega),Bool.false_and]
  refine dr (fun r st'=>r = .fo []∧st'=bj [some (.row [.vl false 1 (z.origin.map (aj.val false)),.vl false 5 (z.ai.map (ah.val false))] 0 2 41),some (.row [.vl false 1 (z.origin.map (aj.val false)),.vl false 5 (z.ai.map (ah.val false)),.sc (.int .i64 (dh (decide ((gz z).1=1) && decide ((gz z).2=1)) 263 (o9 z)))] 0 2 111)]) rfl ?_ ?_
  ·refine ct (T:=[ft,fw,ia,kb,ke,kg,jq,l5,pd,lz]) ok mixed Tryz.func81 rfl (by kernel_rfl) (by kernel_rfl) (by kernel_rfl) (by kernel_rfl) ?_;unfold Tryz.f81
   simp only [↓wR,RA,simprocAttr,TF,ae]
   rw [cp];refine ⟨fun ⟨hn1,en1⟩=>?_,fun ⟨hn1,en1⟩=>?_⟩
   ·have hv:dh (decide ((gz z).1=1) && decide ((gz z).2=1)) 263 (o9 z)=263:=by unfold dh;rw [if_pos ⟨en1,hbf⟩]
    simp only [↓wR,RA,simprocAttr,TF,ae,hn1,g6,gv,gk]
    try rw [hv]
   ·have hv:dh (decide ((gz z).1=1) && decide ((gz z).2=1)) 263 (o9 z)=o9 z:=by unfold dh;rw [if_neg (fun q=>en1 q.1)]
    simp only [↓wR,RA,simprocAttr,TF,ae,hn1,g6,gv,gk]
    try rw [hv]
  rintro _ _ ⟨rfl,rfl⟩
  rw [show dh (decide ((gz z).1=1) && decide ((gz z).2=1)) 263 (o9 z)=ly z from rfl]
  simp only [↓wR,RA,simprocAttr,TF,ae,dv]
  refine ct (T:=[]) (ar.nil PP) mixed Tryz.func70 rfl (by kernel_rfl) (by kernel_rfl) (by kernel_rfl) (by kernel_rfl) ?_;unfold Tryz.f70
  simp only [↓wR,RA,simprocAttr,TF,ae]
  refine ⟨[1,3,6,45],?_⟩
  have hib:Cw PP 120=some (Tryz.f120.ntmps,Tryz.f120.body.getD .skip):=by kernel_rfl
  simp only [↓wR,RA,simprocAttr,TF,ae,hib]
  refine ⟨by kernel_rfl,fun l=>?_⟩
  unfold Tryz.f120
  simp only [↓wR,RA,simprocAttr,TF,ae]
  refine Gc [0,2,7,8,9] (fun (x:Nat × Bool)=>[.sc (.func (.yield l) #[] #[]),.ptr 4 0,.vl false 5 (z.ai.map (ah.val false)),.sc (.int .i64 (z.ai.length)),.sc (.int .i64 (x.1))]) (fun x=>[some (.row [.vl false 1 (z.origin.map (aj.val false)),.vl false 5 (z.ai.map (ah.val false))] 0 2 41),some (.row [.vl false 1 (z.origin.map (aj.val false)),.vl false 5 (z.ai.map (ah.val false)),.sc (.int .i64 (ly z))] 0 2 111),some (.row [.sc (.bool (x.2))] 0 2 4),some (.row [.vl false 1 (z.origin.map (aj.val false)),.vl false 5 (z.ai.map (ah.val false))] 0 2 41),some (.row [.sc (.int .u16 2)] 0 2 26)]) (fun x=>x.1≤z.ai.length∧i7 z=(x.2 || Jv z (z.ai.drop x.1))) (fun x=>z.ai.length - x.1) (0,false) ⟨Nat.zero_le _,by rw [Bool.false_or];rfl⟩ (by simp only [↓wR,RA,simprocAttr,TF,ae]<;>rfl) (by simp only [↓wR,RA,simprocAttr,TF,ae]<;>rfl) ?_
  rintro ⟨i,b⟩ ⟨hi,hx⟩
  simp only at hi hx
  simp only [↓wR,RA,simprocAttr,TF,ae]
  rw [wt];refine ⟨fun h=>?_,fun h=>?_⟩
  ·obtain ⟨c,hc,hd1,hlt⟩:=dx h
   have hcs:=hz.set c (List.mem_of_getElem? hc)
   rw [ae3 hd1] at hx
   simp only [↓wR,RA,simprocAttr,TF,ae,h,hc]
   rw [wt];refine ⟨fun h2=>?_,fun h2=>?_⟩
   ·have e2:(c.type.toNat:Int)=2:=by simpa using h2
    rw [decide_eq_true e2,Bool.true_and] at hx
    simp only [↓wR,RA,simprocAttr,TF,ae,h2]
    refine zp [0,2,7,8,9,17,19] ?_
    simp only [↓wR,RA,simprocAttr,TF,ae,Af,oe]
    cases b with
    |true=>
     simp only [↓wR,RA,simprocAttr,TF,ae];repeat (simp (disch:=omega) only [ag,bf,bg,be,bb];try simp only [↓wR,RA,simprocAttr,TF,ae])
     exact ⟨(i+1,true),⟨hlt,by rw [hx];rfl⟩,by simp;omega,by (first|rfl|trivial|omega|((try (simp (disch:=omega) only [ag]));(try (simp only [FB]));first|done|rfl|omega)),by (first|rfl|trivial|omega|((try (simp (disch:=omega) only [ag]));(try (simp only [FB]));first|done|rfl|omega))⟩
    |false=>
     simp only [↓wR,RA,simprocAttr,TF,ae,jr,hcs.owner,hz.origin];repeat (simp (disch:=omega) only [ag,bf,bg,be,bb];try simp only [↓wR,RA,simprocAttr,TF,ae,jr,hcs.owner,hz.origin])
     exact ⟨(i+1,er c.owner z.origin),⟨hlt,by rw [hx,Bool.false_or]⟩,by simp;omega,by (first|rfl|trivial|omega|((try (simp (disch:=omega) only [ag]));(try (simp only [FB]));first|done|rfl|omega)),by (first|rfl|trivial|omega|((try (simp (disch:=omega) only [ag]));(try (simp only [FB]));first|done|rfl|omega))⟩
   ·have e2:¬ (c.type.toNat:Int)=2:=by simpa using h2
    rw [decide_eq_false e2,Bool.false_and,Bool.false_or] at hx
    simp only [↓wR,RA,simprocAttr,TF,ae,h2];repeat (simp (disch:=omega) only [ag,bf,bg,be,bb];try simp only [↓wR,RA,simprocAttr,TF,ae,h2])
    exact ⟨(i+1,b),⟨hlt,hx⟩,by simp;omega,by (first|rfl|trivial|omega|((try (simp (disch:=omega) only [ag]));(try (simp only [FB]));first|done|rfl|omega)),by (first|rfl|trivial|omega|((try (simp (disch:=omega) only [ag]));(try (simp only [FB]));first|done|rfl|omega))⟩
  rw [fl h] at hx
  have hb:b=i7 z:=by rw [hx];simp [Jv]
  simp only [↓wR,RA,simprocAttr,TF,ae,h]
  rw [hb]
  clear h hx hb
  refine dr (fun r st'=>r = .fo []∧st'=bj [some (.row [.vl false 1 (z.origin.map (aj.val false)),.vl false 5 (z.ai.map (ah.val false))] 0 2 41),some (.row [.vl false 1 (z.origin.map (aj.val false)),.vl false 5 (z.ai.map (ah.val false)),.sc (.int .i64 (dh (i7 z) 264 (ly z)))] 0 2 111),some (.row [.sc (.bool (i7 z))] 0 2 4),some (.row [.vl false 1 (z.origin.map (aj.val false)),.vl false 5 (z.ai.map (ah.val false))] 0 2 41),some (.row [.sc (.int .u16 2)] 0 2 26)]) rfl ?_ ?_
  ·refine ct (T:=[ft,fw,ia,kb,ke,kg,jq,l5,pd,lz]) ok mixed Tryz.func81 rfl (by kernel_rfl) (by kernel_rfl) (by kernel_rfl) (by kernel_rfl) ?_;unfold Tryz.f81
   simp only [↓wR,RA,simprocAttr,TF,ae]
   rw [cp];refine ⟨fun ⟨hn1,en1⟩=>?_,fun ⟨hn1,en1⟩=>?_⟩
   ·simp only [↓wR,RA,simprocAttr,TF,ae,hn1]
    rw [di];refine ⟨fun hn2=>?_,fun hn2=>?_⟩
    ·have hb:(i7 z)=false:=by simpa only [Bool.not_eq_true'] using hn2
     have hv:dh (i7 z) 264 (ly z)=264:=by unfold dh;rw [if_pos ⟨en1,hb⟩]
     simp only [↓wR,RA,simprocAttr,TF,ae,hn1,hn2,g6,gv,gk]
     try rw [hv]
    ·have hb:(i7 z)=true:=by simpa only [Bool.not_eq_false'] using hn2
     have hv:dh (i7 z) 264 (ly z)=ly z:=by unfold dh;rw [if_neg (fun q=>by rw [hb] at q;cases q.2)]
     simp only [↓wR,RA,simprocAttr,TF,ae,hn1,hn2,g6,gv,gk]
     try rw [hv]
   ·have hv:dh (i7 z) 264 (ly z)=ly z:=by unfold dh;rw [if_neg (fun q=>en1 q.1)]
    simp only [↓wR,RA,simprocAttr,TF,ae,hn1,g6,gv,gk]
    try rw [hv]
  rintro _ _ ⟨rfl,rfl⟩
  rw [show dh (i7 z) 264 (ly z)=xl z from rfl]
  simp only [↓wR,RA,simprocAttr,TF,ae,dv]
  obtain ⟨e0,he0⟩:∃ e0,xl z=e0:=⟨_,rfl⟩
  rw [he0]
  refine dr (fun r st'=>r = .fo []∧st'=bj [some (.row [.vl false 1 (z.origin.map (aj.val false)),.vl false 5 (z.ai.map (ah.val false))] 0 2 41),some (.row [.vl false 1 (z.origin.map (aj.val false)),.vl false 5 (z.ai.map (ah.val false)),.sc (.int .i64 (gn 265 (jz z) 0 z.ai e0))] 0 2 111),some (.row [.sc (.bool (i7 z))] 0 2 4),some (.row [.vl false 1 (z.origin.map (aj.val false)),.vl false 5 (z.ai.map (ah.val false))] 0 2 41),some (.row [.sc (.int .u16 2)] 0 2 26)]) rfl ?_ ?_
  ·refine ct (T:=[ft,fw,ia,kb,ke,kg,jq,l5,pd,lz]) ok mixed Tryz.func76 rfl (by kernel_rfl) (by kernel_rfl) (by kernel_rfl) (by kernel_rfl) ?_;unfold Tryz.f76
   simp only [↓wR,RA,simprocAttr,TF,ae]
   refine c7 [0,1,2,12,13,14] (fun (x:Nat × Int)=>[.ptr 1 0,.sc (.int .i64 (265)),.fn (.func 82) [.ptr 1 0] [],.vl false 5 (z.ai.map (ah.val false)),.sc (.int .i64 (z.ai.length)),.sc (.int .i64 (x.1))]) (fun x=>[some (.row [.vl false 1 (z.origin.map (aj.val false)),.vl false 5 (z.ai.map (ah.val false))] 0 2 41),some (.row [.vl false 1 (z.origin.map (aj.val false)),.vl false 5 (z.ai.map (ah.val false)),.sc (.int .i64 (x.2))] 0 2 111),some (.row [.sc (.bool (i7 z))] 0 2 4),some (.row [.vl false 1 (z.origin.map (aj.val false)),.vl false 5 (z.ai.map (ah.val false))] 0 2 41),some (.row [.sc (.int .u16 2)] 0 2 26)]) (fun x=>x.1≤z.ai.length∧gn 265 (jz z) 0 z.ai e0=gn 265 (jz z) x.1 (z.ai.drop x.1) x.2) (fun x=>z.ai.length - x.1) (0,e0) ⟨Nat.zero_le _,rfl⟩ (by simp only [↓wR,RA,simprocAttr,TF,ae]<;>rfl) (by simp only [↓wR,RA,simprocAttr,TF,ae]<;>rfl) ?_
   rintro ⟨i,e⟩ ⟨hi,hx⟩
   simp only at hi hx
   simp only [↓wR,RA,simprocAttr,TF,ae]
   rw [aw];refine ⟨fun h=>?_,fun h=>?_⟩
   ·obtain ⟨c,hc,hd1,hlt⟩:=dx (decide_eq_true h)
    rw [ug hd1] at hx
    have hcs:=hz.set c (List.mem_of_getElem? hc)
    have hi2:(0:Int)≤i∧(i:Int)≤z.ai.length:=by omega
    simp only [↓wR,RA,simprocAttr,TF,ae,h,hc]
    rw [c9];refine ⟨fun ⟨h1,e1⟩=>?_,fun ⟨h1,e1⟩=>?_⟩
    ·rw [if_pos e1] at hx
     simp only [↓wR,RA,simprocAttr,TF,ae,h1,g6,gv,gk]
     rw [hx]
    ·rw [if_neg (by omega)] at hx
     simp only [↓wR,RA,simprocAttr,TF,ae,h1,hcs,hz,hi2,Er]
     refine dr (fun r st'=>r = .fo []∧st'=bj [some (.row [.vl false 1 (z.origin.map (aj.val false)),.vl false 5 (z.ai.map (ah.val false))] 0 2 41),some (.row [.vl false 1 (z.origin.map (aj.val false)),.vl false 5 (z.ai.map (ah.val false)),.sc (.int .i64 (dh ((jz z) i c) 265 e))] 0 2 111),some (.row [.sc (.bool (i7 z))] 0 2 4),some (.row [.vl false 1 (z.origin.map (aj.val false)),.vl false 5 (z.ai.map (ah.val false))] 0 2 41),some (.row [.sc (.int .u16 2)] 0 2 26),some (.row [.vl false 1 (c.owner.map (aj.val false)),.sc (.int .u16 c.type.toNat),.sc (.int .u16 c.cls.toNat),.sc (.int .u32 c.ey.toNat),.vl false 4 (c.data.map (aq.val false))] 0 2 31)]) rfl ?_ ?_
     ·refine ct (T:=[ft,fw,ia,kb,ke,kg,jq,l5,pd,lz]) ok mixed Tryz.func81 rfl (by kernel_rfl) (by kernel_rfl) (by kernel_rfl) (by kernel_rfl) ?_;unfold Tryz.f81
      simp only [↓wR,RA,simprocAttr,TF,ae,e1]
      rw [di];refine ⟨fun hn2=>?_,fun hn2=>?_⟩
      ·have hb:((jz z) i c)=false:=by simpa only [Bool.not_eq_true'] using hn2
       have hv:dh ((jz z) i c) 265 0=265:=by unfold dh;rw [if_pos ⟨rfl,hb⟩]
       simp only [↓wR,RA,simprocAttr,TF,ae,hn2,g6,gv,gk]
       try rw [hv]
      ·have hb:((jz z) i c)=true:=by simpa only [Bool.not_eq_false'] using hn2
       have hv:dh ((jz z) i c) 265 0=0:=by unfold dh;rw [if_neg (fun q=>by rw [hb] at q;cases q.2)]
       simp only [↓wR,RA,simprocAttr,TF,ae,hn2,g6,gv,gk]
       try rw [hv]
     rintro _ _ ⟨rfl,rfl⟩
     simp only [↓wR,RA,simprocAttr,TF,ae,dv];repeat (simp (disch:=omega) only [ag,bf,bg,be,bb];try simp only [↓wR,RA,simprocAttr,TF,ae,dv])
     exact ⟨(i+1,dh ((jz z) i c) 265 e),⟨hlt,hx⟩,by simp;omega,by (first|rfl|trivial|omega|((try (simp (disch:=omega) only [ag]));(try (simp only [FB]));first|done|rfl|omega)),by (first|rfl|trivial|omega|((try (simp (disch:=omega) only [ag]));(try (simp only [FB]));first|done|rfl|omega))⟩
   ·rw [fl (decide_eq_false h)] at hx
    simp only [↓wR,RA,simprocAttr,TF,ae,h,g6,gv,gk]
    rw [hx];rfl
  rintro _ _ ⟨rfl,rfl⟩
  rw [← he0]
  clear he0
  simp only [↓wR,RA,simprocAttr,TF,ae,dv]
  rw [show gn 265 (jz z) 0 z.ai (xl z)=xo z from rfl]
  obtain ⟨e0,he0⟩:∃ e0,xo z=e0:=⟨_,rfl⟩
  rw [he0]
  refine dr (fun r st'=>r = .fo []∧st'=bj [some (.row [.vl false 1 (z.origin.map (aj.val false)),.vl false 5 (z.ai.map (ah.val false))] 0 2 41),some (.row [.vl false 1 (z.origin.map (aj.val false)),.vl false 5 (z.ai.map (ah.val false)),.sc (.int .i64 (gn 266 (fun _ s=>jy s) 0 z.ai e0))] 0 2 111),some (.row [.sc (.bool (i7 z))] 0 2 4),some (.row [.vl false 1 (z.origin.map (aj.val false)),.vl false 5 (z.ai.map (ah.val false))] 0 2 41),some (.row [.sc (.int .u16 2)] 0 2 26)]) rfl ?_ ?_
  ·refine ct (T:=[ft,fw,ia,kb,ke,kg,jq,l5,pd,lz]) ok mixed Tryz.func76 rfl (by kernel_rfl) (by kernel_rfl) (by kernel_rfl) (by kernel_rfl) ?_;unfold Tryz.f76
   simp only [↓wR,RA,simprocAttr,TF,ae]
   refine c7 [0,1,2,12,13,14] (fun (x:Nat × Int)=>[.ptr 1 0,.sc (.int .i64 (266)),.sc (.func (.func 83) #[] #[]),.vl false 5 (z.ai.map (ah.val false)),.sc (.int .i64 (z.ai.length)),.sc (.int .i64 (x.1))]) (fun x=>[some (.row [.vl false 1 (z.origin.map (aj.val false)),.vl false 5 (z.ai.map (ah.val false))] 0 2 41),some (.row [.vl false 1 (z.origin.map (aj.val false)),.vl false 5 (z.ai.map (ah.val false)),.sc (.int .i64 (x.2))] 0 2 111),some (.row [.sc (.bool (i7 z))] 0 2 4),some (.row [.vl false 1 (z.origin.map (aj.val false)),.vl false 5 (z.ai.map (ah.val false))] 0 2 41),some (.row [.sc (.int .u16 2)] 0 2 26)]) (fun x=>x.1≤z.ai.length∧gn 266 (fun _ s=>jy s) 0 z.ai e0=gn 266 (fun _ s=>jy s) x.1 (z.ai.drop x.1) x.2) (fun x=>z.ai.length - x.1) (0,e0) ⟨Nat.zero_le _,rfl⟩ (by simp only [↓wR,RA,simprocAttr,TF,ae]<;>rfl) (by simp only [↓wR,RA,simprocAttr,TF,ae]<;>rfl) ?_
   rintro ⟨i,e⟩ ⟨hi,hx⟩
   simp only at hi hx
   simp only [↓wR,RA,simprocAttr,TF,ae]
   rw [aw];refine ⟨fun h=>?_,fun h=>?_⟩
   ·obtain ⟨c,hc,hd1,hlt⟩:=dx (decide_eq_true h)
    rw [ug hd1] at hx
    have hcs:=hz.set c (List.mem_of_getElem? hc)
    have hi2:(0:Int)≤i∧(i:Int)≤z.ai.length:=by omega
    simp only [↓wR,RA,simprocAttr,TF,ae,h,hc]
    rw [c9];refine ⟨fun ⟨h1,e1⟩=>?_,fun ⟨h1,e1⟩=>?_⟩
    ·rw [if_pos e1] at hx
     simp only [↓wR,RA,simprocAttr,TF,ae,h1,g6,gv,gk]
     rw [hx]
    ·rw [if_neg (by omega)] at hx
     simp only [↓wR,RA,simprocAttr,TF,ae,h1,hcs,hz,hi2,H7]
     refine dr (fun r st'=>r = .fo []∧st'=bj [some (.row [.vl false 1 (z.origin.map (aj.val false)),.vl false 5 (z.ai.map (ah.val false))] 0 2 41),some (.row [.vl false 1 (z.origin.map (aj.val false)),.vl false 5 (z.ai.map (ah.val false)),.sc (.int .i64 (dh ((fun _ s=>jy s) i c) 266 e))] 0 2 111),some (.row [.sc (.bool (i7 z))] 0 2 4),some (.row [.vl false 1 (z.origin.map (aj.val false)),.vl false 5 (z.ai.map (ah.val false))] 0 2 41),some (.row [.sc (.int .u16 2)] 0 2 26),some (.row [.vl false 1 (c.owner.map (aj.val false)),.sc (.int .u16 c.type.toNat),.sc (.int .u16 c.cls.toNat),.sc (.int .u32 c.ey.toNat),.vl false 4 (c.data.map (aq.val false))] 0 2 31)]) rfl ?_ ?_
     ·refine ct (T:=[ft,fw,ia,kb,ke,kg,jq,l5,pd,lz]) ok mixed Tryz.func81 rfl (by kernel_rfl) (by kernel_rfl) (by kernel_rfl) (by kernel_rfl) ?_;unfold Tryz.f81
      simp only [↓wR,RA,simprocAttr,TF,ae,e1]
      rw [di];refine ⟨fun hn2=>?_,fun hn2=>?_⟩
      ·have hb:((fun _ s=>jy s) i c)=false:=by simpa only [Bool.not_eq_true'] using hn2
       have hv:dh ((fun _ s=>jy s) i c) 266 0=266:=by unfold dh;rw [if_pos ⟨rfl,hb⟩]
       simp only [↓wR,RA,simprocAttr,TF,ae,hn2,g6,gv,gk]
       try rw [hv]
      ·have hb:((fun _ s=>jy s) i c)=true:=by simpa only [Bool.not_eq_false'] using hn2
       have hv:dh ((fun _ s=>jy s) i c) 266 0=0:=by unfold dh;rw [if_neg (fun q=>by rw [hb] at q;cases q.2)]
       simp only [↓wR,RA,simprocAttr,TF,ae,hn2,g6,gv,gk]
       try rw [hv]
     rintro _ _ ⟨rfl,rfl⟩
     simp only [↓wR,RA,simprocAttr,TF,ae,dv];repeat (simp (disch:=omega) only [ag,bf,bg,be,bb];try simp only [↓wR,RA,simprocAttr,TF,ae,dv])
     exact ⟨(i+1,dh ((fun _ s=>jy s) i c) 266 e),⟨hlt,hx⟩,by simp;omega,by (first|rfl|trivial|omega|((try (simp (disch:=omega) only [ag]));(try (simp only [FB]));first|done|rfl|omega)),by (first|rfl|trivial|omega|((try (simp (disch:=omega) only [ag]));(try (simp only [FB]));first|done|rfl|omega))⟩
   ·rw [fl (decide_eq_false h)] at hx
    simp only [↓wR,RA,simprocAttr,TF,ae,h,g6,gv,gk]
    rw [hx];rfl
  rintro _ _ ⟨rfl,rfl⟩
  rw [← he0]
  clear he0
  simp only [↓wR,RA,simprocAttr,TF,ae,dv]
  rw [show gn 266 (fun _ s=>jy s) 0 z.ai (xo z)=Dq z from rfl]
  obtain ⟨e0,he0⟩:∃ e0,Dq z=e0:=⟨_,rfl⟩
  rw [he0]
  refine dr (fun r st'=>r = .fo []∧st'=bj [some (.row [.vl false 1 (z.origin.map (aj.val false)),.vl false 5 (z.ai.map (ah.val false))] 0 2 41),some (.row [.vl false 1 (z.origin.map (aj.val false)),.vl false 5 (z.ai.map (ah.val false)),.sc (.int .i64 (gn 267 (fun _ s=>mc z s) 0 z.ai e0))] 0 2 111),some (.row [.sc (.bool (i7 z))] 0 2 4),some (.row [.vl false 1 (z.origin.map (aj.val false)),.vl false 5 (z.ai.map (ah.val false))] 0 2 41),some (.row [.sc (.int .u16 2)] 0 2 26)]) rfl ?_ ?_
  ·refine ct (T:=[ft,fw,ia,kb,ke,kg,jq,l5,pd,lz]) ok mixed Tryz.func76 rfl (by kernel_rfl) (by kernel_rfl) (by kernel_rfl) (by kernel_rfl) ?_;unfold Tryz.f76
   simp only [↓wR,RA,simprocAttr,TF,ae]
   refine c7 [0,1,2,12,13,14] (fun (x:Nat × Int)=>[.ptr 1 0,.sc (.int .i64 (267)),.fn (.func 84) [] [.ptr 0 0],.vl false 5 (z.ai.map (ah.val false)),.sc (.int .i64 (z.ai.length)),.sc (.int .i64 (x.1))]) (fun x=>[some (.row [.vl false 1 (z.origin.map (aj.val false)),.vl false 5 (z.ai.map (ah.val false))] 0 2 41),some (.row [.vl false 1 (z.origin.map (aj.val false)),.vl false 5 (z.ai.map (ah.val false)),.sc (.int .i64 (x.2))] 0 2 111),some (.row [.sc (.bool (i7 z))] 0 2 4),some (.row [.vl false 1 (z.origin.map (aj.val false)),.vl false 5 (z.ai.map (ah.val false))] 0 2 41),some (.row [.sc (.int .u16 2)] 0 2 26)]) (fun x=>x.1≤z.ai.length∧gn 267 (fun _ s=>mc z s) 0 z.ai e0=gn 267 (fun _ s=>mc z s) x.1 (z.ai.drop x.1) x.2) (fun x=>z.ai.length - x.1) (0,e0) ⟨Nat.zero_le _,rfl⟩ (by simp only [↓wR,RA,simprocAttr,TF,ae]<;>rfl) (by simp only [↓wR,RA,simprocAttr,TF,ae]<;>rfl) ?_
   rintro ⟨i,e⟩ ⟨hi,hx⟩
   simp only at hi hx
   simp only [↓wR,RA,simprocAttr,TF,ae]
   rw [aw];refine ⟨fun h=>?_,fun h=>?_⟩
   ·obtain ⟨c,hc,hd1,hlt⟩:=dx (decide_eq_true h)
    rw [ug hd1] at hx
    have hcs:=hz.set c (List.mem_of_getElem? hc)
    have hi2:(0:Int)≤i∧(i:Int)≤z.ai.length:=by omega
    simp only [↓wR,RA,simprocAttr,TF,ae,h,hc]
    rw [c9];refine ⟨fun ⟨h1,e1⟩=>?_,fun ⟨h1,e1⟩=>?_⟩
    ·rw [if_pos e1] at hx
     simp only [↓wR,RA,simprocAttr,TF,ae,h1,g6,gv,gk]
     rw [hx]
    ·rw [if_neg (by omega)] at hx
     simp only [↓wR,RA,simprocAttr,TF,ae,h1,hcs,hz,hi2,O3]
     refine dr (fun r st'=>r = .fo []∧st'=bj [some (.row [.vl false 1 (z.origin.map (aj.val false)),.vl false 5 (z.ai.map (ah.val false))] 0 2 41),some (.row [.vl false 1 (z.origin.map (aj.val false)),.vl false 5 (z.ai.map (ah.val false)),.sc (.int .i64 (dh ((fun _ s=>mc z s) i c) 267 e))] 0 2 111),some (.row [.sc (.bool (i7 z))] 0 2 4),some (.row [.vl false 1 (z.origin.map (aj.val false)),.vl false 5 (z.ai.map (ah.val false))] 0 2 41),some (.row [.sc (.int .u16 2)] 0 2 26),some (.row [.vl false 1 (c.owner.map (aj.val false)),.sc (.int .u16 c.type.toNat),.sc (.int .u16 c.cls.toNat),.sc (.int .u32 c.ey.toNat),.vl false 4 (c.data.map (aq.val false))] 0 2 31)]) rfl ?_ ?_
     ·refine ct (T:=[ft,fw,ia,kb,ke,kg,jq,l5,pd,lz]) ok mixed Tryz.func81 rfl (by kernel_rfl) (by kernel_rfl) (by kernel_rfl) (by kernel_rfl) ?_;unfold Tryz.f81
      simp only [↓wR,RA,simprocAttr,TF,ae,e1]
      rw [di];refine ⟨fun hn2=>?_,fun hn2=>?_⟩
      ·have hb:((fun _ s=>mc z s) i c)=false:=by simpa only [Bool.not_eq_true'] using hn2
       have hv:dh ((fun _ s=>mc z s) i c) 267 0=267:=by unfold dh;rw [if_pos ⟨rfl,hb⟩]
       simp only [↓wR,RA,simprocAttr,TF,ae,hn2,g6,gv,gk]
       try rw [hv]
      ·have hb:((fun _ s=>mc z s) i c)=true:=by simpa only [Bool.not_eq_false'] using hn2
       have hv:dh ((fun _ s=>mc z s) i c) 267 0=0:=by unfold dh;rw [if_neg (fun q=>by rw [hb] at q;cases q.2)]
       simp only [↓wR,RA,simprocAttr,TF,ae,hn2,g6,gv,gk]
       try rw [hv]
     rintro _ _ ⟨rfl,rfl⟩
     simp only [↓wR,RA,simprocAttr,TF,ae,dv];repeat (simp (disch:=omega) only [ag,bf,bg,be,bb];try simp only [↓wR,RA,simprocAttr,TF,ae,dv])
     exact ⟨(i+1,dh ((fun _ s=>mc z s) i c) 267 e),⟨hlt,hx⟩,by simp;omega,by (first|rfl|trivial|omega|((try (simp (disch:=omega) only [ag]));(try (simp only [FB]));first|done|rfl|omega)),by (first|rfl|trivial|omega|((try (simp (disch:=omega) only [ag]));(try (simp only [FB]));first|done|rfl|omega))⟩
   ·rw [fl (decide_eq_false h)] at hx
    simp only [↓wR,RA,simprocAttr,TF,ae,h,g6,gv,gk]
    rw [hx];rfl
  rintro _ _ ⟨rfl,rfl⟩
  rw [← he0]
  clear he0
  simp only [↓wR,RA,simprocAttr,TF,ae,dv]
  rfl
noncomputable def Bu (x:bp × Unit):Option AV:=if bz x.1 then some ((r1 (bh .i64)).E true (lg x.1)) else none
set_option maxRecDepth 2000000 in
theorem Hp (x:bp × Unit) (r:AV) (h:Bu x=some r):bk PP 27 ((aC br a0).E x) r:=by
 by_cases hc:bz x.1
 case neg=>simp only [Bu,if_neg hc] at h;cases h
 simp only [Bu,if_pos hc] at h
 cases h
 exact ay (ar.cons (ak tn) (ar.cons (ak pv) (ar.cons (ak Kt) (ar.cons (ak P8) (ar.cons (ak Q8) (ar.cons (ak P0) (ar.cons (ak Lh) (ar.cons (ak Tq) (ar.cons (ak X4) (ar.cons (ak Us) (ar.nil PP))))))))))) Tryz.func27 (by kernel_rfl) (by kernel_rfl) (by kernel_rfl) (Nat.le_of_ble_eq_true (by kernel_rfl)) (r1 (bh .i64)) true (lg x.1) (ag4 x.1 hc)
noncomputable abbrev ag8:Nat × Bool × (List AV→M AV):=(27,true,c8 (aC br a0) Bu)
end Go.Proofs.YtgencolcibpcaaaGreat
end
section
namespace Go.Proofs.YtgencolcibpcaaaGreat
open Go.Vm
theorem tu {a b:Name}:er a b=true↔fm a=fm b:=by simp [er]
theorem Pf:∀ a:List UInt8,Lib.compareBytes a a=0
 | []=>rfl
 |a::r=>by rw [Lib.compareBytes,if_neg (UInt8.lt_irrefl a),if_neg (UInt8.lt_irrefl a)];exact Pf r
theorem Pc:∀ a b:List UInt8,Lib.compareBytes a b=0→a=b
 | [],[],_=>rfl
 | [],_::_,h=>by cases h
 |_::_,[],h=>by cases h
 |a::r,b::q,h=>by
  rw [Lib.compareBytes] at h
  split at h
  ·cases h
  ·rename_i h1
   split at h
   ·cases h
   ·rename_i h2
    rw [UInt8.lt_iff_toNat_lt] at h1 h2
    rw [UInt8.toNat_inj.1 (show a.toNat=b.toNat by omega),Pc r q h]
theorem Sp:∀ a b c:List UInt8,Lib.compareBytes a b<0→Lib.compareBytes b c<0→Lib.compareBytes a c<0
 |_,[],[],_,h=>by cases h
 |_,_::_,[],_,h=>by cases h
 | [],_,_::_,_,_=>by show (-1:Int)<0;decide
 |_::_,[],_::_,h,_=>by cases h
 |a::r,b::q,c::p,h1,h2=>by
  have ih:=Sp r q p
  rw [Lib.compareBytes] at h1 h2 ⊢
  simp only [UInt8.lt_iff_toNat_lt] at h1 h2 ⊢
  split at h1
  ·split at h2
   ·rw [if_pos (by omega)];decide
   ·split at h2
    ·cases h2
    ·rw [if_pos (by omega)];decide
  ·split at h1
   ·cases h1
   ·split at h2
    ·rw [if_pos (by omega)];decide
    ·split at h2
     ·cases h2
     ·rw [if_neg (by omega),if_neg (by omega)];exact ih h1 h2
theorem Ii:∀ a b:List UInt8,Lib.compareBytes a b = - Lib.compareBytes b a
 | [],[]=>rfl
 | [],_::_=>rfl
 |_::_,[]=>rfl
 |a::r,b::q=>by
  have ih:=Ii r q
  rw [Lib.compareBytes,Lib.compareBytes]
  simp only [UInt8.lt_iff_toNat_lt]
  by_cases h1:a.toNat<b.toNat
  ·rw [if_pos h1,if_neg (show ¬ b.toNat<a.toNat by omega),if_pos h1]
  ·by_cases h2:b.toNat<a.toNat
   ·rw [if_neg h1,if_pos h2,if_pos h2];rfl
   ·rw [if_neg h1,if_neg h2,if_neg h2,if_neg h1];exact ih
theorem apu (a:ByteArray):vi a a=0:=Pf _
theorem Xr {a b:ByteArray} (h:vi a b=0):a=b:=by
 have:=Pc _ _ h
 obtain ⟨⟨a⟩⟩:=a
 obtain ⟨⟨b⟩⟩:=b
 simp only at this
 rw [this]
noncomputable def nv:List ByteArray→List ByteArray→Int
 | [],[]=>0
 | [],_::_=>-1
 |_::_,[]=>1
 |a::r,b::q=>if a=b then nv r q else vi a b
theorem Zg:∀ r q:List ByteArray,nv r q=0↔r=q
 | [],[]=>by simp [nv]
 | [],_::_=>by simp [nv]
 |_::_,[]=>by simp [nv]
 |a::r,b::q=>by
  rw [nv]
  split
  ·rename_i h;rw [Zg r q,h];simp
  ·rename_i h
   constructor
   ·intro e;exact (h (Xr e)).elim
   ·intro e;exact (h (List.cons.inj e).1).elim
theorem U9:∀ r q p:List ByteArray,nv r q<0→nv q p<0→nv r p<0
 |_,[],[],_,h=>by rw [nv] at h;cases h
 |_,_::_,[],_,h=>by rw [nv] at h;cases h
 | [],_,_::_,_,_=>by rw [nv];decide
 |_::_,[],_::_,h,_=>by rw [nv] at h;cases h
 |a::r,b::q,c::p,h1,h2=>by
  have ih:=U9 r q p
  rw [nv] at h1 h2 ⊢
  by_cases e1:a=b
  ·subst e1
   rw [if_pos rfl] at h1
   by_cases e2:a=c
   ·rw [if_pos e2] at h2 ⊢;exact ih h1 h2
   ·rw [if_neg e2] at h2 ⊢;exact h2
  ·rw [if_neg e1] at h1
   by_cases e2:b=c
   ·subst e2
    rw [if_neg e1];exact h1
   ·rw [if_neg e2] at h2
    have h3:vi a c<0:=Sp _ _ _ h1 h2
    rw [if_neg (fun e=>by rw [e,apu] at h3;cases h3)];exact h3
theorem Yg:∀ r q:List ByteArray,nv r q = - nv q r
 | [],[]=>by simp [nv]
 | [],_::_=>by simp [nv]
 |_::_,[]=>by simp [nv]
 |a::r,b::q=>by
  rw [nv,nv]
  by_cases e:a=b
  ·rw [if_pos e,if_pos e.symm];exact Yg r q
  ·rw [if_neg e,if_neg (fun q=>e q.symm)];exact Ii _ _
theorem aeg:∀ r q:List ByteArray,(if fh r q=r.length∧fh r q=q.length then (0:Int) else if fh r q=r.length then -1 else if fh r q=q.length then 1 else
 match r[fh r q]?,q[fh r q]? with|some x,some y=>vi (fold x) (fold y)|_,_=>0)=nv (r.map fold) (q.map fold)
 | [],[]=>by simp [fh,nv]
 | [],_::_=>by simp [fh,nv]
 |_::_,[]=>by simp [fh,nv]
 |a::r,b::q=>by
  have ih:=aeg r q
  rw [List.map_cons,List.map_cons,nv]
  by_cases e:fold a=fold b
  ·rw [if_pos e,← ih]
   have hc:fh (a::r) (b::q)=fh r q+1:=by rw [fh,if_pos e]
   simp only [hc,List.length_cons,Nat.add_right_cancel_iff,List.getElem?_cons_succ]
  ·rw [if_neg e]
   have hc:fh (a::r) (b::q)=0:=by rw [fh,if_neg e]
   simp only [hc,List.length_cons,List.getElem?_cons_zero]
   rw [if_neg (by omega),if_neg (by omega),if_neg (by omega)]
theorem C4 (a b:Name):nr a b=nv (fm a).reverse (fm b).reverse:=by
 have h:=aeg a.reverse b.reverse
 rw [List.map_reverse,List.map_reverse,List.length_reverse,List.length_reverse] at h
 unfold nr
 change _=nv (a.map fold).reverse (b.map fold).reverse
 rw [← h]
 have hk:common a b=fh a.reverse b.reverse:=rfl
 rw [hk]
 by_cases h1:fh a.reverse b.reverse=a.length∧fh a.reverse b.reverse=b.length
 ·rw [if_pos h1,if_pos h1]
 rw [if_neg h1,if_neg h1]
 by_cases h2:fh a.reverse b.reverse=a.length
 ·rw [if_pos h2,if_pos h2]
 rw [if_neg h2,if_neg h2]
 by_cases h3:fh a.reverse b.reverse=b.length
 ·rw [if_pos h3,if_pos h3]
 rw [if_neg h3,if_neg h3]
 have l1:=zo a.reverse b.reverse
 have l2:=El a.reverse b.reverse
 rw [List.length_reverse] at l1 l2
 unfold abh
 rw [List.getElem?_reverse (by omega),List.getElem?_reverse (by omega)]
 try rfl
theorem C8 {a b:Name}:nr a b=0↔er a b=true:=by
 rw [C4,Zg,tu]
 constructor
 ·intro h;have:=congrArg List.reverse h;simpa using this
 ·intro h;rw [h]
theorem Ta {a b c:Name} (h:er b c=true):nr a b=nr a c:=by rw [C4,C4,tu.1 h]
theorem ai3 {a b c:Name} (h:er a b=true):nr a c=nr b c:=by rw [C4,C4,tu.1 h]
theorem an8 {a b c:Name} (h1:nr a b<0) (h2:nr b c<0):nr a c<0:=by rw [C4] at *;exact U9 _ _ _ h1 h2
theorem Gz (a b:Name):nr a b = - nr b a:=by rw [C4,C4];exact Yg _ _
end Go.Proofs.YtgencolcibpcaaaGreat
end
namespace Go.Vm
def j4 {α:Type} (lt : α → α→Bool) (x : α):List α→List α
 | []=>[x]
 |y::l=>bif lt x y then x::y::l else y::j4 lt x l
def dg {α:Type} (lt : α → α→Bool):List α→List α:=List.foldl (fun acc x=>j4 lt x acc) []
def eu {α:Type} (lt : α → α→Bool):List α→List α→List α
 | [],r=>r
 |x::l,[]=>x::l
 |x::l,y::r=>bif lt y x then y::eu lt (x::l) r else x::eu lt l (y::r)
termination_by l r=>l.length+r.length
structure ua {α:Type} (lt : α → α→Bool) (V : α→Prop):Prop where
 al1:∀ x y,V x→V y→lt x y=true→lt y x=false
 trans:∀ x y z,V x→V y→V z→lt y x=false→lt z y=false→lt z x=false
def iz {α:Type} (lt : α → α→Bool) (l:List α):Prop:=l.Pairwise fun x y=>lt y x=false
theorem j6 {α:Type} {lt : α → α→Bool} (r:List α):eu lt [] r=r:=by rw [eu]
theorem jl {α:Type} {lt : α → α→Bool} (l:List α):eu lt l []=l:=by cases l<;>rw [eu]
theorem lr {α:Type} {lt : α → α→Bool} (x y : α) (l r:List α):eu lt (x::l) (y::r)=bif lt y x then y::eu lt (x::l) r else x::eu lt l (y::r):=by rw [eu]
theorem acv {α:Type} {lt : α → α→Bool} {x z : α}:∀ {l:List α},z ∈ j4 lt x l↔z=x∨z ∈ l
 | []=>by simp [j4]
 |y::l=>by
  rw [j4]
  cases lt x y with
  |true=>simp
  |false=>simp only [cond_false,List.mem_cons,acv (l:=l)];constructor<;>(rintro (h|h|h)<;>simp [h])
theorem Xp {α:Type} {lt : α → α→Bool} {x : α}:∀ {l:List α},(j4 lt x l).Perm (x::l)
 | []=>.refl _
 |y::l=>by
  rw [j4]
  cases lt x y with
  |true=>exact .refl _
  |false=>exact (List.Perm.cons y (Xp (l:=l))).trans (List.Perm.swap x y l)
theorem Yj {α:Type} {lt : α → α→Bool}:dg lt []=[]:=rfl
theorem sk {α:Type} {lt : α → α→Bool} (l:List α) (x : α):dg lt (l++[x])=j4 lt x (dg lt l):=by simp [dg,List.foldl_append]
theorem Sb {α:Type} {p:List α→Prop} (l:List α) (h0:p []) (h1:∀ l x,p l→p (l++[x])):p l:=by
 have key:∀ r:List α,p r.reverse:=fun r=>by
  induction r with
  |nil=>exact h0
  |cons a r ih=>rw [List.reverse_cons];exact h1 _ _ ih
 rw [← List.reverse_reverse l];exact key _
theorem Ej {α:Type} {lt : α → α→Bool} (l:List α):(dg lt l).Perm l:=by
 refine Sb (p:=fun l=>(dg lt l).Perm l) l (.refl _) fun l x ih=>?_
 rw [sk]
 exact Xp.trans ((List.Perm.cons x ih).trans (List.perm_append_singleton x l).symm)
theorem ju {α:Type} {lt : α → α→Bool} {l:List α} {z : α}:z ∈ dg lt l↔z ∈ l:=(Ej l).mem_iff
theorem ed {α:Type} {lt : α → α→Bool} (l:List α):(dg lt l).length=l.length:=(Ej l).length_eq
theorem Hh {α:Type} {lt : α → α→Bool}:∀ (l r:List α),(eu lt l r).Perm (l++r)
 | [],r=>by rw [j6];exact .refl _
 |x::l,[]=>by rw [jl,List.append_nil]
 |x::l,y::r=>by
  rw [lr]
  cases lt y x with
  |true=>exact (List.Perm.cons y (Hh (x::l) r)).trans (List.perm_middle (l₁:=x::l)).symm
  |false=>exact List.Perm.cons x (Hh l (y::r))
termination_by l r=>l.length+r.length
theorem Vp {α:Type} {lt : α → α→Bool} (l r:List α):(eu lt l r).length=l.length+r.length:=by rw [(Hh l r).length_eq,List.length_append]
theorem ua.le_of_lt {α:Type} {lt : α → α→Bool} {V : α→Prop} (O:ua lt V) {x y z : α} (hx:V x) (hy:V y) (hz:V z) (h:lt x y=true) (k:lt z y=false):lt z x=false:=O.trans x y z hx hy hz (O.al1 x y hx hy h) k
theorem Tm {α:Type} {lt : α → α→Bool} {V : α→Prop} (O:ua lt V) {x : α} (hx:V x):∀ {l:List α},(∀ y ∈ l,V y)→iz lt l→iz lt (j4 lt x l)
 | [],_,_=>by simp [j4,iz]
 |y::l,hV,h=>by
  have h1:=List.pairwise_cons.1 h
  have hy:=hV y List.mem_cons_self
  have hl:∀ z ∈ l,V z:=fun z hz=>hV z (List.mem_cons_of_mem _ hz)
  rw [j4]
  cases e:lt x y with
  |true=>
   rw [cond_true]
   refine List.pairwise_cons.2 ⟨fun z hz=>?_,h⟩
   rcases List.mem_cons.1 hz with rfl|hz
   ·exact O.al1 _ _ hx hy e
   ·exact O.le_of_lt hx hy (hl z hz) e (h1.1 z hz)
  |false=>
   rw [cond_false]
   refine List.pairwise_cons.2 ⟨fun z hz=>?_,Tm O hx hl h1.2⟩
   rcases acv.1 hz with rfl|hz
   ·exact e
   ·exact h1.1 z hz
theorem lq {α:Type} {lt : α → α→Bool} {V : α→Prop} (O:ua lt V) (l:List α) (hV:∀ y ∈ l,V y):iz lt (dg lt l):=by
 revert hV
 refine Sb (p:=fun l=>(∀ y ∈ l,V y)→iz lt (dg lt l)) l (fun _=>List.Pairwise.nil) fun l x ih hV=>?_
 rw [sk]
 exact Tm O (hV x (by simp)) (fun y hy=>hV y (by simp [ju.1 hy])) (ih fun y hy=>hV y (by simp [hy]))
theorem Ge {α:Type} {lt : α → α→Bool} {V : α→Prop} (O:ua lt V) {x : α} (hx:V x):∀ (a b:List α),(∀ y ∈ a,V y)→(∀ y ∈ b,V y)→eu lt a (j4 lt x b)=j4 lt x (eu lt a b)
 | [],b,_,_=>by rw [j6,j6]
 |a::s,[],ha,hb=>by
  have ih:=Ge O hx s [] (fun y hy=>ha y (List.mem_cons_of_mem _ hy)) hb
  rw [jl] at ih ⊢
  rw [j4,lr,j4]
  cases lt x a with
  |true=>rw [cond_true,cond_true,jl]
  |false=>rw [cond_false,cond_false];rw [j4] at ih;rw [ih]
 |a::s,b::r,ha,hb=>by
  have va:=ha a List.mem_cons_self
  have vb:=hb b List.mem_cons_self
  have ih1:=Ge O hx s (b::r) (fun y hy=>ha y (List.mem_cons_of_mem _ hy)) hb
  have ih2:=Ge O hx (a::s) r ha (fun y hy=>hb y (List.mem_cons_of_mem _ hy))
  rw [lr]
  rw [j4] at ih1 ⊢
  cases e1:lt x b with
  |true=>
   rw [e1,cond_true] at ih1
   rw [cond_true,lr]
   cases e2:lt b a with
   |true=>
    have e3:lt x a=true:=by
     cases e3:lt x a with
     |true=>rfl
     |false=>
      have:=O.trans a x b va hx vb e3 (O.al1 _ _ hx vb e1)
      rw [e2] at this;cases this
    rw [e3,cond_true,cond_true,j4,e1,cond_true,lr,e2,cond_true]
   |false=>
    rw [cond_false,j4]
    cases e3:lt x a with
    |true=>rw [cond_true,cond_true,lr,e2,cond_false]
    |false=>rw [cond_false,cond_false,ih1]
  |false=>
   rw [e1,cond_false] at ih1
   rw [cond_false,lr]
   cases e2:lt b a with
   |true=>rw [cond_true,cond_true,j4,e1,cond_false,ih2]
   |false=>
    have e3:=O.trans a b x va vb hx e2 e1
    rw [cond_false,cond_false,j4,e3,cond_false,ih1]
termination_by a b=>a.length+b.length
theorem Ec {α:Type} {lt : α → α→Bool} {V : α→Prop} (O:ua lt V) (a b:List α) (ha:∀ y ∈ a,V y) (hb:∀ y ∈ b,V y):eu lt (dg lt a) (dg lt b)=dg lt (a++b):=by
 revert hb
 refine Sb (p:=fun b=>(∀ y ∈ b,V y)→eu lt (dg lt a) (dg lt b)=dg lt (a++b)) b (fun _=>by rw [Yj,jl,List.append_nil]) fun b x ih hb=>?_
 rw [sk,← List.append_assoc,sk,Ge O (hb x (by simp)) _ _ (fun y hy=>ha y (ju.1 hy)) (fun y hy=>hb y (by simp [ju.1 hy])),ih fun y hy=>hb y (by simp [hy])]
theorem Fb {α:Type} {lt : α → α→Bool} {x : α}:∀ (A B:List α),(∀ y ∈ A,lt x y=false)→(∀ y ∈ B.head?,lt x y=true)→j4 lt x (A++B)=A++x::B
 | [],[],_,_=>rfl
 | [],b::B,_,h=>by rw [List.nil_append,j4,h b rfl];rfl
 |a::A,B,h,h2=>by rw [List.cons_append,j4,h a List.mem_cons_self,cond_false,Fb A B (fun y hy=>h y (List.mem_cons_of_mem _ hy)) h2];rfl
theorem ot {α:Type} {lt : α → α→Bool}:∀ (A B C D:List α),(∀ x ∈ A,∀ y ∈ D,lt y x=false)→(∀ x ∈ B,∀ y ∈ C,lt y x=true)→eu lt (A++B) (C++D)=eu lt A C++eu lt B D
 | [],B,[],D,_,_=>by rw [j6];rfl
 | [],[],c::C,D,_,_=>by rw [List.append_nil,j6,j6,j6]
 | [],b::B,c::C,D,h1,h2=>by
  have ih:=ot [] (b::B) C D (by simp) (fun x hx y hy=>h2 x hx y (List.mem_cons_of_mem _ hy))
  rw [List.nil_append,List.cons_append,lr,h2 b List.mem_cons_self c List.mem_cons_self,cond_true,j6]
  rw [List.nil_append,j6] at ih
  rw [ih];rfl
 |a::A,B,[],[],_,_=>by rw [List.append_nil,jl,jl,jl]
 |a::A,B,[],d::D,h1,h2=>by
  have ih:=ot A B [] (d::D) (fun x hx=>h1 x (List.mem_cons_of_mem _ hx)) (by simp)
  rw [List.nil_append,jl] at ih ⊢
  rw [List.cons_append,lr,h1 a List.mem_cons_self d List.mem_cons_self,cond_false,ih];rfl
 |a::A,B,c::C,D,h1,h2=>by
  have ih1:=ot A B (c::C) D (fun x hx=>h1 x (List.mem_cons_of_mem _ hx)) h2
  have ih2:=ot (a::A) B C D h1 (fun x hx y hy=>h2 x hx y (List.mem_cons_of_mem _ hy))
  rw [List.cons_append,List.cons_append,lr,lr]
  cases lt c a with
  |true=>rw [cond_true,cond_true];rw [List.cons_append] at ih2;rw [ih2];rfl
  |false=>rw [cond_false,cond_false];rw [List.cons_append] at ih1;rw [ih1];rfl
termination_by A _ C _=>A.length+C.length
theorem Nu {α:Type} {lt : α → α→Bool} {V : α→Prop} (O:ua lt V) {A:List α} {x y : α} {D:List α} (hA:∀ z ∈ A++[x],V z) (hD:∀ z ∈ y::D,V z) (h1:iz lt (A++[x])) (h2:iz lt (y::D)) (h:lt y x=false):∀ a ∈ A++[x],∀ d ∈ y::D,lt d a=false:=by
 have k1:=List.pairwise_append.1 h1
 have k2:=List.pairwise_cons.1 h2
 intro a ha d hd
 have vx:=hA x (by simp)
 have vy:=hD y (by simp)
 have e1:lt y a=false:=by
  rcases List.mem_append.1 ha with q|q
  ·exact O.trans a x y (hA a ha) vx vy (k1.2.2 a q x (by simp)) h
  ·simp at q;subst q;exact h
 rcases List.mem_cons.1 hd with rfl|q
 ·exact e1
 ·exact O.trans a y d (hA a ha) vy (hD d hd) e1 (k2.1 d q)
theorem Kc {α:Type} {lt : α → α→Bool} {V : α→Prop} (O:ua lt V) {B:List α} {x y : α} {C:List α} (hB:∀ z ∈ x::B,V z) (hC:∀ z ∈ C++[y],V z) (h1:iz lt (x::B)) (h2:iz lt (C++[y])) (h:lt y x=true):∀ b ∈ x::B,∀ c ∈ C++[y],lt c b=true:=by
 have k1:=List.pairwise_cons.1 h1
 have k2:=List.pairwise_append.1 h2
 intro b hb c hc
 have vx:=hB x (by simp)
 have vy:=hC y (by simp)
 cases e:lt c b with
 |true=>rfl
 |false=>
  have e1:lt y b=false:=by
   rcases List.mem_append.1 hc with q|q
   ·exact O.trans b c y (hB b hb) (hC c hc) vy e (k2.2.2 c q y (by simp))
   ·simp at q;subst q;exact e
  have e2:lt y x=false:=by
   rcases List.mem_cons.1 hb with rfl|q
   ·exact e1
   ·exact O.trans x b y vx (hB b hb) vy (k1.1 b q) e1
  rw [h] at e2;cases e2
def jb {α:Type} (lt : α → α→Bool) (k:Nat) (l:List α):List α:=
 if h:l.length≤k∨k=0 then dg lt l else dg lt (l.take k)++jb lt k (l.drop k)
termination_by l.length
decreasing_by simp at *;omega
theorem pg {α:Type} {lt : α → α→Bool} {k:Nat} {l:List α} (h:l.length≤k):jb lt k l=dg lt l:=by rw [jb,dif_pos (.inl h)]
theorem A2 {α:Type} {lt : α → α→Bool} {k:Nat} {l:List α} (hk : 0<k) (h:k≤l.length):jb lt k l=dg lt (l.take k)++jb lt k (l.drop k):=by
 by_cases e:l.length≤k
 ·have h1:l.take k=l:=List.take_of_length_le e
  have h2:l.drop k=[]:=List.drop_eq_nil_of_le e
  rw [h1,h2,pg e,pg (Nat.zero_le _),Yj,List.append_nil]
 ·rw [jb,dif_neg (by omega)]
theorem ajz {α:Type} {lt : α → α→Bool} {k:Nat} {l:List α} (hk : 0<k) (h:k+k≤l.length):jb lt k l=dg lt (l.take k)++(dg lt ((l.drop k).take k)++jb lt k (l.drop (k+k))):=by
 rw [A2 hk (by omega),A2 (l:=l.drop k) hk (by rw [List.length_drop];omega),List.drop_drop]
theorem ae7 {α:Type} {lt : α → α→Bool} {k:Nat} {l:List α} (hk : 0<k) (h:k<l.length) (h2:l.length≤k+k):jb lt k l=dg lt (l.take k)++dg lt (l.drop k):=by
 rw [A2 hk (by omega),pg (l:=l.drop k) (by rw [List.length_drop];omega)]
theorem acu {α:Type} {k:Nat} (l:List α):l.take k++(l.drop k).take k=l.take (k+k):=by rw [List.take_add]
theorem aCr {α:Type} {lt : α → α→Bool} {k:Nat} {z : α} (hk : 0<k) (n:Nat):∀ l:List α,l.length≤n→(z ∈ jb lt k l↔z ∈ l):=by
 induction n with
 |zero=>intro l h;rw [pg (by omega),ju]
 |succ n ih=>
  intro l h
  by_cases e:l.length≤k
  ·rw [pg e,ju]
  ·rw [A2 hk (by omega),List.mem_append,ju,ih _ (by rw [List.length_drop];omega),← List.mem_append,List.take_append_drop]
theorem aka {α:Type} {lt : α → α→Bool} {k:Nat} (hk : 0<k) (n:Nat):∀ l:List α,l.length≤n→(jb lt k l).length=l.length:=by
 induction n with
 |zero=>intro l h;rw [pg (by omega),ed]
 |succ n ih=>
  intro l h
  by_cases e:l.length≤k
  ·rw [pg e,ed]
  ·rw [A2 hk (by omega),List.length_append,ed,ih _ (by rw [List.length_drop];omega),← List.length_append,List.take_append_drop]
theorem ano {α:Type} {lt : α → α→Bool} {V : α→Prop} (O:ua lt V) {A:List α} {x y : α} (hA:∀ z ∈ A++[x],V z) (hy:V y) (h:iz lt (A++[x])) (e:lt y x=false):∀ a ∈ A++[x],lt y a=false:=
 fun a ha=>Nu O (D:=[]) hA (by simpa using hy) h (by simp [iz]) e a ha y (by simp)
theorem iu {α:Type} {l:List α} {i:Nat} {c : α} (h:l[i]? = some c):l.take (i+1)=l.take i++[c]:=by rw [List.take_add_one,h];rfl
theorem mo {α:Type} {l:List α} {i:Nat} {c : α} (h:l[i]? = some c):l.drop i=c::l.drop (i+1):=by
 obtain ⟨_,rfl⟩:=List.getElem?_eq_some_iff.1 h;exact List.drop_eq_getElem_cons _
theorem iz.take {α:Type} {lt : α → α→Bool} {l:List α} (h:iz lt l) (i:Nat):iz lt (l.take i):=List.Pairwise.sublist (List.take_sublist i l) h
theorem iz.drop {α:Type} {lt : α → α→Bool} {l:List α} (h:iz lt l) (i:Nat):iz lt (l.drop i):=List.Pairwise.sublist (List.drop_sublist i l) h
theorem G4 {α:Type} {lt : α → α→Bool} {V : α→Prop} (O:ua lt V) {l:List α} (hl:∀ z ∈ l,V z) (h:iz lt l) {y : α} (hy:V y) {i:Nat} (hi:i≤l.length) (e:∀ c,0<i→l[i - 1]? = some c→lt y c=false):∀ a ∈ l.take i,lt y a=false:=by
 cases i with
 |zero=>intro a ha;simp at ha
 |succ i=>
  have hc:l[i]? = some l[i]:=List.getElem?_eq_getElem (by omega)
  have h1:=iu hc
  intro a ha
  rw [h1] at ha
  exact ano O (fun z hz=>hl z (List.mem_of_mem_take (i:=i+1) (by rw [h1];exact hz))) hy (by rw [← h1];exact h.take _) (e _ (by omega) hc) a ha
theorem Y7 {α:Type} {lt : α → α→Bool} {V : α→Prop} (O:ua lt V) {l:List α} (hl:∀ z ∈ l,V z) (h:iz lt l) {y : α} (hy:V y) {i:Nat} (e:∀ c,l[i]? = some c→lt y c=true):∀ a ∈ l.drop i,lt y a=true:=by
 intro a ha
 by_cases hi:i<l.length
 ·have hc:l[i]? = some l[i]:=List.getElem?_eq_getElem hi
  have h1:=mo hc
  rw [h1] at ha
  exact Kc O (C:=[]) (y:=y) (x:=l[i]) (B:=l.drop (i+1)) (fun z hz=>hl z (List.mem_of_mem_drop (i:=i) (by rw [h1];exact hz))) (by simpa using hy) (by rw [← h1];exact h.drop _) (by simp [iz]) (e _ hc) a ha y (by simp)
 ·rw [List.drop_eq_nil_of_le (by omega)] at ha;cases ha
theorem Xu {α:Type} {lt : α → α→Bool} {V : α→Prop} (O:ua lt V) {l:List α} (hl:∀ z ∈ l,V z) (h:iz lt l) {x : α} (hx:V x) {i:Nat} (hi:i≤l.length) (e:∀ c,0<i→l[i - 1]? = some c→lt c x=true):∀ a ∈ l.take i,lt a x=true:=by
 cases i with
 |zero=>intro a ha;simp at ha
 |succ i=>
  have hc:l[i]? = some l[i]:=List.getElem?_eq_getElem (by omega)
  have h1:=iu hc
  intro a ha
  rw [h1] at ha
  exact Kc O (B:=[]) (x:=x) (C:=l.take i) (y:=l[i]) (by simpa using hx) (fun z hz=>hl z (List.mem_of_mem_take (i:=i+1) (by rw [h1];exact hz))) (by simp [iz]) (by rw [← h1];exact h.take _) (e _ (by omega) hc) x (by simp) a ha
theorem Zf {α:Type} {lt : α → α→Bool} {x : α} {l:List α} {i:Nat} (h1:∀ a ∈ l.take i,lt a x=true) (h2:∀ c,l[i]? = some c→lt c x=false):eu lt [x] l=l.take i++x::l.drop i:=by
 have:=ot (lt:=lt) [] [x] (l.take i) (l.drop i) (by simp) (fun z hz y hy=>by simp at hz;subst hz;exact h1 y hy)
 rw [List.take_append_drop,List.nil_append,j6] at this
 rw [this]
 congr 1
 cases hd:l.drop i with
 |nil=>rw [jl]
 |cons c r=>
  have hc:l[i]? = some c:=by rw [← List.head?_drop,hd];rfl
  rw [lr,h2 c hc,cond_false,j6]
theorem Sx {α:Type} {lt : α → α→Bool} {y : α} {l:List α} {i:Nat} (h1:∀ a ∈ l.take i,lt y a=false) (h2:∀ a ∈ l.drop i,lt y a=true):eu lt l [y]=l.take i++y::l.drop i:=by
 have:=ot (lt:=lt) (l.take i) (l.drop i) [y] [] (by simp) (fun z hz u hu=>by simp at hu;subst hu;exact h2 z hz)
 rw [List.take_append_drop,List.append_nil,jl] at this
 rw [this]
 have h3:=ot (lt:=lt) (l.take i) [] [] [y] (fun z hz u hu=>by simp at hu;subst hu;exact h1 z hz) (by simp)
 rw [List.append_nil,List.nil_append,jl,j6] at h3
 rw [h3,List.append_assoc];rfl
end Go.Vm
section
namespace Go.Proofs.YtgencolcibpcaaaGreat
open Go.Vm
set_option maxRecDepth 2000000
theorem ag3 (s:ByteArray):wl PP [] 0 (Tryz.f124.body.getD .skip) (da PP Tryz.f124.results.toList (fun r st=>(r1 (bh .i64)).get true st.h r=some (i6 s))) (cj 0 [aj.val false s]) (bj []):=by
 unfold Tryz.f124
 simp only [↓wR,RA,simprocAttr,TF,ae]
 unfold i6
 rw [aw];refine ⟨fun h=>?_,fun h=>?_⟩
 ·rw [if_pos (.inl (by omega))]
  simp only [↓wR,RA,simprocAttr,TF,ae,h]
 ·simp only [↓wR,RA,simprocAttr,TF,ae,h]
  rw [aw];refine ⟨fun h2=>?_,fun h2=>?_⟩
  ·rw [if_pos (.inr (by omega))]
   simp only [↓wR,RA,simprocAttr,TF,ae,h2]
  ·rw [if_neg (by omega)]
   simp only [↓wR,RA,simprocAttr,TF,ae,h2]
noncomputable def Ef (x:ByteArray × Unit):Option AV:=some ((r1 (bh .i64)).E true (i6 x.1))
set_option maxRecDepth 2000000 in
theorem Wp (x:ByteArray × Unit) (r:AV) (h:Ef x=some r):bk PP 124 ((aC aj a0).E x) r:=by
 cases h
 exact ay (ar.nil PP) Tryz.func124 (by kernel_rfl) (by kernel_rfl) (by kernel_rfl) (Nat.le_of_ble_eq_true (by kernel_rfl)) (r1 (bh .i64)) true (i6 x.1) (ag3 x.1)
noncomputable abbrev ar5:Nat × Bool × (List AV→M AV):=(124,true,c8 (aC aj a0) Ef)
theorem aAj {c:UInt8} (h1:(65:Int)≤c.toNat) (h2:(c.toNat:Int)≤90):IntKind.u8.wrap ((c.toNat:Int)+32)=((low c).toNat:Int):=by
 have a1 : 65≤c:=by rw [UInt8.le_iff_toNat_le];simp;omega
 have a2:c≤90:=by rw [UInt8.le_iff_toNat_le];simp;omega
 have hlow:low c=c+32:=by simp [low,a1,a2]
 rw [hlow]
 simp [IntKind.wrap,IntKind.bits,IntKind.signed,UInt8.toNat_add]
theorem aqf {c:UInt8} (h:¬ ((65:Int)≤c.toNat∧(c.toNat:Int)≤90)):low c=c:=by
 have:¬ (65≤c∧c≤90):=fun q=>h ⟨by have:=UInt8.le_iff_toNat_le.1 q.1;simp at this;omega,by have:=UInt8.le_iff_toNat_le.1 q.2;simp at this;omega⟩
 simp [low,this]
theorem ah1 (s:ByteArray) (hs:s.size≤16777216):wl PP [] 0 (Tryz.f181.body.getD .skip) (da PP Tryz.f181.results.toList (fun r st=>(r1 aj).get true st.h r=some (fold s))) (cj 0 [aj.val false s]) (bj []):=by
 have hl:s.data.toList.length=s.size:=by simp
 obtain ⟨F,hF⟩:∃ F,F=s.data.toList.map low:=⟨_,rfl⟩
 have hFl:F.length=s.size:=by rw [hF,List.length_map,hl]
 have hfold:fold s=⟨F.toArray⟩:=by unfold fold;rw [hF]
 rw [hfold]
 unfold Tryz.f181
 simp only [↓wR,RA,simprocAttr,TF,ae]
 refine fj [0,4,3] (fun (i:Nat)=>[.sc (.string s),.sc (.int .i64 (i)),.sl 0 0 i 1]) (fun i=>[some (.row ((F.take i).map (bu.val false)) 0 0 5)]) (fun i=>i≤s.size) (fun i=>s.size - i) 0 (Nat.zero_le _) (by simp only [↓wR,RA,simprocAttr,TF,ae];(refine ji.lax [] (by first|exact Nat.le_of_ble_eq_true rfl|(simp [dk];omega)) ?_ ?_<;>repeat' first|exact ef.nil|exact b9.nil|exact fe.same _|exact fe.nil _ _ _|exact fe.lu _ _|exact b9.refl _ _|apply ef.cons|apply b9.ghost|apply b9.same|apply b9.row)) ?_
 intro i hi
 simp only [↓wR,RA,simprocAttr,TF,ae]
 rw [aw];refine ⟨fun h=>?_,fun h=>?_⟩
 ·have hlt:i<s.size:=by omega
  obtain ⟨c,hc⟩:∃ c,s.data.toList[i]? = some c:=⟨_,List.getElem?_eq_getElem (by omega)⟩
  have hfc:F[i]? = some (low c):=by rw [hF,List.getElem?_map,hc];rfl
  have hnx:=iu hfc
  have hll:(F.take i).length=i:=by rw [List.length_take];omega
  have hlim:i+1≤140737488355328:=by omega
  simp only [↓wR,RA,simprocAttr,TF,ae,h,hc];repeat (simp (disch:=omega) only [ag,bf,bg,be,bb];try simp only [↓wR,RA,simprocAttr,TF,ae,h,hc])
  by_cases h1:(65:Int)≤c.toNat
  ·by_cases h2:(c.toNat:Int)≤90
   ·have d1:decide ((c.toNat:Int) ≥ 65)=true:=decide_eq_true h1
    have d2:decide ((c.toNat:Int)≤90)=true:=decide_eq_true h2
    have hw:=aAj h1 h2
    simp only [↓wR,RA,simprocAttr,TF,ae,d1,d2,hw,hll,hlim];repeat (simp (disch:=omega) only [ag,bf,bg,be,bb];try simp only [↓wR,RA,simprocAttr,TF,ae,d1,d2,hw,hll,hlim])
    refine ⟨i+1,hlt,by omega,by (first|rfl|trivial|omega|((try (simp (disch:=omega) only [ag]));(try (simp only [FB]));first|done|rfl|omega)),?_⟩
    rw [hnx,List.map_append];rfl
   ·have d1:decide ((c.toNat:Int) ≥ 65)=true:=decide_eq_true h1
    have d2:decide ((c.toNat:Int)≤90)=false:=decide_eq_false h2
    have hw:low c=c:=aqf (fun q=>h2 q.2)
    simp only [↓wR,RA,simprocAttr,TF,ae,d1,d2,hll,hlim];repeat (simp (disch:=omega) only [ag,bf,bg,be,bb];try simp only [↓wR,RA,simprocAttr,TF,ae,d1,d2,hll,hlim])
    refine ⟨i+1,hlt,by omega,by (first|rfl|trivial|omega|((try (simp (disch:=omega) only [ag]));(try (simp only [FB]));first|done|rfl|omega)),?_⟩
    rw [hnx,List.map_append,hw];rfl
  ·have d1:decide ((c.toNat:Int) ≥ 65)=false:=decide_eq_false h1
   have hw:low c=c:=aqf (fun q=>h1 q.1)
   simp only [↓wR,RA,simprocAttr,TF,ae,d1,hll,hlim];repeat (simp (disch:=omega) only [ag,bf,bg,be,bb];try simp only [↓wR,RA,simprocAttr,TF,ae,d1,hll,hlim])
   refine ⟨i+1,hlt,by omega,by (first|rfl|trivial|omega|((try (simp (disch:=omega) only [ag]));(try (simp only [FB]));first|done|rfl|omega)),?_⟩
   rw [hnx,List.map_append,hw];rfl
 ·have hin:F.take i=F:=List.take_of_length_le (by omega)
  have hii:i=F.length:=by omega
  rw [hin,hii]
  simp only [↓wR,RA,simprocAttr,TF,ae,h]
noncomputable def v8 (x:ByteArray × Unit):Option AV:=if x.1.size≤16777216 then some ((r1 aj).E true (fold x.1)) else none
set_option maxRecDepth 2000000 in
theorem Kx (x:ByteArray × Unit) (r:AV) (h:v8 x=some r):bk PP 181 ((aC aj a0).E x) r:=by
 by_cases hc:x.1.size≤16777216
 case neg=>simp only [v8,if_neg hc] at h;cases h
 simp only [v8,if_pos hc] at h
 cases h
 exact ay (ar.nil PP) Tryz.func181 (by kernel_rfl) (by kernel_rfl) (by kernel_rfl) (Nat.le_of_ble_eq_true (by kernel_rfl)) (r1 aj) true (fold x.1) (ah1 x.1 hc)
noncomputable abbrev agz:Nat × Bool × (List AV→M AV):=(181,true,c8 (aC aj a0) v8)
theorem ajq {A B:List UInt8} {i:Nat} (h:i=A.length∨i=B.length) (ha:i≤A.length) (hb:i≤B.length):Lib.compareBytes (A.drop i) (B.drop i)=if A.length<B.length then -1 else if A.length > B.length then 1 else 0:=by
 rcases Nat.lt_trichotomy A.length B.length with q|q|q
 ·have h1:A.drop i=[]:=List.drop_eq_nil_of_le (by omega)
  rw [h1,if_pos q]
  cases h2:B.drop i with
  |nil=>have:=List.drop_eq_nil_iff.1 h2;omega
  |cons y r=>rfl
 ·have h1:A.drop i=[]:=List.drop_eq_nil_of_le (by omega)
  have h2:B.drop i=[]:=List.drop_eq_nil_of_le (by omega)
  rw [h1,h2,if_neg (by omega),if_neg (by omega)];rfl
 ·have h1:B.drop i=[]:=List.drop_eq_nil_of_le (by omega)
  rw [h1,if_neg (by omega),if_pos q]
  cases h2:A.drop i with
  |nil=>have:=List.drop_eq_nil_iff.1 h2;omega
  |cons y r=>rfl
theorem Wz (a b:ByteArray) (ha:a.size≤16777216) (hb:b.size≤16777216):wl PP [agz] 0 (Tryz.f156.body.getD .skip) (da PP Tryz.f156.results.toList (fun r st=>(r1 (bh .i64)).get true st.h r=some (vi (fold a) (fold b)))) (cj 0 [aj.val false a,aj.val false b]) (bj []):=by
 have hq:∀ a b c d,dz a b c=d→dz a b c=d:=fun _ _ _ _ h=>h
 obtain ⟨A,hA⟩:∃ A,A=fold a:=⟨_,rfl⟩
 obtain ⟨B,hB⟩:∃ B,B=fold b:=⟨_,rfl⟩
 have hla:A.data.toList.length=A.size:=by simp
 have hlb:B.data.toList.length=B.size:=by simp
 have sa:A.size≤16777216:=by rw [hA,Gi];exact ha
 have sb:B.size≤16777216:=by rw [hB,Gi];exact hb
 rw [← hA,← hB]
 unfold vi
 unfold Tryz.f156
 simp only [↓wR,RA,simprocAttr,TF,ae,v8,ha,hb,← hA,← hB]
 refine c7 [5,6,7] (fun (i:Nat)=>[.sc (.string A),.sc (.string B),.sc (.int .i64 (i))]) (fun _=>[]) (fun i=>i≤A.size∧i≤B.size∧Lib.compareBytes A.data.toList B.data.toList=Lib.compareBytes (A.data.toList.drop i) (B.data.toList.drop i)) (fun i=>A.size - i) 0 ⟨Nat.zero_le _,Nat.zero_le _,rfl⟩ (by simp only [↓wR,RA,simprocAttr,TF,ae]<;>rfl) (by simp only [↓wR,RA,simprocAttr,TF,ae]<;>rfl) ?_
 rintro i ⟨hi,hj,hv⟩
 simp only [↓wR,RA,simprocAttr,TF,ae]
 rw [aw];refine ⟨fun h1=>?_,fun h1=>?_⟩
 ·simp only [↓wR,RA,simprocAttr,TF,ae,h1]
  rw [aw];refine ⟨fun h2=>?_,fun h2=>?_⟩
  ·obtain ⟨x,hx⟩:∃ x,A.data.toList[i]? = some x:=⟨_,List.getElem?_eq_getElem (by omega)⟩
   obtain ⟨y,hy⟩:∃ y,B.data.toList[i]? = some y:=⟨_,List.getElem?_eq_getElem (by omega)⟩
   have hcx:A.data.toList.drop i=x::A.data.toList.drop (i+1):=by
    obtain ⟨k,rfl⟩:=List.getElem?_eq_some_iff.1 hx;exact List.drop_eq_getElem_cons k
   have hcy:B.data.toList.drop i=y::B.data.toList.drop (i+1):=by
    obtain ⟨k,rfl⟩:=List.getElem?_eq_some_iff.1 hy;exact List.drop_eq_getElem_cons k
   rw [hcx,hcy,Lib.compareBytes] at hv
   simp only [UInt8.lt_iff_toNat_lt] at hv
   simp only [↓wR,RA,simprocAttr,TF,ae,h2]
   refine ⟨by kernel_rfl,.inl ?_⟩
   simp only [↓wR,RA,simprocAttr,TF,ae,hx,hy]
   refine ⟨by apply hq;kernel_rfl,?_⟩
   rw [aw];refine ⟨fun h3=>?_,fun h3=>?_⟩
   ·rw [if_pos (by omega)] at hv
    simp only [↓wR,RA,simprocAttr,TF,ae,h3,hv]
   ·rw [if_neg (by omega)] at hv
    simp only [↓wR,RA,simprocAttr,TF,ae,h3]
    refine ⟨by kernel_rfl,.inl ?_⟩
    simp only [↓wR,RA,simprocAttr,TF,ae,hx,hy]
    refine ⟨by apply hq;kernel_rfl,?_⟩
    rw [aw];refine ⟨fun h4=>?_,fun h4=>?_⟩
    ·rw [if_pos (by omega)] at hv
     simp only [↓wR,RA,simprocAttr,TF,ae,h4,hv]
    ·rw [if_neg (by omega)] at hv
     simp only [↓wR,RA,simprocAttr,TF,ae,h4];repeat (simp (disch:=omega) only [ag,bf,bg,be,bb];try simp only [↓wR,RA,simprocAttr,TF,ae,h4])
     exact ⟨i+1,⟨by omega,by omega,hv⟩,by omega,by (first|rfl|trivial|omega|((try (simp (disch:=omega) only [ag]));(try (simp only [FB]));first|done|rfl|omega))⟩
  ·have he:=ajq (A:=A.data.toList) (B:=B.data.toList) (i:=i) (by omega) (by omega) (by omega)
   rw [hv,he,hla,hlb]
   simp only [↓wR,RA,simprocAttr,TF,ae,h2]
   rw [aw];refine ⟨fun h5=>?_,fun h5=>?_⟩
   ·rw [if_pos (by omega)];simp only [↓wR,RA,simprocAttr,TF,ae,h5]
   ·rw [if_neg (by omega)]
    simp only [↓wR,RA,simprocAttr,TF,ae,h5]
    rw [aw];refine ⟨fun h6=>?_,fun h6=>?_⟩
    ·rw [if_pos (by omega)];simp only [↓wR,RA,simprocAttr,TF,ae,h6]
    ·rw [if_neg (by omega)];simp only [↓wR,RA,simprocAttr,TF,ae,h6]
 ·have he:=ajq (A:=A.data.toList) (B:=B.data.toList) (i:=i) (by omega) (by omega) (by omega)
  rw [hv,he,hla,hlb]
  simp only [↓wR,RA,simprocAttr,TF,ae,h1]
  rw [aw];refine ⟨fun h5=>?_,fun h5=>?_⟩
  ·rw [if_pos (by omega)];simp only [↓wR,RA,simprocAttr,TF,ae,h5]
  ·rw [if_neg (by omega)]
   simp only [↓wR,RA,simprocAttr,TF,ae,h5]
   rw [aw];refine ⟨fun h6=>?_,fun h6=>?_⟩
   ·rw [if_pos (by omega)];simp only [↓wR,RA,simprocAttr,TF,ae,h6]
   ·rw [if_neg (by omega)];simp only [↓wR,RA,simprocAttr,TF,ae,h6]
noncomputable def qz (x:ByteArray × ByteArray × Unit):Option AV:=if x.1.size≤16777216∧x.2.1.size≤16777216 then some ((r1 (bh .i64)).E true (vi (fold x.1) (fold x.2.1))) else none
set_option maxRecDepth 2000000 in
theorem F6 (x:ByteArray × ByteArray × Unit) (r:AV) (h:qz x=some r):bk PP 156 ((aC aj (aC aj a0)).E x) r:=by
 by_cases hc:x.1.size≤16777216∧x.2.1.size≤16777216
 case neg=>simp only [qz,if_neg hc] at h;cases h
 simp only [qz,if_pos hc] at h
 cases h
 exact ay (ar.cons (ak Kx) (ar.nil PP)) Tryz.func156 (by kernel_rfl) (by kernel_rfl) (by kernel_rfl) (Nat.le_of_ble_eq_true (by kernel_rfl)) (r1 (bh .i64)) true (vi (fold x.1) (fold x.2.1)) (Wz x.1 x.2.1 hc.1 hc.2)
noncomputable abbrev Qp:Nat × Bool × (List AV→M AV):=(156,true,c8 (aC aj (aC aj a0)) qz)
theorem atz (n:Name) (hn:ca n<17592186044416):wl PP [] 0 (Tryz.f125.body.getD .skip) (da PP Tryz.f125.results.toList (fun r st=>(r1 (bh .i64)).get true st.h r=some (ca n:Int))) (cj 0 [au.val false n]) (bj []):=by
 unfold Tryz.f125
 simp only [cr]
 simp only [↓wR,RA,simprocAttr,TF,ae]
 refine c7 [0,3,4] (fun (i:Nat)=>[.vl false 1 (n.map (aj.val false)),.sc (.int .i64 (ca (n.take i))),.sc (.int .i64 (i))]) (fun _=>[]) (fun i=>i≤n.length∧ca (n.take i)≤ca n∧i<ca (n.take i)) (fun i=>n.length - i) 0 ⟨Nat.zero_le _,(j8 n 0).1,by simp [ca]⟩ (by simp only [↓wR,RA,simprocAttr,TF,ae]<;>rfl) (by simp only [↓wR,RA,simprocAttr,TF,ae]<;>rfl) ?_
 rintro i ⟨hi,hle,hgt⟩
 simp only [↓wR,RA,simprocAttr,TF,ae]
 rw [aw];refine ⟨fun h=>?_,fun h=>?_⟩
 ·obtain ⟨c,hc,hd1,hlt⟩:=dx (decide_eq_true h)
  have hnx:=Dz n i c hc
  have hle2:=(j8 n (i+1)).1
  simp only [↓wR,RA,simprocAttr,TF,ae,h,hc];repeat (simp (disch:=omega) only [ag,bf,bg,be,bb];try simp only [↓wR,RA,simprocAttr,TF,ae,h,hc])
  refine ⟨i+1,⟨hlt,hle2,by omega⟩,by omega,?_⟩
  rw [hnx];(first|rfl|trivial|omega|((try (simp (disch:=omega) only [ag]));(try (simp only [FB]));first|done|rfl|omega))
 ·have hin:n.take i=n:=List.take_of_length_le (by omega)
  rw [hin]
  simp only [↓wR,RA,simprocAttr,TF,ae,h]
noncomputable def Bb (x:Name × Unit):Option AV:=if ca x.1<17592186044416 then some ((r1 (bh .i64)).E true ((ca x.1:Int))) else none
set_option maxRecDepth 2000000 in
theorem Q3 (x:Name × Unit) (r:AV) (h:Bb x=some r):bk PP 125 ((aC au a0).E x) r:=by
 by_cases hc:ca x.1<17592186044416
 case neg=>simp only [Bb,if_neg hc] at h;cases h
 simp only [Bb,if_pos hc] at h
 cases h
 exact ay (ar.nil PP) Tryz.func125 (by kernel_rfl) (by kernel_rfl) (by kernel_rfl) (Nat.le_of_ble_eq_true (by kernel_rfl)) (r1 (bh .i64)) true ((ca x.1:Int)) (atz x.1 hc)
noncomputable abbrev apv:Nat × Bool × (List AV→M AV):=(125,true,c8 (aC au a0) Bb)
theorem apa (n:Name) (hn:ca n<17592186044416):wl PP [ar5,apv] 0 (Tryz.f85.body.getD .skip) (da PP Tryz.f85.results.toList (fun r st=>(r1 (bh .i64)).get true st.h r=some (du n))) (cj 0 [au.val false n]) (bj []):=by
 have hlen:n.length<ca n:=(j8 n 0).2
 unfold Tryz.f85
 simp only [cr]
 simp only [↓wR,RA,simprocAttr,TF,ae]
 refine c7 [0,3] (fun (i:Nat)=>[.vl false 1 (n.map (aj.val false)),.sc (.int .i64 (i))]) (fun _=>[]) (fun i=>i≤n.length∧rm (n.take i)=false) (fun i=>n.length - i) 0 ⟨Nat.zero_le _,rfl⟩ (by simp only [↓wR,RA,simprocAttr,TF,ae]<;>rfl) (by simp only [↓wR,RA,simprocAttr,TF,ae]<;>rfl) ?_
 rintro i ⟨hi,hb⟩
 simp only [↓wR,RA,simprocAttr,TF,ae]
 rw [aw];refine ⟨fun h=>?_,fun h=>?_⟩
 ·obtain ⟨c,hc,hd1,hlt⟩:=dx (decide_eq_true h)
  simp only [↓wR,RA,simprocAttr,TF,ae,h,hc,Ef];repeat (simp (disch:=omega) only [ag,bf,bg,be,bb];try simp only [↓wR,RA,simprocAttr,TF,ae,h,hc,Ef])
  rw [c9];refine ⟨fun ⟨h2,e2⟩=>?_,fun ⟨h2,e2⟩=>?_⟩
  ·have hbad:=Mr n i c hc e2
   have hne:i6 c=4:=by
    unfold i6 at e2 ⊢
    split at e2
    ·rename_i q;rw [if_pos q]
    ·exact absurd rfl e2
   have hv:du n=4:=by unfold du;rw [if_pos hbad]
   simp only [↓wR,RA,simprocAttr,TF,ae,h2,hv,hne]
  ·simp only [↓wR,RA,simprocAttr,TF,ae,h2];repeat (simp (disch:=omega) only [ag,bf,bg,be,bb];try simp only [↓wR,RA,simprocAttr,TF,ae,h2])
   refine ⟨i+1,⟨hlt,?_⟩,by omega,by (first|rfl|trivial|omega|((try (simp (disch:=omega) only [ag]));(try (simp only [FB]));first|done|rfl|omega))⟩
   rw [N1 n i c hc,hb];simpa using e2
 ·have hin:n.take i=n:=List.take_of_length_le (by omega)
  rw [hin] at hb
  simp only [↓wR,RA,simprocAttr,TF,ae,h,Bb,hn]
  rw [aw];refine ⟨fun h3=>?_,fun h3=>?_⟩
  ·have hv:du n=5:=by unfold du;rw [hb,if_neg (by simp),if_pos (by omega)]
   simp only [↓wR,RA,simprocAttr,TF,ae,h3,hv]
  ·have hv:du n=0:=by unfold du;rw [hb,if_neg (by simp),if_neg (by omega)]
   simp only [↓wR,RA,simprocAttr,TF,ae,h3,hv]
noncomputable def zg (x:Name × Unit):Option AV:=if ca x.1<17592186044416 then some ((r1 (bh .i64)).E true (du x.1)) else none
set_option maxRecDepth 2000000 in
theorem Cu (x:Name × Unit) (r:AV) (h:zg x=some r):bk PP 85 ((aC au a0).E x) r:=by
 by_cases hc:ca x.1<17592186044416
 case neg=>simp only [zg,if_neg hc] at h;cases h
 simp only [zg,if_pos hc] at h
 cases h
 exact ay (ar.cons (ak Wp) (ar.cons (ak Q3) (ar.nil PP))) Tryz.func85 (by kernel_rfl) (by kernel_rfl) (by kernel_rfl) (Nat.le_of_ble_eq_true (by kernel_rfl)) (r1 (bh .i64)) true (du x.1) (apa x.1 hc)
noncomputable abbrev Td:Nat × Bool × (List AV→M AV):=(85,true,c8 (aC au a0) zg)
theorem aby (l:List ByteArray):fh [] l=0:=by cases l<;>rfl
theorem al6 (a b:Name) (ha:bw a) (hb:bw b):wl PP [Qp] 0 (Tryz.f113.body.getD .skip) (da PP Tryz.f113.results.toList (fun r st=>(r1 (bh .i64)).get true st.h r=some (common a b:Int))) (cj 0 [au.val false a,au.val false b]) (bj []):=by
 have hq:∀ a b c d,dz a b c=d→dz a b c=d:=fun _ _ _ _ h=>h
 have la:=ha.lt
 have lb:=hb.lt
 unfold Tryz.f113
 simp only [cr]
 simp only [↓wR,RA,simprocAttr,TF,ae]
 refine c7 [0,1,5] (fun (x:Nat)=>[.vl false 1 (a.map (aj.val false)),.vl false 1 (b.map (aj.val false)),.sc (.int .i64 (x))]) (fun _=>[]) (fun x=>x≤a.length∧x≤b.length∧common a b=x+fh (a.reverse.drop x) (b.reverse.drop x)) (fun x=>a.length - x) 0 ⟨Nat.zero_le _,Nat.zero_le _,by simp [common]⟩ (by simp only [↓wR,RA,simprocAttr,TF,ae]<;>rfl) (by simp only [↓wR,RA,simprocAttr,TF,ae]<;>rfl) ?_
 rintro x ⟨hx,hx2,hR⟩
 simp only [↓wR,RA,simprocAttr,TF,ae]
 refine ⟨by kernel_rfl,.inl ?_⟩
 rw [aw];refine ⟨fun h1=>?_,fun h1=>?_⟩
 ·simp only [↓wR,RA,simprocAttr,TF,ae,h1]
  rw [aw];refine ⟨fun h2=>?_,fun h2=>?_⟩
  ·obtain ⟨c,hc⟩:∃ c,a[a.length - 1 - x]? = some c:=⟨_,List.getElem?_eq_getElem (by omega)⟩
   obtain ⟨d,hd⟩:∃ d,b[b.length - 1 - x]? = some d:=⟨_,List.getElem?_eq_getElem (by omega)⟩
   have e1:((a.length:Int) - 1 - x).toNat=a.length - 1 - x:=by omega
   have e2:(0:Int)≤(a.length:Int) - 1 - x:=by omega
   have e4:((b.length:Int) - 1 - x).toNat=b.length - 1 - x:=by omega
   have e5:(0:Int)≤(b.length:Int) - 1 - x:=by omega
   rw [Jz (by omega) hc,Jz (by omega) hd,fh] at hR
   simp only [↓wR,RA,simprocAttr,TF,ae,h2,e1,e2,e4,e5,hc,hd,qz,ha.label c (List.mem_of_getElem? hc),hb.label d (List.mem_of_getElem? hd)];repeat (simp (disch:=omega) only [ag,bf,bg,be,bb];try simp only [↓wR,RA,simprocAttr,TF,ae,h2,e1,e2,e4,e5,hc,hd,qz,ha.label c (List.mem_of_getElem? hc),hb.label d (List.mem_of_getElem? hd)])
   refine ⟨by apply hq;kernel_rfl,?_⟩
   rw [cp];refine ⟨fun ⟨h3,e3⟩=>?_,fun ⟨h3,e3⟩=>?_⟩
   ·have h4:fold c=fold d:=Xr e3
    rw [if_pos h4] at hR
    simp only [↓wR,RA,simprocAttr,TF,ae,h3];repeat (simp (disch:=omega) only [ag,bf,bg,be,bb];try simp only [↓wR,RA,simprocAttr,TF,ae,h3])
    exact ⟨x+1,⟨by omega,by omega,by omega⟩,by omega,by (first|rfl|trivial|omega|((try (simp (disch:=omega) only [ag]));(try (simp only [FB]));first|done|rfl|omega))⟩
   ·have h4:¬ fold c=fold d:=fun q=>e3 (by rw [q];unfold vi;exact Pf _)
    rw [if_neg h4] at hR
    simp only [↓wR,RA,simprocAttr,TF,ae,h3];repeat (simp (disch:=omega) only [ag,bf,bg,be,bb];try simp only [↓wR,RA,simprocAttr,TF,ae,h3])
    rw [hR,Nat.add_zero]
  ·have h5:b.reverse.drop x=[]:=List.drop_eq_nil_of_le (by simp;omega)
   rw [h5,Rh] at hR
   simp only [↓wR,RA,simprocAttr,TF,ae,h2];repeat (simp (disch:=omega) only [ag,bf,bg,be,bb];try simp only [↓wR,RA,simprocAttr,TF,ae,h2])
   refine ⟨by apply hq;kernel_rfl,?_⟩
   rw [hR,Nat.add_zero]
 ·have h5:a.reverse.drop x=[]:=List.drop_eq_nil_of_le (by simp;omega)
  rw [h5,aby] at hR
  simp only [↓wR,RA,simprocAttr,TF,ae,h1];repeat (simp (disch:=omega) only [ag,bf,bg,be,bb];try simp only [↓wR,RA,simprocAttr,TF,ae,h1])
  refine ⟨by apply hq;kernel_rfl,?_⟩
  rw [hR,Nat.add_zero]
noncomputable def vz (x:Name × Name × Unit):Option AV:=if bw x.1∧bw x.2.1 then some ((r1 (bh .i64)).E true ((common x.1 x.2.1:Int))) else none
set_option maxRecDepth 2000000 in
theorem F4 (x:Name × Name × Unit) (r:AV) (h:vz x=some r):bk PP 113 ((aC au (aC au a0)).E x) r:=by
 by_cases hc:bw x.1∧bw x.2.1
 case neg=>simp only [vz,if_neg hc] at h;cases h
 simp only [vz,if_pos hc] at h
 cases h
 exact ay (ar.cons (ak F6) (ar.nil PP)) Tryz.func113 (by kernel_rfl) (by kernel_rfl) (by kernel_rfl) (Nat.le_of_ble_eq_true (by kernel_rfl)) (r1 (bh .i64)) true ((common x.1 x.2.1:Int)) (al6 x.1 x.2.1 hc.1 hc.2)
noncomputable abbrev Wi:Nat × Bool × (List AV→M AV):=(113,true,c8 (aC au (aC au a0)) vz)
theorem apk (n top:Name) (hn:bw n) (ht:bw top):wl PP [Wi] 0 (Tryz.f74.body.getD .skip) (da PP Tryz.f74.results.toList (fun r st=>(r1 bo).get true st.h r=some (gq n top))) (cj 0 [au.val false n,au.val false top]) (bj []):=by
 unfold Tryz.f74
 simp only [cr]
 simp only [↓wR,RA,simprocAttr,TF,ae,vz,hn,ht]
 congr 1
 unfold gq
 have:=Aj n top
 rw [Bool.eq_iff_iff];simp [← this];omega
noncomputable def B6 (x:Name × Name × Unit):Option AV:=if bw x.1∧bw x.2.1 then some ((r1 bo).E true (gq x.1 x.2.1)) else none
set_option maxRecDepth 2000000 in
theorem G8 (x:Name × Name × Unit) (r:AV) (h:B6 x=some r):bk PP 74 ((aC au (aC au a0)).E x) r:=by
 by_cases hc:bw x.1∧bw x.2.1
 case neg=>simp only [B6,if_neg hc] at h;cases h
 simp only [B6,if_pos hc] at h
 cases h
 exact ay (ar.cons (ak F4) (ar.nil PP)) Tryz.func74 (by kernel_rfl) (by kernel_rfl) (by kernel_rfl) (Nat.le_of_ble_eq_true (by kernel_rfl)) (r1 bo) true (gq x.1 x.2.1) (apk x.1 x.2.1 hc.1 hc.2)
noncomputable abbrev n9:Nat × Bool × (List AV→M AV):=(74,true,c8 (aC au (aC au a0)) B6)
theorem atd (n top:Name) (hn:bw n) (ht:bw top):wl PP [Wi] 0 (Tryz.f62.body.getD .skip) (da PP Tryz.f62.results.toList (fun r st=>(r1 bo).get true st.h r=some (er n top))) (cj 0 [au.val false n,au.val false top]) (bj []):=by
 unfold Tryz.f62
 simp only [cr]
 simp only [↓wR,RA,simprocAttr,TF,ae,vz,hn,ht]
 rw [di];refine ⟨fun h=>?_,fun h=>?_⟩
 ·have hl:n.length=top.length:=by simp at h;omega
  simp only [↓wR,RA,simprocAttr,TF,ae,h,vz,hn,ht]
  congr 1
  unfold er
  have:=Cr n top
  rw [Bool.eq_iff_iff];simp [← this,hl];omega
 ·have hl:¬ n.length=top.length:=by simp at h;omega
  simp only [↓wR,RA,simprocAttr,TF,ae,h]
  have:=Cr n top
  simp [er,← this,hl]
noncomputable def oz (x:Name × Name × Unit):Option AV:=if bw x.1∧bw x.2.1 then some ((r1 bo).E true (er x.1 x.2.1)) else none
set_option maxRecDepth 2000000 in
theorem ue (x:Name × Name × Unit) (r:AV) (h:oz x=some r):bk PP 62 ((aC au (aC au a0)).E x) r:=by
 by_cases hc:bw x.1∧bw x.2.1
 case neg=>simp only [oz,if_neg hc] at h;cases h
 simp only [oz,if_pos hc] at h
 cases h
 exact ay (ar.cons (ak F4) (ar.nil PP)) Tryz.func62 (by kernel_rfl) (by kernel_rfl) (by kernel_rfl) (Nat.le_of_ble_eq_true (by kernel_rfl)) (r1 bo) true (er x.1 x.2.1) (atd x.1 x.2.1 hc.1 hc.2)
noncomputable abbrev ny:Nat × Bool × (List AV→M AV):=(62,true,c8 (aC au (aC au a0)) oz)
theorem ahm (a b:Name) (ha:bw a) (hb:bw b):wl PP [Wi,Qp] 0 (Tryz.f116.body.getD .skip) (da PP Tryz.f116.results.toList (fun r st=>(r1 (bh .i64)).get true st.h r=some (nr a b))) (cj 0 [au.val false a,au.val false b]) (bj []):=by
 unfold Tryz.f116
 simp only [cr]
 simp only [↓wR,RA,simprocAttr,TF,ae,vz,ha,hb]
 have h1:=zo a.reverse b.reverse
 have h2:=El a.reverse b.reverse
 rw [List.length_reverse] at h1 h2
 change common a b≤a.length at h1
 change common a b≤b.length at h2
 obtain ⟨k,hk⟩:∃ k,common a b=k:=⟨_,rfl⟩
 rw [hk] at h1 h2
 unfold nr
 rw [hk]
 rw [di];refine ⟨fun h=>?_,fun h=>?_⟩
 ·simp only [↓wR,RA,simprocAttr,TF,ae,h]
  have hka:k=a.length:=by simp at h;omega
  rw [di];refine ⟨fun h3=>?_,fun h3=>?_⟩
  ·have hkb:k=b.length:=by simp at h3;omega
   simp only [↓wR,RA,simprocAttr,TF,ae,h3]
   rw [if_pos ⟨hka,hkb⟩]
  ·have hkb:¬ k=b.length:=by simp at h3;omega
   simp only [↓wR,RA,simprocAttr,TF,ae,h3,h]
   rw [if_neg (fun e=>hkb e.2),if_pos hka]
 ·simp only [↓wR,RA,simprocAttr,TF,ae,h]
  have hka:¬ k=a.length:=by simp at h;omega
  rw [di];refine ⟨fun h3=>?_,fun h3=>?_⟩
  ·have hkb:k=b.length:=by simp at h3;omega
   simp only [↓wR,RA,simprocAttr,TF,ae,h3]
   rw [if_neg (fun e=>hka e.1),if_neg hka,if_pos hkb]
  ·have hkb:¬ k=b.length:=by simp at h3;omega
   rw [if_neg (fun e=>hka e.1),if_neg hka,if_neg hkb]
   obtain ⟨x,hx⟩:∃ x,a[a.length - 1 - k]? = some x:=⟨_,List.getElem?_eq_getElem (by omega)⟩
   obtain ⟨y,hy⟩:∃ y,b[b.length - 1 - k]? = some y:=⟨_,List.getElem?_eq_getElem (by omega)⟩
   simp only [↓wR,RA,simprocAttr,TF,ae,h3]
   refine ⟨by kernel_rfl,.inl ?_⟩
   have la:=ha.len
   have lb:=hb.len
   simp (disch:=omega) only [ag,bf,bg,be,bb]
   have e1:(((a.length:Int) - 1) - k).toNat=a.length - 1 - k:=by omega
   have e2:(0:Int)≤((a.length:Int) - 1) - k:=by omega
   have e3:(((b.length:Int) - 1) - k).toNat=b.length - 1 - k:=by omega
   have e4:(0:Int)≤((b.length:Int) - 1) - k:=by omega
   simp only [↓wR,RA,simprocAttr,TF,ae,hx,e1,e2]
   simp (disch:=omega) only [ag,bf,bg,be,bb]
   simp only [↓wR,RA,simprocAttr,TF,ae,hy,e3,e4,qz,ha.label x (List.mem_of_getElem? hx),hb.label y (List.mem_of_getElem? hy)]
   exact ⟨by kernel_rfl,by simp [abh,hx,hy]⟩
noncomputable def zk (x:Name × Name × Unit):Option AV:=if bw x.1∧bw x.2.1 then some ((r1 (bh .i64)).E true (nr x.1 x.2.1)) else none
set_option maxRecDepth 2000000 in
theorem K4 (x:Name × Name × Unit) (r:AV) (h:zk x=some r):bk PP 116 ((aC au (aC au a0)).E x) r:=by
 by_cases hc:bw x.1∧bw x.2.1
 case neg=>simp only [zk,if_neg hc] at h;cases h
 simp only [zk,if_pos hc] at h
 cases h
 exact ay (ar.cons (ak F4) (ar.cons (ak F6) (ar.nil PP))) Tryz.func116 (by kernel_rfl) (by kernel_rfl) (by kernel_rfl) (Nat.le_of_ble_eq_true (by kernel_rfl)) (r1 (bh .i64)) true (nr x.1 x.2.1) (ahm x.1 x.2.1 hc.1 hc.2)
noncomputable abbrev agl:Nat × Bool × (List AV→M AV):=(116,true,c8 (aC au (aC au a0)) zk)
noncomputable def nl:dm Shape:=Db (m4 (bh .i64) (m4 (bh .i64) (m4 (bh .i64) (m4 (bh .i64) (bh .i64))))) (fun s=>(s.names,s.nums,s.texts,s.raw,s.size)) (fun p=>⟨p.1,p.2.1,p.2.2.2.2,p.2.2.1,p.2.2.2.1⟩) (fun _=>rfl) (fun _=>rfl)
theorem uu (l:Bool) (s:Shape):nl.val l s = .agg [.sc (.int .i64 s.names),.sc (.int .i64 s.nums),.sc (.int .i64 s.texts),.sc (.int .i64 s.raw),.sc (.int .i64 s.size)]:=id rfl
theorem ir (fr h) (a b c d e:Int):nl.jf fr h (.agg [.sc (.int .i64 a),.sc (.int .i64 b),.sc (.int .i64 c),.sc (.int .i64 d),.sc (.int .i64 e)])=some ⟨a,b,e,c,d⟩:=azc nl fr h ⟨a,b,e,c,d⟩
theorem aAk (t:UInt16):wl PP [] 0 (Tryz.f164.body.getD .skip) (da PP Tryz.f164.results.toList (fun r st=>(r2 nl bo).get true st.h r=some (db t,!mn t))) (cj 0 [cg.val false t]) (bj []):=by
 have hk:∀ n:Int,(t.toNat:Int)=n→n≠0→¬ (128≤n∧n≤255)→mn t=false:=by
  intro n h1 h2 h3
  unfold mn
  rw [h1]
  simp only [Bool.or_eq_false_iff,beq_eq_false_iff_ne,ne_eq,Bool.and_eq_false_iff,decide_eq_false_iff_not]
  exact ⟨h2,by omega⟩
 unfold Tryz.f164
 unfold db
 simp only [↓wR,RA,simprocAttr,TF,ae]
 rw [cp];refine ⟨fun ⟨h0,e0⟩=>?_,fun ⟨h0,e0⟩=>?_⟩
 ·simp only [↓wR,RA,simprocAttr,TF,ae,h0,ir,hk _ e0 (by decide) (by decide)]
  rw [if_pos e0]
 rw [if_neg e0]
 simp only [↓wR,RA,simprocAttr,TF,ae,h0]
 rw [cp];refine ⟨fun ⟨h1,e1⟩=>?_,fun ⟨h1,e1⟩=>?_⟩
 ·simp only [↓wR,RA,simprocAttr,TF,ae,h1,ir,hk _ e1 (by decide) (by decide)]
  rw [if_pos e1]
 rw [if_neg e1]
 simp only [↓wR,RA,simprocAttr,TF,ae,h1]
 rw [cp];refine ⟨fun ⟨h2,e2⟩=>?_,fun ⟨h2,e2⟩=>?_⟩
 ·simp only [↓wR,RA,simprocAttr,TF,ae,h2,ir,hk _ e2 (by decide) (by decide)]
  rw [if_pos e2]
 rw [if_neg e2]
 simp only [↓wR,RA,simprocAttr,TF,ae,h2]
 rw [cp];refine ⟨fun ⟨h3,e3⟩=>?_,fun ⟨h3,e3⟩=>?_⟩
 ·simp only [↓wR,RA,simprocAttr,TF,ae,h3,ir,hk _ e3 (by decide) (by decide)]
  rw [if_pos e3]
 rw [if_neg e3]
 simp only [↓wR,RA,simprocAttr,TF,ae,h3]
 rw [cp];refine ⟨fun ⟨h4,e4⟩=>?_,fun ⟨h4,e4⟩=>?_⟩
 ·simp only [↓wR,RA,simprocAttr,TF,ae,h4,ir,hk _ e4 (by decide) (by decide)]
  rw [if_pos e4]
 rw [if_neg e4]
 simp only [↓wR,RA,simprocAttr,TF,ae,h4]
 rw [cp];refine ⟨fun ⟨h5,e5⟩=>?_,fun ⟨h5,e5⟩=>?_⟩
 ·simp only [↓wR,RA,simprocAttr,TF,ae,h5,ir,hk _ e5 (by decide) (by decide)]
  rw [if_pos e5]
 rw [if_neg e5]
 simp only [↓wR,RA,simprocAttr,TF,ae,h5]
 rw [cp];refine ⟨fun ⟨h6,e6⟩=>?_,fun ⟨h6,e6⟩=>?_⟩
 ·simp only [↓wR,RA,simprocAttr,TF,ae,h6,ir,hk _ e6 (by decide) (by decide)]
  rw [if_pos e6]
 rw [if_neg e6]
 simp only [↓wR,RA,simprocAttr,TF,ae,h6]
 rw [cp];refine ⟨fun ⟨h7,e7⟩=>?_,fun ⟨h7,e7⟩=>?_⟩
 ·simp only [↓wR,RA,simprocAttr,TF,ae,h7,ir,hk _ e7 (by decide) (by decide)]
  rw [if_pos e7]
 rw [if_neg e7]
 simp only [↓wR,RA,simprocAttr,TF,ae,h7]
 rw [cp];refine ⟨fun ⟨h8,e8⟩=>?_,fun ⟨h8,e8⟩=>?_⟩
 ·simp only [↓wR,RA,simprocAttr,TF,ae,h8,ir,hk _ e8 (by decide) (by decide)]
  rw [if_pos e8]
 rw [if_neg e8]
 simp only [↓wR,RA,simprocAttr,TF,ae,h8]
 rw [cp];refine ⟨fun ⟨h9,e9⟩=>?_,fun ⟨h9,e9⟩=>?_⟩
 ·simp only [↓wR,RA,simprocAttr,TF,ae,h9,ir,hk _ e9 (by decide) (by decide)]
  rw [if_pos e9]
 rw [if_neg e9]
 simp only [↓wR,RA,simprocAttr,TF,ae,h9]
 have hb:(!mn t)=(if (t.toNat:Int)=0 then false else if (t.toNat:Int)<128 then true else decide (255<(t.toNat:Int))):=by
  unfold mn
  rw [Bool.eq_iff_iff]
  split
  ·rename_i h;simp [h]
  ·split
   ·rename_i h1 h2;simp [h1];omega
   ·rename_i h1 h2;simp [h1];omega
 rw [hb]
 rw [c9];refine ⟨fun ⟨h10,e10⟩=>?_,fun ⟨h10,e10⟩=>?_⟩
 ·rw [if_neg e10]
  simp only [↓wR,RA,simprocAttr,TF,ae,h10]
  rw [aw];refine ⟨fun h11=>?_,fun h11=>?_⟩
  ·rw [if_pos h11]
   simp only [↓wR,RA,simprocAttr,TF,ae,h11,ir]
  ·rw [if_neg h11]
   simp only [↓wR,RA,simprocAttr,TF,ae,h11,ir]
 ·rw [if_pos e10]
  simp only [↓wR,RA,simprocAttr,TF,ae,h10,ir]
noncomputable def aeo (x:UInt16 × Unit):Option AV:=some ((r2 nl bo).E true ((db x.1,!mn x.1)))
set_option maxRecDepth 2000000 in
theorem Rn (x:UInt16 × Unit) (r:AV) (h:aeo x=some r):bk PP 164 ((aC cg a0).E x) r:=by
 cases h
 exact ay (ar.nil PP) Tryz.func164 (by kernel_rfl) (by kernel_rfl) (by kernel_rfl) (Nat.le_of_ble_eq_true (by kernel_rfl)) (r2 nl bo) true ((db x.1,!mn x.1)) (aAk x.1)
noncomputable abbrev rOf:Nat × Bool × (List AV→M AV):=(164,true,c8 (aC cg a0) aeo)
def xz (n:Int):UInt32:=if n=1 then 255 else if n=2 then 65535 else 4294967295
theorem atl (n:Int):wl PP [] 0 (Tryz.f188.body.getD .skip) (da PP Tryz.f188.results.toList (fun r st=>(r1 cw).get true st.h r=some (xz n))) (cj 0 [(bh .i64).val false n]) (bj []):=by
 unfold xz
 unfold Tryz.f188
 simp only [↓wR,RA,simprocAttr,TF,ae]
 rw [cp];refine ⟨fun ⟨h0,e0⟩=>?_,fun ⟨h0,e0⟩=>?_⟩
 ·simp only [↓wR,RA,simprocAttr,TF,ae,h0]
  rw [if_pos e0];rfl
 rw [if_neg e0]
 simp only [↓wR,RA,simprocAttr,TF,ae,h0]
 rw [cp];refine ⟨fun ⟨h1,e1⟩=>?_,fun ⟨h1,e1⟩=>?_⟩
 ·simp only [↓wR,RA,simprocAttr,TF,ae,h1]
  rw [if_pos e1];rfl
 rw [if_neg e1]
 simp only [↓wR,RA,simprocAttr,TF,ae,h1]
 rfl
noncomputable def agh (x:Int × Unit):Option AV:=some ((r1 cw).E true (xz x.1))
set_option maxRecDepth 2000000 in
theorem amy (x:Int × Unit) (r:AV) (h:agh x=some r):bk PP 188 ((aC (bh .i64) a0).E x) r:=by
 cases h
 exact ay (ar.nil PP) Tryz.func188 (by kernel_rfl) (by kernel_rfl) (by kernel_rfl) (Nat.le_of_ble_eq_true (by kernel_rfl)) (r1 cw) true (xz x.1) (atl x.1)
noncomputable abbrev aBv:Nat × Bool × (List AV→M AV):=(188,true,c8 (aC (bh .i64) a0) agh)
theorem an7 (n:UInt32) (k:Int) (hk : 0≤k∧k≤4):wl PP [] 0 (Tryz.f191.body.getD .skip) (da PP Tryz.f191.results.toList (fun r st=>(r1 (cq bu)).get false st.h r=some ((A7 n).drop (4 - k).toNat))) (cj 0 [cw.val false n,(bh .i64).val false k]) (bj []):=by
 unfold Tryz.f191
 simp only [↓wR,RA,simprocAttr,TF,ae]
 simp (disch:=omega) only [ag,bf,bg,be,bb]
 have h4:(4 - k).toNat≤4:=by omega
 have hkk:k=0∨k=1∨k=2∨k=3∨k=4:=by omega
 simp only [↓wR,RA,simprocAttr,TF,ae,hk,h4]
 rcases hkk with rfl|rfl|rfl|rfl|rfl<;>first|rfl|(simp only [↓wR,RA,simprocAttr,TF,ae,Ve];done)|(simp only [↓wR,RA,simprocAttr,TF,ae,Ve,List.drop,List.take];rfl)
noncomputable def Bn (x:UInt32 × Int × Unit):Option AV:=if 0≤x.2.1∧x.2.1≤4 then some ((r1 (cq bu)).E false (((A7 x.1).drop (4 - x.2.1).toNat))) else none
set_option maxRecDepth 2000000 in
theorem adt (x:UInt32 × Int × Unit) (r:AV) (h:Bn x=some r):bk PP 191 ((aC cw (aC (bh .i64) a0)).E x) r:=by
 by_cases hc : 0≤x.2.1∧x.2.1≤4
 case neg=>simp only [Bn,if_neg hc] at h;cases h
 simp only [Bn,if_pos hc] at h
 cases h
 exact ay (ar.nil PP) Tryz.func191 (by kernel_rfl) (by kernel_rfl) (by kernel_rfl) (Nat.le_of_ble_eq_true (by kernel_rfl)) (r1 (cq bu)) false (((A7 x.1).drop (4 - x.2.1).toNat)) (an7 x.1 x.2.1 hc)
noncomputable abbrev ayq:Nat × Bool × (List AV→M AV):=(191,true,c8 (aC cw (aC (bh .i64) a0)) Bn)
theorem aw8 (s:ByteArray) (hs:s.size≤16777216):wl PP [] 0 (Tryz.f189.body.getD .skip) (da PP Tryz.f189.results.toList (fun r st=>(r1 bo).get true st.h r=some (tm s))) (cj 0 [aj.val false s]) (bj []):=by
 unfold Tryz.f189
 simp only [↓wR,RA,simprocAttr,TF,ae]
 rw [aw];refine ⟨fun h1=>?_,fun h1=>?_⟩
 ·have hv:tm s=false:=by unfold tm;rw [Bool.and_eq_false_iff];right;rw [decide_eq_false_iff_not];omega
  simp only [↓wR,RA,simprocAttr,TF,ae,h1,hv]
 simp only [↓wR,RA,simprocAttr,TF,ae,h1]
 rw [aw];refine ⟨fun h2=>?_,fun h2=>?_⟩
 ·have hv:tm s=false:=by unfold tm;rw [Bool.and_eq_false_iff];right;rw [decide_eq_false_iff_not];omega
  simp only [↓wR,RA,simprocAttr,TF,ae,h2,hv]
 simp only [↓wR,RA,simprocAttr,TF,ae,h2]
 refine c7 [0,3] (fun (i:Nat)=>[.sc (.string s),.sc (.int .i64 i)]) (fun _=>[]) (fun i=>i≤s.size∧s.data.toList.all Cc=(s.data.toList.drop i).all Cc) (fun i=>s.size - i) 0 ⟨Nat.zero_le _,rfl⟩ (by simp only [↓wR,RA,simprocAttr,TF,ae]<;>rfl) (by simp only [↓wR,RA,simprocAttr,TF,ae]<;>rfl) ?_
 rintro i ⟨hi,hR⟩
 simp only [↓wR,RA,simprocAttr,TF,ae]
 rw [aw];refine ⟨fun h=>?_,fun h=>?_⟩
 ·obtain ⟨c,hc⟩:∃ c,s.data.toList[i]? = some c:=⟨_,List.getElem?_eq_getElem (by simp;omega)⟩
  have hd:=Ce hc
  rw [hd,List.all_cons] at hR
  simp only [↓wR,RA,simprocAttr,TF,ae,h,hc];repeat (simp (disch:=omega) only [ag,bf,bg,be,bb];try simp only [↓wR,RA,simprocAttr,TF,ae,h,hc])
  repeat' (rw [aw];refine ⟨fun h=>?_,fun h=>?_⟩<;>simp only [↓wR,RA,simprocAttr,TF,h,hc])
  all_goals first
   |(
    have ht:Cc c=false:=by (unfold Cc;rw [decide_eq_false_iff_not];omega)
    rw [tm,hR,ht];rfl)
   |(
    have ht:Cc c=true:=by (unfold Cc;rw [decide_eq_true_eq];omega)
    refine ⟨i+1,⟨by omega,by rw [hR,ht];simp⟩,by omega,by (first|rfl|trivial|omega|((try (simp (disch:=omega) only [ag]));(try (simp only [FB]));first|done|rfl|omega))⟩)
 ·have hdn:s.data.toList.drop i=[]:=List.drop_eq_nil_of_le (by simp;omega)
  rw [hdn,List.all_nil] at hR
  have hv:tm s=true:=by unfold tm;rw [hR,Bool.true_and,decide_eq_true_eq];omega
  simp only [↓wR,RA,simprocAttr,TF,ae,h,hv]
noncomputable def T5 (x:ByteArray × Unit):Option AV:=if x.1.size≤16777216 then some ((r1 bo).E true (tm x.1)) else none
set_option maxRecDepth 2000000 in
theorem aqu (x:ByteArray × Unit) (r:AV) (h:T5 x=some r):bk PP 189 ((aC aj a0).E x) r:=by
 by_cases hc:x.1.size≤16777216
 case neg=>simp only [T5,if_neg hc] at h;cases h
 simp only [T5,if_pos hc] at h
 cases h
 exact ay (ar.nil PP) Tryz.func189 (by kernel_rfl) (by kernel_rfl) (by kernel_rfl) (Nat.le_of_ble_eq_true (by kernel_rfl)) (r1 bo) true (tm x.1) (aw8 x.1 hc)
noncomputable abbrev aCj:Nat × Bool × (List AV→M AV):=(189,true,c8 (aC aj a0) T5)
noncomputable def O0 (t:UInt16) (d:bt):Bool:=if (t.toNat:Int)=257 then tm (d.texts.headD ⟨#[]⟩) else true
noncomputable def aoi (t:UInt16) (d:bt):Bool:=if (t.toNat:Int)=16∧(d.texts.any fun x=>decide (255<x.size))=true then false else O0 t d
noncomputable def abf (s:Shape) (t:UInt16) (d:bt):Bool:=if (d.nums.any fun n=>decide ((xz s.size).toNat<n.toNat))=true then false else aoi t d
def pq (s:Shape) (d:bt):Prop:=((d.names.length:Int)≠s.names∨(d.nums.length:Int)≠s.nums)∨(0≤s.texts∧(d.texts.length:Int)≠s.texts)∨(s.texts<0∧(d.texts.length:Int)=0)∨(0≤s.raw∧(d.raw.length:Int)≠s.raw)
noncomputable def Eg (s:Shape) (t:UInt16) (d:bt):Bool:=open Classical in if pq s d then false else abf s t d
def Tz (s:Shape) (t:UInt16):Prop:=(t.toNat:Int)=257→s.texts=2
instance (s:Shape) (t:UInt16):Decidable (Tz s t):=inferInstanceAs (Decidable (_→_))
set_option maxHeartbeats 4000000 in
theorem at1 (s:Shape) (t:UInt16) (d:bt) (hd:cy d) (h257:Tz s t):wl PP [aBv,aCj] 0 (Tryz.f165.body.getD .skip) (da PP Tryz.f165.results.toList (fun r st=>(r1 bo).get true st.h r=some (Eg s t d))) (cj 0 [cg.val false t,nl.val false s,aq.val false d]) (bj []):=by
 obtain ⟨l1,l2,l3,l4⟩:=hd.lens
 have hbad:pq s d→Eg s t d=false:=fun h=>if_pos h
 have hok:¬ pq s d→Eg s t d=abf s t d:=fun h=>if_neg h
 unfold Tryz.f165
 simp only [uu,gw,cr]
 have hg:∀ (L:SL) (P1:Prop),(P1→0<d.texts.length)→True:=fun _ _ _=>trivial
 simp only [↓wR,RA,simprocAttr,TF,ae]
 rw [c9];refine ⟨fun ⟨a1,e1⟩=>?_,fun ⟨a1,e1⟩=>?_⟩
 ·have hv:=hbad (.inl (.inl e1))
  simp only [↓wR,RA,simprocAttr,TF,ae,a1,hv]
 simp only [↓wR,RA,simprocAttr,TF,ae,a1]
 rw [c9];refine ⟨fun ⟨a2,e2⟩=>?_,fun ⟨a2,e2⟩=>?_⟩
 ·have hv:=hbad (.inl (.inr e2))
  simp only [↓wR,RA,simprocAttr,TF,ae,a2,hv]
 simp only [↓wR,RA,simprocAttr,TF,ae,a2]
 rw [aw];refine ⟨fun h3=>?_,fun h3=>?_⟩
 simp only [↓wR,RA,simprocAttr,TF,ae,h3]
 rw [c9];refine ⟨fun ⟨a3,e3⟩=>?_,fun ⟨a3,e3⟩=>?_⟩
 have hv:=hbad (.inr (.inl ⟨h3,e3⟩))
 simp only [↓wR,RA,simprocAttr,TF,ae,a3,hv]
 simp only [↓wR,RA,simprocAttr,TF,ae,a3]
 rw [aw];refine ⟨fun h4=>?_,fun h4=>?_⟩
 exfalso;omega
 simp only [↓wR,RA,simprocAttr,TF,ae,h4]
 rw [aw];refine ⟨fun h5=>?_,fun h5=>?_⟩
 simp only [↓wR,RA,simprocAttr,TF,ae,h5]
 rw [c9];refine ⟨fun ⟨a4,e4⟩=>?_,fun ⟨a4,e4⟩=>?_⟩
 have hv:=hbad (.inr (.inr (.inr ⟨h5,e4⟩)))
 simp only [↓wR,RA,simprocAttr,TF,ae,a4,hv]
 have hv:=hok (by unfold pq;omega)
 have hp:(t.toNat:Int)=257→0<d.texts.length:=fun q=>by have:=h257 q;omega
 simp only [↓wR,RA,simprocAttr,TF,ae,a4]
 rotate_left
 have hv:=hok (by unfold pq;omega)
 have hp:(t.toNat:Int)=257→0<d.texts.length:=fun q=>by have:=h257 q;omega
 simp only [↓wR,RA,simprocAttr,TF,ae,h5]
 rotate_left
 simp only [↓wR,RA,simprocAttr,TF,ae,h3]
 rw [aw];refine ⟨fun h4=>?_,fun h4=>?_⟩
 simp only [↓wR,RA,simprocAttr,TF,ae,h4]
 rw [cp];refine ⟨fun ⟨a3,e3⟩=>?_,fun ⟨a3,e3⟩=>?_⟩
 have hv:=hbad (.inr (.inr (.inl ⟨h4,e3⟩)))
 simp only [↓wR,RA,simprocAttr,TF,ae,a3,hv]
 simp only [↓wR,RA,simprocAttr,TF,ae,a3]
 rw [aw];refine ⟨fun h5=>?_,fun h5=>?_⟩
 simp only [↓wR,RA,simprocAttr,TF,ae,h5]
 rw [c9];refine ⟨fun ⟨a4,e4⟩=>?_,fun ⟨a4,e4⟩=>?_⟩
 have hv:=hbad (.inr (.inr (.inr ⟨h5,e4⟩)))
 simp only [↓wR,RA,simprocAttr,TF,ae,a4,hv]
 have hv:=hok (by unfold pq;omega)
 have hp:(t.toNat:Int)=257→0<d.texts.length:=fun q=>by have:=h257 q;omega
 simp only [↓wR,RA,simprocAttr,TF,ae,a4]
 rotate_left
 have hv:=hok (by unfold pq;omega)
 have hp:(t.toNat:Int)=257→0<d.texts.length:=fun q=>by have:=h257 q;omega
 simp only [↓wR,RA,simprocAttr,TF,ae,h5]
 rotate_left
 exfalso;omega
 all_goals
  rw [hv]
  clear hv hg hbad hok h257
  unfold abf
  refine c7 [0,4,5,7] (fun (i:Nat)=>[.sc (.int .u16 t.toNat),.ptr 0 0,.ptr 1 0,.sc (.int .i64 (i))]) (fun _=>[some (.row [.sc (.int .i64 (s).names),.sc (.int .i64 (s).nums),.sc (.int .i64 (s).texts),.sc (.int .i64 (s).raw),.sc (.int .i64 (s).size)] 0 2 183),some (.row [.vl false 1 (d.names.map (au.val false)),.vl false 1 (d.nums.map (cw.val false)),.vl false 1 (d.texts.map (aj.val false)),.vl false 1 (d.raw.map (bu.val false))] 0 2 101)]) (fun i=>i≤d.nums.length∧(d.nums.any fun n=>decide ((xz s.size).toNat<n.toNat))=((d.nums.drop i).any fun n=>decide ((xz s.size).toNat<n.toNat))) (fun i=>d.nums.length - i) 0 ⟨Nat.zero_le _,by rw [List.drop_zero]⟩ (by simp only [↓wR,RA,simprocAttr,TF,ae]<;>rfl) (by simp only [↓wR,RA,simprocAttr,TF,ae]<;>rfl) ?_
  rintro i ⟨hi,hR⟩
  simp only [↓wR,RA,simprocAttr,TF,ae]
  rw [aw];refine ⟨fun h=>?_,fun h=>?_⟩
  ·obtain ⟨c,hc,hd1,hlt⟩:=dx (decide_eq_true h)
   rw [hd1,List.any_cons] at hR
   simp only [↓wR,RA,simprocAttr,TF,ae,h]
   refine ⟨by kernel_rfl,.inl ?_⟩
   simp only [↓wR,RA,simprocAttr,TF,ae,hc,agh]
   refine ⟨by kernel_rfl,?_⟩
   rw [aw];refine ⟨fun h6=>?_,fun h6=>?_⟩
   ·rw [if_pos (by rw [hR,decide_eq_true (by omega),Bool.true_or])]
    simp only [↓wR,RA,simprocAttr,TF,ae,h6]
   ·simp only [↓wR,RA,simprocAttr,TF,ae,h6];repeat (simp (disch:=omega) only [ag,bf,bg,be,bb];try simp only [↓wR,RA,simprocAttr,TF,ae,h6])
    exact ⟨i+1,⟨hlt,by rw [hR,decide_eq_false (by omega),Bool.false_or]⟩,by omega,by (first|rfl|trivial|omega|((try (simp (disch:=omega) only [ag]));(try (simp only [FB]));first|done|rfl|omega))⟩
  rw [fl (decide_eq_false h),List.any_nil] at hR
  rw [if_neg (by rw [hR];decide)]
  simp only [↓wR,RA,simprocAttr,TF,ae,h]
  unfold aoi
  refine c7 [0,5,8] (fun (i:Nat)=>[.sc (.int .u16 t.toNat),.ptr 0 0,.sc (.int .i64 (i))]) (fun _=>[some (.row [.vl false 1 (d.names.map (au.val false)),.vl false 1 (d.nums.map (cw.val false)),.vl false 1 (d.texts.map (aj.val false)),.vl false 1 (d.raw.map (bu.val false))] 0 2 101)]) (fun i=>i≤d.texts.length∧(d.texts.any fun x=>decide (255<x.size))=((d.texts.drop i).any fun x=>decide (255<x.size))) (fun i=>d.texts.length - i) 0 ⟨Nat.zero_le _,by rw [List.drop_zero]⟩ (by simp only [↓wR,RA,simprocAttr,TF,ae]<;>rfl) (by simp only [↓wR,RA,simprocAttr,TF,ae]<;>rfl) ?_
  rintro i ⟨hi2,hR2⟩
  simp only [↓wR,RA,simprocAttr,TF,ae]
  rw [cp];refine ⟨fun ⟨h7,e7⟩=>?_,fun ⟨h7,e7⟩=>?_⟩
  ·simp only [↓wR,RA,simprocAttr,TF,ae,h7]
   rw [aw];refine ⟨fun h8=>?_,fun h8=>?_⟩
   ·obtain ⟨c,hc,hd1,hlt⟩:=dx (decide_eq_true h8)
    rw [hd1,List.any_cons] at hR2
    simp only [↓wR,RA,simprocAttr,TF,ae,h8,hc]
    rw [aw];refine ⟨fun h9=>?_,fun h9=>?_⟩
    ·rw [if_pos ⟨e7,by rw [hR2,decide_eq_true (by omega),Bool.true_or]⟩]
     simp only [↓wR,RA,simprocAttr,TF,ae,h9]
    ·simp only [↓wR,RA,simprocAttr,TF,ae,h9];repeat (simp (disch:=omega) only [ag,bf,bg,be,bb];try simp only [↓wR,RA,simprocAttr,TF,ae,h9])
     exact ⟨i+1,⟨hlt,by rw [hR2,decide_eq_false (by omega),Bool.false_or]⟩,by omega,by (first|rfl|trivial|omega|((try (simp (disch:=omega) only [ag]));(try (simp only [FB]));first|done|rfl|omega))⟩
   ·rw [fl (decide_eq_false h8),List.any_nil] at hR2
    rw [if_neg (by rw [hR2];rintro ⟨_,q⟩;cases q)]
    have hv:O0 t d=true:=if_neg (by omega)
    rw [hv]
    simp only [↓wR,RA,simprocAttr,TF,ae,h8,e7]
  ·rw [if_neg (fun q=>e7 q.1)]
   simp only [↓wR,RA,simprocAttr,TF,ae,h7]
   rw [c9];refine ⟨fun ⟨h10,e10⟩=>?_,fun ⟨h10,e10⟩=>?_⟩
   ·have hv:O0 t d=true:=if_neg e10
    rw [hv]
    simp only [↓wR,RA,simprocAttr,TF,ae,h10]
   ·obtain ⟨c,hc⟩:∃ c,d.texts[0]? = some c:=⟨_,List.getElem?_eq_getElem (hp e10)⟩
    have hh:d.texts.headD ⟨#[]⟩=c:=by
     cases ht:d.texts with
     |nil=>rw [ht] at hc;cases hc
     |cons a l=>rw [ht] at hc;simpa using hc
    have hv:O0 t d=tm c:=by unfold O0;rw [if_pos e10,hh]
    rw [hv]
    simp only [↓wR,RA,simprocAttr,TF,ae,h10,hc,T5,hd.text c (List.mem_of_getElem? hc)]
noncomputable def Mv (x:UInt16 × Shape × bt × Unit):Option AV:=if cy x.2.2.1∧Tz x.2.1 x.1 then some ((r1 bo).E true (Eg x.2.1 x.1 x.2.2.1)) else none
set_option maxRecDepth 2000000 in
theorem aoc (x:UInt16 × Shape × bt × Unit) (r:AV) (h:Mv x=some r):bk PP 165 ((aC cg (aC nl (aC aq a0))).E x) r:=by
 by_cases hc:cy x.2.2.1∧Tz x.2.1 x.1
 case neg=>simp only [Mv,if_neg hc] at h;cases h
 simp only [Mv,if_pos hc] at h
 cases h
 exact ay (ar.cons (ak amy) (ar.cons (ak aqu) (ar.nil PP))) Tryz.func165 (by kernel_rfl) (by kernel_rfl) (by kernel_rfl) (Nat.le_of_ble_eq_true (by kernel_rfl)) (r1 bo) true (Eg x.2.1 x.1 x.2.2.1) (at1 x.2.1 x.1 x.2.2.1 hc.1 hc.2)
noncomputable abbrev aBk:Nat × Bool × (List AV→M AV):=(165,true,c8 (aC cg (aC nl (aC aq a0))) Mv)
def yd (l:List Name):Nat:=(l.map ca).sum
def ye (t:UInt16):Nat→List ByteArray→Nat
 |_,[]=>0
 |i,x::r=>x.size+(if (t.toNat:Int)=16∨i=0 then 1 else 0)+ye t (i+1) r
theorem ayh (l:List Name):yd l≤gj ca l:=by
 induction l with
 |nil=>exact Nat.le_refl _
 |cons a l ih=>simp only [yd,List.map_cons,List.sum_cons,gj,List.foldr_cons] at ih ⊢;omega
theorem axj (t:UInt16) (l:List ByteArray):∀ i,ye t i l≤gj ByteArray.size l:=by
 induction l with
 |nil=>intro i;exact Nat.le_refl _
 |cons a l ih=>
  intro i
  have:=ih (i+1)
  simp only [ye,gj,List.foldr_cons] at this ⊢
  split<;>omega
def H4 (s:Shape) (t:UInt16) (d:bt):Int:=d.raw.length+d.nums.length * s.size+yd d.names+ye t 0 d.texts
theorem ayy {l:List Name} {i:Nat} {c:Name} (h:l.drop i=c::l.drop (i+1)):yd (l.drop i)=ca c+yd (l.drop (i+1)):=by rw [h];simp [yd]
theorem ax8 {t:UInt16} {l:List ByteArray} {i:Nat} {c:ByteArray} (h:l.drop i=c::l.drop (i+1)):ye t i (l.drop i)=c.size+(if (t.toNat:Int)=16∨i=0 then 1 else 0)+ye t (i+1) (l.drop (i+1)):=by rw [h];rfl
set_option maxHeartbeats 4000000 in
theorem ap5 (s:Shape) (t:UInt16) (d:bt) (hd:cy d) (hs : 0≤s.size∧s.size≤4):wl PP [apv] 0 (Tryz.f166.body.getD .skip) (da PP Tryz.f166.results.toList (fun r st=>(r1 (bh .i64)).get true st.h r=some (H4 s t d))) (cj 0 [cg.val false t,nl.val false s,aq.val false d]) (bj []):=by
 obtain ⟨l1,l2,l3,l4⟩:=hd.lens
 have hn:=ayh d.names
 have ht:=axj t d.texts 0
 have hw:gj ca d.names+gj ByteArray.size d.texts≤16777216:=by unfold cy Ba at hd;omega
 have hm0 : 0≤(d.nums.length:Int) * s.size:=Int.mul_nonneg (by omega) hs.1
 have hm1:(d.nums.length:Int) * s.size≤d.nums.length * 4:=Int.mul_le_mul_of_nonneg_left hs.2 (by omega)
 have hz:H4 s t d=d.raw.length+d.nums.length * s.size+yd d.names+ye t 0 d.texts:=rfl
 obtain ⟨A,hA⟩:∃ A:Int,A=d.raw.length+d.nums.length * s.size:=⟨_,rfl⟩
 rw [hz,← hA]
 have hA0 : 0≤A∧A≤134217728:=by omega
 unfold Tryz.f166
 simp only [uu,gw,cr]
 simp only [↓wR,RA,simprocAttr,TF,ae]
 simp (disch:=omega) only [ag,bf,bg,be,bb]
 rw [← hA]
 refine c7 [0,5,7,8] (fun (i:Nat)=>[.sc (.int .u16 t.toNat),.ptr 0 0,.sc (.int .i64 (A+(yd d.names - yd (d.names.drop i):Nat))),.sc (.int .i64 (i))]) (fun _=>[some (.row [.vl false 1 (d.names.map (au.val false)),.vl false 1 (d.nums.map (cw.val false)),.vl false 1 (d.texts.map (aj.val false)),.vl false 1 (d.raw.map (bu.val false))] 0 2 101)]) (fun i=>i≤d.names.length∧yd (d.names.drop i)≤yd d.names) (fun i=>d.names.length - i) 0 ⟨Nat.zero_le _,Nat.le_refl _⟩ (by simp only [↓wR,RA,simprocAttr,TF,ae]<;>first|rfl|(rw [List.drop_zero,Nat.sub_self,Int.add_zero])) (by simp only [↓wR,RA,simprocAttr,TF,ae]<;>rfl) ?_
 rintro i ⟨hi,hx⟩
 simp only [↓wR,RA,simprocAttr,TF,ae]
 rw [aw];refine ⟨fun h=>?_,fun h=>?_⟩
 ·obtain ⟨c,hc,hd1,hlt⟩:=dx (decide_eq_true h)
  have e1:=ayy hd1
  have hnc:=hd.name c (List.mem_of_getElem? hc)
  simp only [↓wR,RA,simprocAttr,TF,ae,h,hc,Bb,hnc.fit];repeat (simp (disch:=omega) only [ag,bf,bg,be,bb];try simp only [↓wR,RA,simprocAttr,TF,ae,h,hc,Bb,hnc.fit])
  exact ⟨i+1,⟨hlt,by omega⟩,by omega,by (first|rfl|trivial|omega|((try (simp (disch:=omega) only [ag]));(try (simp only [FB]));first|done|rfl|omega))⟩
 rw [fl (decide_eq_false h)]
 have e0:yd []=0:=rfl
 rw [e0,Nat.sub_zero]
 simp only [↓wR,RA,simprocAttr,TF,ae,h]
 refine c7 [0,5,7,9] (fun (i:Nat)=>[.sc (.int .u16 t.toNat),.ptr 0 0,.sc (.int .i64 (A+yd d.names+(ye t 0 d.texts - ye t i (d.texts.drop i):Nat))),.sc (.int .i64 (i))]) (fun _=>[some (.row [.vl false 1 (d.names.map (au.val false)),.vl false 1 (d.nums.map (cw.val false)),.vl false 1 (d.texts.map (aj.val false)),.vl false 1 (d.raw.map (bu.val false))] 0 2 101)]) (fun i=>i≤d.texts.length∧ye t i (d.texts.drop i)≤ye t 0 d.texts) (fun i=>d.texts.length - i) 0 ⟨Nat.zero_le _,Nat.le_refl _⟩ (by simp only [↓wR,RA,simprocAttr,TF,ae]<;>first|rfl|(rw [List.drop_zero,Nat.sub_self,Int.add_zero])) (by simp only [↓wR,RA,simprocAttr,TF,ae]<;>rfl) ?_
 rintro i ⟨hi,hx⟩
 simp only [↓wR,RA,simprocAttr,TF,ae]
 rw [aw];refine ⟨fun h2=>?_,fun h2=>?_⟩
 ·obtain ⟨c,hc,hd1,hlt⟩:=dx (decide_eq_true h2)
  have e1:=ax8 (t:=t) hd1
  simp only [↓wR,RA,simprocAttr,TF,ae,h2,hc];repeat (simp (disch:=omega) only [ag,bf,bg,be,bb];try simp only [↓wR,RA,simprocAttr,TF,ae,h2,hc])
  rw [cp];refine ⟨fun ⟨h3,e3⟩=>?_,fun ⟨h3,e3⟩=>?_⟩
  ·rw [if_pos (.inl e3)] at e1
   simp only [↓wR,RA,simprocAttr,TF,ae,h3];repeat (simp (disch:=omega) only [ag,bf,bg,be,bb];try simp only [↓wR,RA,simprocAttr,TF,ae,h3])
   exact ⟨i+1,⟨hlt,by omega⟩,by omega,by (first|rfl|trivial|omega|((try (simp (disch:=omega) only [ag]));(try (simp only [FB]));first|done|rfl|omega))⟩
  ·simp only [↓wR,RA,simprocAttr,TF,ae,h3]
   rw [cp];refine ⟨fun ⟨h4,e4⟩=>?_,fun ⟨h4,e4⟩=>?_⟩
   ·rw [if_pos (.inr (by omega))] at e1
    simp only [↓wR,RA,simprocAttr,TF,ae,h4];repeat (simp (disch:=omega) only [ag,bf,bg,be,bb];try simp only [↓wR,RA,simprocAttr,TF,ae,h4])
    exact ⟨i+1,⟨hlt,by omega⟩,by omega,by (first|rfl|trivial|omega|((try (simp (disch:=omega) only [ag]));(try (simp only [FB]));first|done|rfl|omega))⟩
   ·rw [if_neg (by omega)] at e1
    simp only [↓wR,RA,simprocAttr,TF,ae,h4];repeat (simp (disch:=omega) only [ag,bf,bg,be,bb];try simp only [↓wR,RA,simprocAttr,TF,ae,h4])
    exact ⟨i+1,⟨hlt,by omega⟩,by omega,by (first|rfl|trivial|omega|((try (simp (disch:=omega) only [ag]));(try (simp only [FB]));first|done|rfl|omega))⟩
 rw [fl (decide_eq_false h2)]
 have e1:ye t i []=0:=by cases i<;>rfl
 rw [e1,Nat.sub_zero]
 simp only [↓wR,RA,simprocAttr,TF,ae,h2]
noncomputable def H9 (x:UInt16 × Shape × bt × Unit):Option AV:=if cy x.2.2.1∧(0≤x.2.1.size∧x.2.1.size≤4) then some ((r1 (bh .i64)).E true (H4 x.2.1 x.1 x.2.2.1)) else none
set_option maxRecDepth 2000000 in
theorem ahw (x:UInt16 × Shape × bt × Unit) (r:AV) (h:H9 x=some r):bk PP 166 ((aC cg (aC nl (aC aq a0))).E x) r:=by
 by_cases hc:cy x.2.2.1∧(0≤x.2.1.size∧x.2.1.size≤4)
 case neg=>simp only [H9,if_neg hc] at h;cases h
 simp only [H9,if_pos hc] at h
 cases h
 exact ay (ar.cons (ak Q3) (ar.nil PP)) Tryz.func166 (by kernel_rfl) (by kernel_rfl) (by kernel_rfl) (Nat.le_of_ble_eq_true (by kernel_rfl)) (r1 (bh .i64)) true (H4 x.2.1 x.1 x.2.2.1) (ap5 x.2.1 x.1 x.2.2.1 hc.1 hc.2)
noncomputable abbrev azr:Nat × Bool × (List AV→M AV):=(166,true,c8 (aC cg (aC nl (aC aq a0))) H9)
theorem Ze (s:Shape):(⟨s.names,s.nums,s.size,s.texts,s.raw⟩:Shape)=s:=rfl
theorem Co (t:UInt16):((t.toNat:Int)=16∧(db t).texts = -1∧(db t).nums=0∧(db t).size=0∧(db t).raw=0)∨((t.toNat:Int)=257∧(db t).texts=2∧(db t).nums=1∧(db t).size=1∧(db t).raw=0) ∨
 ((t.toNat:Int)≠16∧(t.toNat:Int)≠257∧(db t).texts=0∧(((db t).size=0∧(db t).nums=0)∨(db t).size=2∨(db t).size=4)∧((t.toNat:Int)=6→(db t).raw=0)):=by
 unfold db
 split
 ·exact .inr (.inr ⟨by omega,by omega,rfl,.inl ⟨rfl,rfl⟩,by omega⟩)
 split
 ·exact .inr (.inr ⟨by omega,by omega,rfl,.inl ⟨rfl,rfl⟩,by omega⟩)
 split
 ·exact .inr (.inr ⟨by omega,by omega,rfl,.inl ⟨rfl,rfl⟩,by omega⟩)
 split
 ·exact .inr (.inr ⟨by omega,by omega,rfl,.inl ⟨rfl,rfl⟩,by omega⟩)
 split
 ·exact .inr (.inr ⟨by omega,by omega,rfl,.inl ⟨rfl,rfl⟩,by omega⟩)
 split
 ·exact .inr (.inr ⟨by omega,by omega,rfl,.inr (.inr rfl),fun _=>rfl⟩)
 split
 ·exact .inr (.inr ⟨by omega,by omega,rfl,.inr (.inl rfl),by omega⟩)
 split
 ·exact .inr (.inr ⟨by omega,by omega,rfl,.inr (.inl rfl),by omega⟩)
 split
 ·exact .inl ⟨by assumption,rfl,rfl,rfl,rfl⟩
 split
 ·exact .inr (.inl ⟨by assumption,rfl,rfl,rfl,rfl⟩)
 ·exact .inr (.inr ⟨by omega,by omega,rfl,.inl ⟨rfl,rfl⟩,by omega⟩)
theorem Kd {α:Type} {p q : α→Bool}:∀ {l:List α},(∀ x ∈ l,p x=q x)→l.any p=l.any q
 | [],_=>rfl
 |a::l,h=>by rw [List.any_cons,List.any_cons,h a (by simp),Kd (fun x hx=>h x (by simp [hx]))]
theorem ayp (s:Shape) (hs:s.size=0∨s.size=1∨s.size=2∨s.size=4) (l:List UInt32) (h0:s.size=0→l=[]):(s.size<4∧(l.any fun n=>decide (Ay s≤(n.toNat:Int)))=true)↔(l.any fun n=>decide ((xz s.size).toNat<n.toNat))=true:=by
 have hb:∀ n:UInt32,n.toNat<4294967296:=fun n=>n.toNat_lt
 rcases hs with h|h|h|h
 ·rw [h0 h];simp
 ·have e1:Ay s=256:=by unfold Ay;rw [h];rfl
  have e2:(xz s.size).toNat=255:=by rw [h];rfl
  rw [e1,e2,Kd (q:=fun n=>decide (255<n.toNat)) (fun n _=>by rw [decide_eq_decide];omega)]
  exact ⟨fun q=>q.2,fun q=>⟨by omega,q⟩⟩
 ·have e1:Ay s=65536:=by unfold Ay;rw [h];rfl
  have e2:(xz s.size).toNat=65535:=by rw [h];rfl
  rw [e1,e2,Kd (q:=fun n=>decide (65535<n.toNat)) (fun n _=>by rw [decide_eq_decide];omega)]
  exact ⟨fun q=>q.2,fun q=>⟨by omega,q⟩⟩
 ·have e2:(xz s.size).toNat=4294967295:=by rw [h];rfl
  rw [e2]
  refine ⟨fun q=>by omega,fun q=>?_⟩
  obtain ⟨n,_,hn⟩:=List.any_eq_true.1 q
  have:=hb n
  simp at hn;omega
theorem Xn (t:UInt16) (d:bt):Eg (db t) t d=sv (db t) t d:=by
 have hk:=Co t
 unfold Eg sv abf aoi O0
 by_cases hb:(d.names.length:Int)≠(db t).names∨(d.nums.length:Int)≠(db t).nums∨(0≤(db t).raw∧(d.raw.length:Int)≠(db t).raw)
 ·rw [if_pos hb,if_pos (by unfold pq;omega)]
 rw [if_neg hb]
 have hm:=ayp (db t) (by omega) d.nums (fun e=>List.eq_nil_of_length_eq_zero (by omega))
 by_cases hm1:(d.nums.any fun n=>decide ((xz (db t).size).toNat<n.toNat))=true
 ·rw [if_pos (hm.2 hm1),if_pos hm1,ite_self]
 rw [if_neg (fun q=>hm1 (hm.1 q)),if_neg hm1]
 rcases hk with ⟨k1,k2,_⟩|⟨k1,k2,_⟩|⟨k1,k2,k3,_⟩
 ·rw [if_neg (show ¬ (t.toNat:Int)=257 by omega),if_neg (show ¬ (t.toNat:Int)=257 by omega),if_neg (show ¬ (db t).texts=0 by omega)]
  by_cases hl:d.texts.length=0
  ·rw [if_pos (by unfold pq;omega),decide_eq_false (by omega),Bool.false_and]
  ·rw [if_neg (by unfold pq;omega),decide_eq_true (by omega),Bool.true_and]
   cases ha:(d.texts.any fun x=>decide (255<x.size)) with
   |true=>rw [if_pos ⟨k1,rfl⟩];rfl
   |false=>rw [if_neg (by rintro ⟨_,q⟩;cases q)];rfl
 ·rw [if_pos k1,if_pos k1]
  by_cases hl:d.texts.length=2
  ·rw [if_neg (show ¬ pq (db t) d by unfold pq;omega),decide_eq_true hl,Bool.true_and,if_neg (fun q=>by have:=q.1;omega)]
  ·rw [if_pos (show pq (db t) d by unfold pq;omega),decide_eq_false hl,Bool.false_and]
 ·rw [if_neg k2,if_neg k2,if_pos k3]
  by_cases hl:d.texts.length=0
  ·rw [if_neg (show ¬ pq (db t) d by unfold pq;omega),decide_eq_true hl,if_neg (fun q=>by have:=q.1;omega)]
  ·rw [if_pos (show pq (db t) d by unfold pq;omega),decide_eq_false hl]
theorem Vv:∀ {l:List Name},k6 l=0→(l.flatMap k7).length=yd l
 | [],_=>rfl
 |n::l,h=>by
  unfold k6 at h
  split at h
  ·exact absurd h (by assumption)
  ·rename_i h1
   have h2:du n=0:=by omega
   have h3:=ur n
   rw [List.flatMap_cons,List.length_append,Vv h]
   simp only [k7,h2,ne_eq,not_true,if_false,nameBytes,List.length_append,List.length_singleton,yd,List.map_cons,List.sum_cons]
   omega
theorem T7 (t:UInt16):∀ (l:List ByteArray) (i:Nat),(ow t i l).length=ye t i l
 | [],i=>rfl
 |x::l,i=>by
  have:=T7 t l (i+1)
  have hx:x.data.toList.length=x.size:=by simp
  simp only [ow,ye,List.length_append,this,hx]
  split<;>simp<;>omega
theorem Vu (t:UInt16) (hs : 0≤(db t).size∧(db t).size≤4):∀ l:List UInt32,((l.flatMap (A4 t)).length:Int)=l.length * (db t).size
 | []=>by simp
 |n::l=>by
  have:=Vu t hs l
  have h1:((A4 t n).length:Int)=(db t).size:=by unfold A4;rw [List.length_drop,Gk];omega
  rw [List.flatMap_cons,List.length_append,List.length_cons,Int.natCast_add,this,h1,Int.natCast_add,Int.add_mul]
  omega
theorem atk (t:UInt16) (d:bt) (hf:sv (db t) t d=true) (hn:k6 d.names=0):H4 (db t) t d=((mj t d).length:Int):=by
 have hk:=Co t
 have h1:=Vu t (zn t) d.nums
 have h2:=Vv hn
 have h3:=T7 t d.texts 0
 unfold H4 mj
 change ((vo t d).length:Int)=_ at h1
 change (sf d).length=_ at h2
 change (qp t d).length=_ at h3
 split
 ·rename_i h6
  rw [← Xn] at hf
  unfold Eg at hf
  split at hf
  ·cases hf
  ·rename_i hb
   unfold pq at hb
   have e1:d.texts=[]:=List.eq_nil_of_length_eq_zero (by omega)
   rw [e1]
   rw [List.length_append]
   have:ye t 0 []=0:=rfl
   omega
 ·simp only [List.length_append]
  omega
set_option maxHeartbeats 4000000 in
theorem aam (t:UInt16) (d:bt) (hd:cy d):wl PP [rOf,aBk,Td,azr] 0 (Tryz.f126.body.getD .skip) (da PP Tryz.f126.results.toList (fun r st=>(r1 (bh .i64)).get true st.h r=some (dw t d))) (cj 0 [cg.val false t,aq.val false d]) (bj []):=by
 have hs:=zn t
 have hl:=hd.lens
 have h257:Tz (db t) t:=fun e=>by have:=Co t;omega
 have hsz:=atk t d
 unfold Tryz.f126
 simp only [gw,cr]
 simp only [↓wR,RA,simprocAttr,TF,ae,aeo,uu]
 unfold dw
 rw [di];refine ⟨fun hb=>?_,fun hb=>?_⟩
 ·have hb':mn t=true:=by simpa using hb
  rw [if_pos hb']
  simp only [↓wR,RA,simprocAttr,TF,ae,hb]
 have hb':mn t=false:=by simpa using hb
 rw [if_neg (by rw [hb'];decide)]
 simp only [↓wR,RA,simprocAttr,TF,ae,hb,ir,Ze,Mv,hd,h257,Xn]
 rw [di];refine ⟨fun hf=>?_,fun hf=>?_⟩
 ·rw [if_pos (by simpa using hf)]
  simp only [↓wR,RA,simprocAttr,TF,ae,hf]
 have hf':sv (db t) t d=true:=by simpa using hf
 rw [if_neg (by rw [hf'];decide)]
 simp only [↓wR,RA,simprocAttr,TF,ae,hf]
 refine c7 [0,3,5,7] (fun (i:Nat)=>[.sc (.int .u16 t.toNat),.ptr 0 0,.ptr 1 0,.sc (.int .i64 (i))]) (fun _=>[some (.row [.vl false 1 (d.names.map (au.val false)),.vl false 1 (d.nums.map (cw.val false)),.vl false 1 (d.texts.map (aj.val false)),.vl false 1 (d.raw.map (bu.val false))] 0 2 101),some (.row [.sc (.int .i64 (db t).names),.sc (.int .i64 (db t).nums),.sc (.int .i64 (db t).texts),.sc (.int .i64 (db t).raw),.sc (.int .i64 (db t).size)] 0 2 183)]) (fun i=>i≤d.names.length∧k6 d.names=k6 (d.names.drop i)) (fun i=>d.names.length - i) 0 ⟨Nat.zero_le _,rfl⟩ (by simp only [↓wR,RA,simprocAttr,TF,ae]<;>rfl) (by simp only [↓wR,RA,simprocAttr,TF,ae]<;>rfl) ?_
 rintro i ⟨hi,hx⟩
 simp only [↓wR,RA,simprocAttr,TF,ae]
 rw [aw];refine ⟨fun h=>?_,fun h=>?_⟩
 ·obtain ⟨c,hc,hd1,hlt⟩:=dx (decide_eq_true h)
  rw [Pv hd1] at hx
  simp only [↓wR,RA,simprocAttr,TF,ae,h,hc,zg,(hd.name c (List.mem_of_getElem? hc)).fit]
  rw [di];refine ⟨fun h1=>?_,fun h1=>?_⟩
  ·have he:du c≠0:=by simpa using h1
   rw [if_pos he] at hx
   rw [if_pos (by rw [hx];exact he),hx]
   simp only [↓wR,RA,simprocAttr,TF,ae,h1]
  ·have he:du c=0:=by simpa using h1
   rw [if_neg (by omega)] at hx
   simp only [↓wR,RA,simprocAttr,TF,ae,h1];repeat (simp (disch:=omega) only [ag,bf,bg,be,bb];try simp only [↓wR,RA,simprocAttr,TF,ae,h1])
   exact ⟨i+1,⟨hlt,hx⟩,by omega,by (first|rfl|trivial|omega|((try (simp (disch:=omega) only [ag]));(try (simp only [FB]));first|done|rfl|omega))⟩
 rw [fl (decide_eq_false h)] at hx
 have hx0:k6 d.names=0:=hx
 rw [if_neg (by rw [hx];decide)]
 simp only [↓wR,RA,simprocAttr,TF,ae,h,ir,Ze,H9,hd,hs,hsz hf' hx0]
 rw [aw];refine ⟨fun h2=>?_,fun h2=>?_⟩
 ·rw [if_pos (by omega)]
  simp only [↓wR,RA,simprocAttr,TF,ae,h2]
 ·rw [if_neg (by omega)]
  simp only [↓wR,RA,simprocAttr,TF,ae,h2]
noncomputable def m6 (x:UInt16 × bt × Unit):Option AV:=if cy x.2.1 then some ((r1 (bh .i64)).E true (dw x.1 x.2.1)) else none
set_option maxRecDepth 2000000 in
theorem vm (x:UInt16 × bt × Unit) (r:AV) (h:m6 x=some r):bk PP 126 ((aC cg (aC aq a0)).E x) r:=by
 by_cases hc:cy x.2.1
 case neg=>simp only [m6,if_neg hc] at h;cases h
 simp only [m6,if_pos hc] at h
 cases h
 exact ay (ar.cons (ak Rn) (ar.cons (ak aoc) (ar.cons (ak Cu) (ar.cons (ak ahw) (ar.nil PP))))) Tryz.func126 (by kernel_rfl) (by kernel_rfl) (by kernel_rfl) (Nat.le_of_ble_eq_true (by kernel_rfl)) (r1 (bh .i64)) true (dw x.1 x.2.1) (aam x.1 x.2.1 hc)
noncomputable abbrev D8:Nat × Bool × (List AV→M AV):=(126,true,c8 (aC cg (aC aq a0)) m6)
theorem aa7 (n:Name) (hn:bw n):wl PP [Td] 0 (Tryz.f190.body.getD .skip) (da PP Tryz.f190.results.toList (fun r st=>(r2 (cq bu) (bh .i64)).get true st.h r=some (k7 n,du n))) (cj 0 [au.val false n]) (bj []):=by
 unfold Tryz.f190
 simp only [cr]
 have hln:=hn.lt
 simp only [↓wR,RA,simprocAttr,TF,ae,zg,hn.fit]
 rw [di];refine ⟨fun h=>?_,fun h=>?_⟩
 ·have he:du n≠0:=by simpa using h
  have hb:k7 n=[]:=if_pos he
  simp only [↓wR,RA,simprocAttr,TF,ae,h,hb]
 have he:du n=0:=by simpa using h
 have hb:k7 n=nameBytes n:=if_neg (by omega)
 rw [hb,he]
 simp only [↓wR,RA,simprocAttr,TF,ae,h]
 refine fj [0,6,5] (fun (x:Nat × List UInt8)=>[.vl false 1 (n.map (aj.val false)),.sc (.int .i64 x.1),.sl 0 0 x.2.length 1]) (fun x=>[some (.row (x.2.map (bu.val false)) 0 0 5)]) (fun x=>x.2++(n.drop x.1).flatMap il=n.flatMap il∧x.1≤n.length) (fun x=>n.length - x.1) (0,[]) ⟨rfl,Nat.zero_le _⟩ (by simp only [↓wR,RA,simprocAttr,TF,ae];(refine ji.lax [] (by first|exact Nat.le_of_ble_eq_true rfl|(simp [dk];omega)) ?_ ?_<;>repeat' first|exact ef.nil|exact b9.nil|exact fe.same _|exact fe.nil _ _ _|exact fe.lu _ _|exact b9.refl _ _|apply ef.cons|apply b9.ghost|apply b9.same|apply b9.row)) ?_
 rintro ⟨i,x⟩ ⟨hR,hx⟩
 simp only at hR hx
 have hnb:=ur n
 have hsm:=K3 he
 simp only [↓wR,RA,simprocAttr,TF,ae]
 rw [aw];refine ⟨fun h2=>?_,fun h2=>?_⟩
 ·obtain ⟨c,hc,hd,hlt⟩:=dx (decide_eq_true h2)
  rw [hd,List.flatMap_cons] at hR
  have hl:x.length+(il c).length≤(n.flatMap il).length:=by rw [← hR];simp
  rw [Bv] at hl
  simp only [↓wR,RA,simprocAttr,TF,ae,h2,hc];repeat (simp (disch:=omega) only [ag,bf,bg,be,bb];try simp only [↓wR,RA,simprocAttr,TF,ae,h2,hc])
  refine ⟨(i+1,x++il c),⟨by rw [← hR];simp,hlt⟩,by simp;omega,?_,by simp only [il,List.map_append,List.map_cons,List.append_assoc,List.singleton_append,C9]⟩
  simp only [List.cons.injEq,and_true,true_and,AV.sc.injEq,Value.int.injEq,AV.sl.injEq,il,List.length_append,List.length_cons]
  refine ⟨by (try simp (disch:=omega) only [ag,bf,bg,be,bb]);simp,by simp;omega⟩
 ·rw [fl (decide_eq_false h2)] at hR
  obtain rfl:x=n.flatMap il:=by simpa using hR
  have hcl:(n.flatMap il).length≤16777216:=by unfold bw at hn;omega
  simp only [↓wR,RA,simprocAttr,TF,ae,h2];repeat (simp (disch:=omega) only [ag,bf,bg,be,bb];try simp only [↓wR,RA,simprocAttr,TF,ae,h2])
  rfl
noncomputable def qk (x:Name × Unit):Option AV:=if bw x.1 then some ((r2 (cq bu) (bh .i64)).E true ((k7 x.1,du x.1))) else none
set_option maxRecDepth 2000000 in
theorem S0 (x:Name × Unit) (r:AV) (h:qk x=some r):bk PP 190 ((aC au a0).E x) r:=by
 by_cases hc:bw x.1
 case neg=>simp only [qk,if_neg hc] at h;cases h
 simp only [qk,if_pos hc] at h
 cases h
 exact ay (ar.cons (ak Cu) (ar.nil PP)) Tryz.func190 (by kernel_rfl) (by kernel_rfl) (by kernel_rfl) (Nat.le_of_ble_eq_true (by kernel_rfl)) (r2 (cq bu) (bh .i64)) true ((k7 x.1,du x.1)) (aa7 x.1 hc)
noncomputable abbrev anj:Nat × Bool × (List AV→M AV):=(190,true,c8 (aC au a0) qk)
theorem aAt {t:UInt16} {d:bt} (h:dw t d=0):(t.toNat:Int)=6→d.names.length=2∧d.texts=[]∧d.raw=[]:=by
 intro h6
 unfold dw at h
 split at h
 ·cases h
 split at h
 ·cases h
 rename_i hf
 have hf':sv (db t) t d=true:=by cases hx:sv (db t) t d with|true=>rfl|false=>exact absurd hx hf
 rw [← Xn] at hf'
 have hk:=Co t
 have hn:(db t).names=2:=by unfold db;rw [if_neg (by omega),if_neg (by omega),if_neg (by omega),if_neg (by omega),if_neg (by omega),if_pos h6]
 unfold Eg at hf'
 split at hf'
 ·cases hf'
 ·rename_i hb
  unfold pq at hb
  exact ⟨by omega,List.eq_nil_of_length_eq_zero (by omega),List.eq_nil_of_length_eq_zero (by omega)⟩
noncomputable def Na (t:UInt16) (d:bt):List UInt8:=if (t.toNat:Int)=6 then sf d else []
noncomputable def aeq (t:UInt16) (d:bt):List UInt8:=if (t.toNat:Int)=6 then [] else sf d
theorem atw {t:UInt16} {d:bt} (h:(t.toNat:Int)=6→d.texts=[]∧d.raw=[]):mj t d=Na t d++vo t d++aeq t d++qp t d++d.raw:=by
 unfold mj Na aeq
 split
 ·rename_i h6
  obtain ⟨e1,e2⟩:=h h6
  have:qp t d=[]:=by unfold qp;rw [e1];rfl
  rw [this,e2];simp
 ·simp
set_option maxHeartbeats 8000000 in
theorem aq7 (t:UInt16) (d:bt) (hd:cy d) (h0:dw t d=0):wl PP [rOf,anj,ayq] 0 (Tryz.f167.body.getD .skip) (da PP Tryz.f167.results.toList (fun r st=>(r1 (cq bu)).get true st.h r=some (mj t d))) (cj 0 [cg.val false t,aq.val false d]) (bj []):=by
 have hsoa:=aAt h0
 have hl:=hd.lens
 have hk:=hd.written t
 have hs:=zn t
 have hpl:(Na t d).length≤16777216:=by unfold Na;split;exact hk.2.1;simp
 have hml:(aeq t d).length≤16777216:=by unfold aeq;split;simp;exact hk.2.1
 rw [atw (fun e=>(hsoa e).2)]
 unfold Tryz.f167
 simp only [gw,cr]
 simp only [↓wR,RA,simprocAttr,TF,ae,aeo,uu]
 rw [cp];refine ⟨fun ⟨h6,e6⟩=>?_,fun ⟨h6,e6⟩=>?_⟩
 simp only [↓wR,RA,simprocAttr,TF,ae,h6]
 have hn2:=(hsoa e6).1
 refine fj [0,3,5,8,7] (fun (x:Nat × List UInt8)=>[.sc (.int .u16 t.toNat),.ptr 0 0,.ptr 1 0,.sc (.int .i64 (x.1)),.sl 2 0 x.2.length 1]) (fun x=>[some (.row [.vl false 1 (d.names.map (au.val false)),.vl false 1 (d.nums.map (cw.val false)),.vl false 1 (d.texts.map (aj.val false)),.vl false 1 (d.raw.map (bu.val false))] 0 2 101),some (.row [.sc (.int .i64 (db t).names),.sc (.int .i64 (db t).nums),.sc (.int .i64 (db t).texts),.sc (.int .i64 (db t).raw),.sc (.int .i64 (db t).size)] 0 2 183),some (.row (x.2.map (bu.val false)) 0 0 5)]) (fun x=>x.1≤2∧x.2++(d.names.drop x.1).flatMap k7=sf d) (fun x=>2 - x.1) (0,[]) ⟨Nat.zero_le _,rfl⟩ (by simp only [↓wR,RA,simprocAttr,TF,ae];(refine ji.lax [] (by first|exact Nat.le_of_ble_eq_true rfl|(simp [dk];omega)) ?_ ?_<;>repeat' first|exact ef.nil|exact b9.nil|exact fe.same _|exact fe.nil _ _ _|exact fe.lu _ _|exact b9.refl _ _|apply ef.cons|apply b9.ghost|apply b9.same|apply b9.row)) ?_
 rintro ⟨i,x⟩ ⟨hi,hx⟩
 simp only at hi hx
 simp only [↓wR,RA,simprocAttr,TF,ae]
 rw [aw];refine ⟨fun h=>?_,fun h=>?_⟩
 ·obtain ⟨c,hc⟩:∃ c,d.names[i]? = some c:=⟨_,List.getElem?_eq_getElem (by omega)⟩
  have hd1:=Ce hc
  rw [Au _ hd1] at hx
  have hxl:x.length+(k7 c).length≤(sf d).length:=by rw [← hx];simp
  simp only [↓wR,RA,simprocAttr,TF,ae,h,hc,qk,hd.name c (List.mem_of_getElem? hc)];repeat (simp (disch:=omega) only [ag,bf,bg,be,bb];try simp only [↓wR,RA,simprocAttr,TF,ae,h,hc,qk,hd.name c (List.mem_of_getElem? hc)])
  exact ⟨(i+1,x++k7 c),⟨by omega,by rw [List.append_assoc];exact hx⟩,by simp;omega,by (first|rfl|trivial|omega|((try (simp (disch:=omega) only [ag]));(try (simp only [FB]));first|done|rfl|omega)),by (first|rfl|trivial|omega|((try (simp (disch:=omega) only [ag]));(try (simp only [FB]));first|done|rfl|omega))⟩
 have hi2:d.names.drop i=[]:=List.drop_eq_nil_of_le (by omega)
 rw [hi2] at hx
 have hxe:Na t d=x:=by unfold Na;rw [if_pos e6];simpa using hx.symm
 obtain ⟨y1,hy1⟩:∃ y1,y1=x++vo t d:=⟨_,rfl⟩
 rw [hxe] at hpl ⊢
 rw [← hy1]
 have hyl:y1.length≤83886080:=by rw [hy1,List.length_append];omega
 simp only [↓wR,RA,simprocAttr,TF,ae,h]
 refine fj [0,3,5,11,7] (fun (x:Nat × List UInt8)=>[.sc (.int .u16 t.toNat),.ptr 0 0,.ptr 1 0,.sc (.int .i64 (x.1)),.sl 2 0 x.2.length 1]) (fun x=>[some (.row [.vl false 1 (d.names.map (au.val false)),.vl false 1 (d.nums.map (cw.val false)),.vl false 1 (d.texts.map (aj.val false)),.vl false 1 (d.raw.map (bu.val false))] 0 2 101),some (.row [.sc (.int .i64 (db t).names),.sc (.int .i64 (db t).nums),.sc (.int .i64 (db t).texts),.sc (.int .i64 (db t).raw),.sc (.int .i64 (db t).size)] 0 2 183),some (.row (x.2.map (bu.val false)) 0 0 5)]) (fun x=>x.1≤d.nums.length∧x.2++(d.nums.drop x.1).flatMap (A4 t)=y1) (fun x=>d.nums.length - x.1) (0,x) ⟨Nat.zero_le _,hy1.symm⟩ (by simp only [↓wR,RA,simprocAttr,TF,ae];(refine ji.lax [] (by first|exact Nat.le_of_ble_eq_true rfl|(simp [dk];omega)) ?_ ?_<;>repeat' first|exact ef.nil|exact b9.nil|exact fe.same _|exact fe.nil _ _ _|exact fe.lu _ _|exact b9.refl _ _|apply ef.cons|apply b9.ghost|apply b9.same|apply b9.row)) ?_
 clear hx h hi hi2 h6 hxe
 rotate_left
 simp only [↓wR,RA,simprocAttr,TF,ae,h6]
 have hxe:Na t d=[]:=by unfold Na;rw [if_neg e6]
 obtain ⟨y1,hy1⟩:∃ y1,y1=[]++vo t d:=⟨_,rfl⟩
 rw [hxe,← hy1]
 have hyl:y1.length≤83886080:=by rw [hy1,List.nil_append];omega
 refine fj [0,3,5,11,7] (fun (x:Nat × List UInt8)=>[.sc (.int .u16 t.toNat),.ptr 0 0,.ptr 1 0,.sc (.int .i64 (x.1)),.sl 2 0 x.2.length 1]) (fun x=>[some (.row [.vl false 1 (d.names.map (au.val false)),.vl false 1 (d.nums.map (cw.val false)),.vl false 1 (d.texts.map (aj.val false)),.vl false 1 (d.raw.map (bu.val false))] 0 2 101),some (.row [.sc (.int .i64 (db t).names),.sc (.int .i64 (db t).nums),.sc (.int .i64 (db t).texts),.sc (.int .i64 (db t).raw),.sc (.int .i64 (db t).size)] 0 2 183),some (.row (x.2.map (bu.val false)) 0 0 5)]) (fun x=>x.1≤d.nums.length∧x.2++(d.nums.drop x.1).flatMap (A4 t)=y1) (fun x=>d.nums.length - x.1) (0,[]) ⟨Nat.zero_le _,hy1.symm⟩ (by simp only [↓wR,RA,simprocAttr,TF,ae];(refine ji.lax [] (by first|exact Nat.le_of_ble_eq_true rfl|(simp [dk];omega)) ?_ ?_<;>repeat' first|exact ef.nil|exact b9.nil|exact fe.same _|exact fe.nil _ _ _|exact fe.lu _ _|exact b9.refl _ _|apply ef.cons|apply b9.ghost|apply b9.same|apply b9.row)) ?_
 clear h6 hxe
 all_goals
  clear hy1 hpl
  rintro ⟨i,x⟩ ⟨hi,hx⟩
  simp only at hi hx
  simp only [↓wR,RA,simprocAttr,TF,ae]
  rw [aw];refine ⟨fun h=>?_,fun h=>?_⟩
  ·obtain ⟨c,hc,hd1,hlt⟩:=dx (decide_eq_true h)
   rw [Au _ hd1] at hx
   have hxl:x.length+(A4 t c).length≤y1.length:=by rw [← hx];simp
   simp only [↓wR,RA,simprocAttr,TF,ae,h]
   refine ⟨by kernel_rfl,.inl ?_⟩
   simp only [↓wR,RA,simprocAttr,TF,ae,hc,Bn,hs,On];repeat (simp (disch:=omega) only [ag,bf,bg,be,bb];try simp only [↓wR,RA,simprocAttr,TF,ae,hc,Bn,hs,On])
   refine ⟨by kernel_rfl,?_⟩
   exact ⟨(i+1,x++A4 t c),⟨hlt,by rw [List.append_assoc];exact hx⟩,by simp;omega,by (first|rfl|trivial|omega|((try (simp (disch:=omega) only [ag]));(try (simp only [FB]));first|done|rfl|omega)),by (first|rfl|trivial|omega|((try (simp (disch:=omega) only [ag]));(try (simp only [FB]));first|done|rfl|omega))⟩
  rw [fl (decide_eq_false h)] at hx
  obtain rfl:x=y1:=by simpa using hx
  clear hx
  simp only [↓wR,RA,simprocAttr,TF,ae,h]
  clear h hi
  obtain ⟨y2,hy2⟩:∃ y2,y2=x++aeq t d:=⟨_,rfl⟩
  have hyl2:y2.length≤100663296:=by rw [hy2,List.length_append];omega
  rw [← hy2]
  refine fj [0,3,12,7] (fun (x:Nat × List UInt8)=>[.sc (.int .u16 t.toNat),.ptr 0 0,.sc (.int .i64 (x.1)),.sl 1 0 x.2.length 1]) (fun x=>[some (.row [.vl false 1 (d.names.map (au.val false)),.vl false 1 (d.nums.map (cw.val false)),.vl false 1 (d.texts.map (aj.val false)),.vl false 1 (d.raw.map (bu.val false))] 0 2 101),some (.row (x.2.map (bu.val false)) 0 0 5)]) (fun p=>p.1≤d.names.length∧p.2++(if (t.toNat:Int)=6 then [] else (d.names.drop p.1).flatMap k7)=y2) (fun p=>d.names.length - p.1) (0,x) ⟨Nat.zero_le _,hy2.symm⟩ (by simp only [↓wR,RA,simprocAttr,TF,ae];(refine ji.lax [] (by first|exact Nat.le_of_ble_eq_true rfl|(simp [dk];omega)) ?_ ?_<;>repeat' first|exact ef.nil|exact b9.nil|exact fe.same _|exact fe.nil _ _ _|exact fe.lu _ _|exact b9.refl _ _|apply ef.cons|apply b9.ghost|apply b9.same|apply b9.row)) ?_
  clear hy2 hyl
  rintro ⟨i,z⟩ ⟨hi,hz⟩
  simp only at hi hz
  simp only [↓wR,RA,simprocAttr,TF,ae]
  rw [c9];refine ⟨fun ⟨h7,e7⟩=>?_,fun ⟨h7,e7⟩=>?_⟩
  all_goals try exact absurd e6 e7
  all_goals try exact absurd e7 e6
  first
   |(
    rw [if_pos e7] at hz
    obtain rfl:z=y2:=by simpa using hz
    simp only [↓wR,RA,simprocAttr,TF,ae,h7])
   |(
    rw [if_neg e7] at hz
    simp only [↓wR,RA,simprocAttr,TF,ae,h7]
    rw [aw];refine ⟨fun h8=>?_,fun h8=>?_⟩
    ·obtain ⟨c,hc,hd1,hlt⟩:=dx (decide_eq_true h8)
     rw [Au _ hd1] at hz
     have hxl:z.length+(k7 c).length≤y2.length:=by rw [← hz];simp
     simp only [↓wR,RA,simprocAttr,TF,ae,h8,hc,qk,hd.name c (List.mem_of_getElem? hc)];repeat (simp (disch:=omega) only [ag,bf,bg,be,bb];try simp only [↓wR,RA,simprocAttr,TF,ae,h8,hc,qk,hd.name c (List.mem_of_getElem? hc)])
     exact ⟨(i+1,z++k7 c),⟨hlt,by rw [if_neg e7,List.append_assoc];exact hz⟩,by simp;omega,by (first|rfl|trivial|omega|((try (simp (disch:=omega) only [ag]));(try (simp only [FB]));first|done|rfl|omega)),by (first|rfl|trivial|omega|((try (simp (disch:=omega) only [ag]));(try (simp only [FB]));first|done|rfl|omega))⟩
    rw [fl (decide_eq_false h8)] at hz
    obtain rfl:z=y2:=by simpa using hz
    simp only [↓wR,RA,simprocAttr,TF,ae,h8])
  clear hz hi
  obtain ⟨y3,hy3⟩:∃ y3,y3=z++qp t d:=⟨_,rfl⟩
  have hyl3:y3.length≤117440512:=by rw [hy3,List.length_append];omega
  rw [← hy3]
  refine fj [0,3,15,7] (fun (x:Nat × List UInt8)=>[.sc (.int .u16 t.toNat),.ptr 0 0,.sc (.int .i64 (x.1)),.sl 1 0 x.2.length 1]) (fun x=>[some (.row [.vl false 1 (d.names.map (au.val false)),.vl false 1 (d.nums.map (cw.val false)),.vl false 1 (d.texts.map (aj.val false)),.vl false 1 (d.raw.map (bu.val false))] 0 2 101),some (.row (x.2.map (bu.val false)) 0 0 5)]) (fun p=>p.1≤d.texts.length∧p.2++ow t p.1 (d.texts.drop p.1)=y3) (fun p=>d.texts.length - p.1) (0,z) ⟨Nat.zero_le _,hy3.symm⟩ (by simp only [↓wR,RA,simprocAttr,TF,ae];(refine ji.lax [] (by first|exact Nat.le_of_ble_eq_true rfl|(simp [dk];omega)) ?_ ?_<;>repeat' first|exact ef.nil|exact b9.nil|exact fe.same _|exact fe.nil _ _ _|exact fe.lu _ _|exact b9.refl _ _|apply ef.cons|apply b9.ghost|apply b9.same|apply b9.row)) ?_
  clear hy3 hyl2
  rintro ⟨i,x⟩ ⟨hi,hx⟩
  simp only at hi hx
  simp only [↓wR,RA,simprocAttr,TF,ae]
  rw [aw];refine ⟨fun h=>?_,fun h=>?_⟩
  ·obtain ⟨c,hc,hd1,hlt⟩:=dx (decide_eq_true h)
   rw [Yw _ hd1] at hx
   have hxl:x.length+((if (t.toNat:Int)=16∨i=0 then [UInt8.ofNat c.size] else []).length+c.size)≤y3.length:=by rw [← hx];simp
   have hcs:c.data.toList.length=c.size:=by simp
   have fin:∀ b:List UInt8,x++(b++c.data.toList++ow t (i+1) (d.texts.drop (i+1)))=y3→x++b++c.data.toList++ow t (i+1) (d.texts.drop (i+1))=y3:=fun b hb=>by rw [← hb];simp
   simp only [↓wR,RA,simprocAttr,TF,ae,h,hc];repeat (simp (disch:=omega) only [ag,bf,bg,be,bb];try simp only [↓wR,RA,simprocAttr,TF,ae,h,hc])
   rw [cp];refine ⟨fun ⟨h16,e16⟩=>?_,fun ⟨h16,e16⟩=>?_⟩
   ·rw [if_pos (.inl e16)] at hx hxl
    simp only [List.length_cons,List.length_nil] at hxl
    simp only [↓wR,RA,simprocAttr,TF,ae,h16,hc];repeat (simp (disch:=omega) only [ag,bf,bg,be,bb];try simp only [↓wR,RA,simprocAttr,TF,ae,h16,hc])
    exact ⟨(i+1,x++[UInt8.ofNat c.size]++c.data.toList),⟨hlt,fin _ hx⟩,by simp;omega,by (first|rfl|trivial|omega|((try (simp (disch:=omega) only [ag]));(try (simp only [FB]));first|done|rfl|omega)),by (first|rfl|trivial|omega|((try (simp (disch:=omega) only [ag]));(try (simp only [FB]));first|done|rfl|omega))⟩
   ·simp only [↓wR,RA,simprocAttr,TF,ae,h16];repeat (simp (disch:=omega) only [ag,bf,bg,be,bb];try simp only [↓wR,RA,simprocAttr,TF,ae,h16])
    rw [cp];refine ⟨fun ⟨h0,e0⟩=>?_,fun ⟨h0,e0⟩=>?_⟩
    ·rw [if_pos (.inr (by omega))] at hx hxl
     simp only [List.length_cons,List.length_nil] at hxl
     simp only [↓wR,RA,simprocAttr,TF,ae,h0,hc];repeat (simp (disch:=omega) only [ag,bf,bg,be,bb];try simp only [↓wR,RA,simprocAttr,TF,ae,h0,hc])
     exact ⟨(i+1,x++[UInt8.ofNat c.size]++c.data.toList),⟨hlt,fin _ hx⟩,by simp;omega,by (first|rfl|trivial|omega|((try (simp (disch:=omega) only [ag]));(try (simp only [FB]));first|done|rfl|omega)),by (first|rfl|trivial|omega|((try (simp (disch:=omega) only [ag]));(try (simp only [FB]));first|done|rfl|omega))⟩
    ·rw [if_neg (by omega)] at hx hxl
     simp only [List.length_nil] at hxl
     simp only [↓wR,RA,simprocAttr,TF,ae,h0,hc];repeat (simp (disch:=omega) only [ag,bf,bg,be,bb];try simp only [↓wR,RA,simprocAttr,TF,ae,h0,hc])
     exact ⟨(i+1,x++c.data.toList),⟨hlt,by have:=fin _ hx;simpa using this⟩,by simp;omega,by (first|rfl|trivial|omega|((try (simp (disch:=omega) only [ag]));(try (simp only [FB]));first|done|rfl|omega)),by (first|rfl|trivial|omega|((try (simp (disch:=omega) only [ag]));(try (simp only [FB]));first|done|rfl|omega))⟩
  rw [fl (decide_eq_false h)] at hx
  obtain rfl:x=y3:=by simpa [ow] using hx
  clear hx
  simp only [↓wR,RA,simprocAttr,TF,ae,h];repeat (simp (disch:=omega) only [ag,bf,bg,be,bb];try simp only [↓wR,RA,simprocAttr,TF,ae,h])
noncomputable def It (x:UInt16 × bt × Unit):Option AV:=if cy x.2.1∧dw x.1 x.2.1=0 then some ((r1 (cq bu)).E true (mj x.1 x.2.1)) else none
set_option maxRecDepth 2000000 in
theorem aja (x:UInt16 × bt × Unit) (r:AV) (h:It x=some r):bk PP 167 ((aC cg (aC aq a0)).E x) r:=by
 by_cases hc:cy x.2.1∧dw x.1 x.2.1=0
 case neg=>simp only [It,if_neg hc] at h;cases h
 simp only [It,if_pos hc] at h
 cases h
 exact ay (ar.cons (ak Rn) (ar.cons (ak S0) (ar.cons (ak adt) (ar.nil PP)))) Tryz.func167 (by kernel_rfl) (by kernel_rfl) (by kernel_rfl) (Nat.le_of_ble_eq_true (by kernel_rfl)) (r1 (cq bu)) true (mj x.1 x.2.1) (aq7 x.1 x.2.1 hc.1 hc.2)
noncomputable abbrev azg:Nat × Bool × (List AV→M AV):=(167,true,c8 (aC cg (aC aq a0)) It)
theorem aq1 (t:UInt16):wl PP [] 0 (Tryz.f111.body.getD .skip) (da PP Tryz.f111.results.toList (fun r st=>(r1 bo).get true st.h r=some false)) (cj 0 [cg.val false t]) (bj []):=by
 unfold Tryz.f111
 simp only [↓wR,RA,simprocAttr,TF,ae,bne_self_eq_false]
noncomputable def Wr (x:UInt16 × Unit):Option AV:=some ((r1 bo).E true (false))
set_option maxRecDepth 2000000 in
theorem aic (x:UInt16 × Unit) (r:AV) (h:Wr x=some r):bk PP 111 ((aC cg a0).E x) r:=by
 cases h
 exact ay (ar.nil PP) Tryz.func111 (by kernel_rfl) (by kernel_rfl) (by kernel_rfl) (Nat.le_of_ble_eq_true (by kernel_rfl)) (r1 bo) true (false) (aq1 x.1)
noncomputable abbrev azh:Nat × Bool × (List AV→M AV):=(111,true,c8 (aC cg a0) Wr)
theorem axt (a b:UInt16):wl PP [azh] 0 (Tryz.f60.body.getD .skip) (da PP Tryz.f60.results.toList (fun r st=>(r1 (bh .i64)).get true st.h r=some (ti a b))) (cj 0 [cg.val false a,cg.val false b]) (bj []):=by
 unfold Tryz.f60
 unfold ti
 simp only [↓wR,RA,simprocAttr,TF,ae,Wr]
 rw [aw];refine ⟨fun h=>?_,fun h=>?_⟩
 ·rw [if_pos h]
  simp only [↓wR,RA,simprocAttr,TF,ae,h]
 ·rw [if_neg h]
  simp only [↓wR,RA,simprocAttr,TF,ae,h]
  rw [aw];refine ⟨fun h2=>?_,fun h2=>?_⟩
  ·rw [if_pos h2]
   simp only [↓wR,RA,simprocAttr,TF,ae,h2]
  ·rw [if_neg h2]
   simp only [↓wR,RA,simprocAttr,TF,ae,h2]
noncomputable def ac5 (x:UInt16 × UInt16 × Unit):Option AV:=some ((r1 (bh .i64)).E true (ti x.1 x.2.1))
set_option maxRecDepth 2000000 in
theorem aou (x:UInt16 × UInt16 × Unit) (r:AV) (h:ac5 x=some r):bk PP 60 ((aC cg (aC cg a0)).E x) r:=by
 cases h
 exact ay (ar.cons (ak aic) (ar.nil PP)) Tryz.func60 (by kernel_rfl) (by kernel_rfl) (by kernel_rfl) (Nat.le_of_ble_eq_true (by kernel_rfl)) (r1 (bh .i64)) true (ti x.1 x.2.1) (axt x.1 x.2.1)
noncomputable abbrev aBd:Nat × Bool × (List AV→M AV):=(60,true,c8 (aC cg (aC cg a0)) ac5)
noncomputable def xy (a b:az):Int:=zi [nr a.owner b.owner,ti a.type b.type,ti a.cls b.cls]
theorem aid (a b:az) (ha:cd a) (hb:cd b):wl PP [Qg,awf,aBd,orC] 0 (Tryz.f56.body.getD .skip) (da PP Tryz.f56.results.toList (fun r st=>(r1 (bh .i64)).get true st.h r=some (xy a b))) (cj 0 [ah.val false a,ah.val false b]) (bj []):=by
 have hq:∀ a b c d,dz a b c=d→dz a b c=d:=fun _ _ _ _ h=>h
 unfold Tryz.f56
 simp only [fu]
 simp only [↓wR,RA,simprocAttr,TF,ae]
 refine ⟨by kernel_rfl,.inl ?_⟩
 simp only [↓wR,RA,simprocAttr,TF,ae,tc,Ui,ac5,Wx,ha.owner,hb.owner]
 exact ⟨by apply hq;kernel_rfl,rfl⟩
noncomputable def l6 (x:az × az × Unit):Option AV:=if cd x.1∧cd x.2.1 then some ((r1 (bh .i64)).E true (xy x.1 x.2.1)) else none
set_option maxRecDepth 2000000 in
theorem Kq (x:az × az × Unit) (r:AV) (h:l6 x=some r):bk PP 56 ((aC ah (aC ah a0)).E x) r:=by
 by_cases hc:cd x.1∧cd x.2.1
 case neg=>simp only [l6,if_neg hc] at h;cases h
 simp only [l6,if_pos hc] at h
 cases h
 exact ay (ar.cons (ak Fq) (ar.cons (ak V1) (ar.cons (ak aou) (ar.cons (ak age) (ar.nil PP))))) Tryz.func56 (by kernel_rfl) (by kernel_rfl) (by kernel_rfl) (Nat.le_of_ble_eq_true (by kernel_rfl)) (r1 (bh .i64)) true (xy x.1 x.2.1) (aid x.1 x.2.1 hc.1 hc.2)
noncomputable abbrev ab9:Nat × Bool × (List AV→M AV):=(56,true,c8 (aC ah (aC ah a0)) l6)
noncomputable def dy (a b:az):Bool:=decide (xy a b<0)
theorem Lx {a b:UInt16}:ti a b=0↔a.toNat=b.toNat:=by
 unfold ti;split
 ·constructor<;>intro h<;>omega
 ·split<;>constructor<;>intro h<;>omega
theorem ac1 {a b:UInt16}:ti a b<0↔a.toNat<b.toNat:=by
 unfold ti;split
 ·constructor<;>intro h<;>omega
 ·split<;>constructor<;>intro h<;>omega
theorem av3 {a b:az}:xy a b<0↔nr a.owner b.owner<0∨(er a.owner b.owner=true∧(a.type.toNat<b.type.toNat∨(a.type.toNat=b.type.toNat∧a.cls.toNat<b.cls.toNat))):=by
 unfold xy zi
 by_cases h:nr a.owner b.owner=0
 ·rw [if_neg (fun q=>q h)]
  have hs:=C8.1 h
  unfold zi
  by_cases h2:ti a.type b.type=0
  ·rw [if_neg (fun q=>q h2)]
   have h3:=Lx.1 h2
   unfold zi
   by_cases h4:ti a.cls b.cls=0
   ·have h5:=Lx.1 h4
    rw [if_neg (fun q=>q h4)]
    unfold zi
    constructor
    ·intro q;omega
    ·rintro (q|⟨_,q|q⟩)<;>omega
   ·rw [if_pos h4,ac1]
    constructor
    ·intro q;exact .inr ⟨hs,.inr ⟨h3,q⟩⟩
    ·rintro (q|⟨_,q|q⟩)<;>omega
  ·rw [if_pos h2,ac1]
   have h3:a.type.toNat≠b.type.toNat:=fun q=>h2 (Lx.2 q)
   constructor
   ·intro q;exact .inr ⟨hs,.inl q⟩
   ·rintro (q|⟨_,q|q⟩)<;>omega
 ·rw [if_pos h]
  constructor
  ·intro q;exact .inl q
  ·rintro (q|⟨q,_⟩)
   ·exact q
   ·exact (h (C8.2 q)).elim
theorem Tc {a b:Name} (h:er a b=true):er b a=true:=tu.2 (tu.1 h).symm
theorem aug {a b c:Name} (h:er a b=true) (k:er b c=true):er a c=true:=tu.2 ((tu.1 h).trans (tu.1 k))
theorem Ru (a b:Name):nr a b<0∨er a b=true∨nr b a<0:=by
 have h:=Gz a b
 by_cases h1:nr a b=0
 ·exact .inr (.inl (C8.1 h1))
 ·omega
theorem O2:ua dy (fun _=>True):=by
 have flip:∀ a b:az,xy a b<0→¬ xy b a<0:=by
  intro a b h k
  rw [av3] at h k
  have e:=Gz a.owner b.owner
  rcases h with h|⟨h,h'⟩<;>rcases k with k|⟨k,k'⟩
  ·omega
  ·have:=C8.2 k;omega
  ·have:=C8.2 h;omega
  ·omega
 refine ⟨fun x y _ _ h=>?_,fun x y z _ _ _ h k=>?_⟩
 ·unfold dy at *
  exact decide_eq_false (flip x y (of_decide_eq_true h))
 ·unfold dy at *
  have h:=of_decide_eq_false h
  have k:=of_decide_eq_false k
  refine decide_eq_false fun q=>?_
  rw [av3] at h k q
  rcases q with q|⟨q,q'⟩
  ·rcases Ru x.owner y.owner with e|e|e
   ·rcases Ru y.owner z.owner with f|f|f
    ·have:=an8 e f;have:=Gz z.owner x.owner;omega
    ·have:=Ta (a:=x.owner) f;have:=Gz z.owner x.owner;omega
    ·exact k (.inl f)
   ·rw [← Ta (a:=z.owner) (Tc e)] at q
    exact k (.inl q)
   ·exact h (.inl e)
  ·rcases Ru x.owner y.owner with e|e|e
   ·have h1:nr z.owner y.owner<0:=by rw [ai3 q];exact e
    exact k (.inl h1)
   ·have h1:er z.owner y.owner=true:=aug q e
    have h2:¬ (y.type.toNat<x.type.toNat∨y.type.toNat=x.type.toNat∧y.cls.toNat<x.cls.toNat):=fun p=>h (.inr ⟨Tc e,p⟩)
    have h3:¬ (z.type.toNat<y.type.toNat∨z.type.toNat=y.type.toNat∧z.cls.toNat<y.cls.toNat):=fun p=>k (.inr ⟨h1,p⟩)
    omega
   ·exact h (.inl e)
theorem oo:ua dy cd:=⟨fun x y _ _ h=>O2.al1 x y trivial trivial h,fun x y z _ _ _ h k=>O2.trans x y z trivial trivial trivial h k⟩
theorem ad8 (a b:bt) (s:az) (ha:cy a) (hb:cy b):wl PP [Cq] 0 (Tryz.f176.body.getD .skip) (da PP Tryz.f176.results.toList (fun r st=>(r1 (bh .i64)).get true st.h r=some (vj s.type a b))) (cj 0 [aq.val false a,aq.val false b,.fy (ah.cells false s)]) (bj []):=by
 have hq:∀ a b c d,dz a b c=d→dz a b c=d:=fun _ _ _ _ h=>h
 unfold Tryz.f176
 simp only [gw]
 simp only [↓wR,RA,simprocAttr,TF,ae,aah,l8,ha,hb]
noncomputable def l0 (x:bt × bt × az × Unit):Option AV:=if cy x.1∧cy x.2.1 then some ((r1 (bh .i64)).E true (vj x.2.2.1.type x.1 x.2.1)) else none
set_option maxRecDepth 2000000 in
theorem Ks (x:bt × bt × az × Unit) (r:AV) (h:l0 x=some r):bk PP 176 ((aC aq (aC aq (aP ah a0))).E x) r:=by
 by_cases hc:cy x.1∧cy x.2.1
 case neg=>simp only [l0,if_neg hc] at h;cases h
 simp only [l0,if_pos hc] at h
 cases h
 exact ay (ar.cons (ak yf) (ar.nil PP)) Tryz.func176 (by kernel_rfl) (by kernel_rfl) (by kernel_rfl) (Nat.le_of_ble_eq_true (by kernel_rfl)) (r1 (bh .i64)) true (vj x.2.2.1.type x.1 x.2.1) (ad8 x.1 x.2.1 x.2.2.1 hc.1 hc.2)
noncomputable abbrev ado:Nat × Bool × (List AV→M AV):=(176,true,c8 (aC aq (aC aq (aP ah a0))) l0)
noncomputable def eh (t:UInt16) (a b:bt):Bool:=decide (vj t a b<0)
def rh (t:UInt16) (d:bt):Prop:=cy d∧dw t d=0
theorem aa3 (s:ByteArray):i6 (fold s)=i6 s:=by unfold i6;rw [Gi]
theorem K9 (n:Name):du (fm n)=du n:=by
 have h:rm (fm n)=rm n:=by
  unfold rm fm
  rw [List.any_map]
  congr 1
  funext s
  simp only [Function.comp,aa3]
 unfold du
 rw [h,Bs]
theorem aaj (l:List Name):k6 (l.map fm)=k6 l:=by
 induction l with
 |nil=>rfl
 |cons a l ih=>simp only [List.map_cons,k6,K9,ih]
theorem ag1 (n:Name) (h:du n=0):(k7 n).length=ca n:=by
 unfold k7
 rw [if_neg (by omega)]
 unfold nameBytes
 rw [List.length_append,List.length_singleton,ur]
theorem Ky:∀ {l:List Name},k6 l=0→∀ n ∈ l,du n=0
 | [],_,n,h=>by cases h
 |a::l,e,n,h=>by
  rw [k6] at e
  split at e
  ·contradiction
  ·rename_i q
   rcases List.mem_cons.1 h with rfl|h
   ·omega
   ·exact Ky e n h
theorem at9 {l:List Name} (h:∀ n ∈ l,du n=0):((l.map fm).flatMap k7).length=(l.flatMap k7).length:=by
 induction l with
 |nil=>rfl
 |cons a l ih=>
  have ha:=h a List.mem_cons_self
  rw [List.map_cons,List.flatMap_cons,List.flatMap_cons,List.length_append,List.length_append,ih fun n hn=>h n (List.mem_cons_of_mem _ hn),ag1 _ (by rw [K9];exact ha),ag1 _ ha,Bs]
theorem Ab {t:UInt16} {d:bt} (h:dw t d=0):dw t (jg t d)=0:=by
 unfold jg
 split
 case isFalse=>exact h
 unfold dw at h ⊢
 split at h
 ·cases h
 rename_i h1
 split at h
 ·cases h
 rename_i h2
 split at h
 ·contradiction
 rename_i h3
 have h4:=Ky (Decidable.not_not.1 h3)
 rw [if_neg h1,if_neg (by
  unfold sv at h2 ⊢
  simpa only [List.length_map] using h2),if_neg (by rw [aaj];exact h3)]
 have h5:(mj t { d with names:=d.names.map fm }).length=(mj t d).length:=by
  unfold mj sf vo qp
  split<;>simp only [List.length_append,at9 h4]
 rw [h5];exact h
theorem Dj {t:UInt16} {a b:bt} (ha:dw t a=0) (hb:dw t b=0):vj t a b=J5 (nf t (jg t a)) (nf t (jg t b)):=by
 unfold vj
 rw [if_neg (by rw [Ab ha,Ab hb];simp)]
theorem oh (t:UInt16):ua (eh t) (rh t):=by
 refine ⟨fun x y hx hy h=>?_,fun x y z hx hy hz h k=>?_⟩
 ·unfold eh at *
  have h:=of_decide_eq_true h
  refine decide_eq_false fun q=>?_
  rw [Dj hx.2 hy.2] at h
  rw [Dj hy.2 hx.2] at q
  have:=Ii (nf t (jg t x)) (nf t (jg t y))
  unfold J5 at *
  omega
 ·unfold eh at *
  have h:=of_decide_eq_false h
  have k:=of_decide_eq_false k
  refine decide_eq_false fun q=>?_
  rw [Dj hy.2 hx.2] at h
  rw [Dj hz.2 hy.2] at k
  rw [Dj hz.2 hx.2] at q
  unfold J5 at *
  have f1:=Ii (nf t (jg t x)) (nf t (jg t y))
  have f2:=Ii (nf t (jg t y)) (nf t (jg t z))
  by_cases e:Lib.compareBytes (nf t (jg t x)) (nf t (jg t y))=0
  ·rw [Pc _ _ e] at q;exact k q
  ·have:=Sp _ _ _ q (show Lib.compareBytes (nf t (jg t x)) (nf t (jg t y))<0 by omega)
   exact k this
def V4 (l:List az):Bool:=l.all fun s=>!decide ((20:Int)<s.data.length)
def Lg (z:bp):Bool:=V4 z.ai && decide ((z.ai.length:Int)≤40)
theorem aAp (z:bp) (hz:bz z):wl PP [] 0 (Tryz.f20.body.getD .skip) (da PP Tryz.f20.results.toList (fun r st=>(r1 bo).get true st.h r=some (Lg z))) (cj 0 [br.val false z]) (bj []):=by
 have hl:=hz.len
 unfold Tryz.f20
 simp only [fq]
 simp only [↓wR,RA,simprocAttr,TF,ae]
 refine c7 [1,3] (fun (i:Nat)=>[.ptr 0 0,.sc (.int .i64 (i))]) (fun _=>[some (.row [.vl false 1 (z.origin.map (aj.val false)),.vl false 5 (z.ai.map (ah.val false))] 0 2 41)]) (fun i=>i≤z.ai.length∧V4 z.ai=V4 (z.ai.drop i)) (fun i=>z.ai.length - i) 0 ⟨Nat.zero_le _,rfl⟩ (by simp only [↓wR,RA,simprocAttr,TF,ae]<;>rfl) (by simp only [↓wR,RA,simprocAttr,TF,ae]<;>rfl) ?_
 rintro i ⟨hi,hx⟩
 simp only [↓wR,RA,simprocAttr,TF,ae]
 rw [aw];refine ⟨fun h=>?_,fun h=>?_⟩
 ·obtain ⟨c,hc,hd1,hlt⟩:=dx (decide_eq_true h)
  have hx':V4 z.ai=(!decide ((20:Int)<c.data.length) && V4 (z.ai.drop (i+1))):=by rw [hx,hd1];rfl
  simp only [↓wR,RA,simprocAttr,TF,ae,h,hc];repeat (simp (disch:=omega) only [ag,bf,bg,be,bb];try simp only [↓wR,RA,simprocAttr,TF,ae,h,hc])
  rw [aw];refine ⟨fun h2=>?_,fun h2=>?_⟩
  ·rw [decide_eq_true h2,Bool.not_true,Bool.false_and] at hx'
   simp only [↓wR,RA,simprocAttr,TF,ae,h2];repeat (simp (disch:=omega) only [ag,bf,bg,be,bb];try simp only [↓wR,RA,simprocAttr,TF,ae,h2])
   rw [Lg,hx'];rfl
  ·rw [decide_eq_false h2,Bool.not_false,Bool.true_and] at hx'
   simp only [↓wR,RA,simprocAttr,TF,ae,h2];repeat (simp (disch:=omega) only [ag,bf,bg,be,bb];try simp only [↓wR,RA,simprocAttr,TF,ae,h2])
   exact ⟨i+1,⟨hlt,hx'⟩,by omega,by (first|rfl|trivial|omega|((try (simp (disch:=omega) only [ag]));(try (simp only [FB]));first|done|rfl|omega))⟩
 ·rw [fl (decide_eq_false h)] at hx
  simp only [↓wR,RA,simprocAttr,TF,ae,h]
  rw [Lg,hx];rfl
noncomputable def Su (x:bp × Unit):Option AV:=if bz x.1 then some ((r1 bo).E true (Lg x.1)) else none
set_option maxRecDepth 2000000 in
theorem as0 (x:bp × Unit) (r:AV) (h:Su x=some r):bk PP 20 ((aC br a0).E x) r:=by
 by_cases hc:bz x.1
 case neg=>simp only [Su,if_neg hc] at h;cases h
 simp only [Su,if_pos hc] at h
 cases h
 exact ay (ar.nil PP) Tryz.func20 (by kernel_rfl) (by kernel_rfl) (by kernel_rfl) (Nat.le_of_ble_eq_true (by kernel_rfl)) (r1 bo) true (Lg x.1) (aAp x.1 hc)
noncomputable abbrev aAi:Nat × Bool × (List AV→M AV):=(20,true,c8 (aC br a0) Su)
noncomputable def ady (z:bp) (n:Name):Int:=if lg z≠0 then lg z else if du n≠0 then du n else if gq n z.origin=false then 2 else 0
def v5 (z:bp):Name→Name
 | []=>[]
 |a::r=>if aA3 z (a::r)=true then a::r else v5 z r
noncomputable def aol (z:bp) (n:Name):abc × Int:=
 if ady z n≠0 then (mkP 0 [] [],ady z n)
 else match qe z n with
  |some c=>(mkP 4 c [],0)
  |none=>
   if 0<(Vo z n).length then (mkP 1 n (v5 z n),0)
   else if (v5 z n).length=n.length then (mkP 2 [] (v5 z n),0)
   else if aA3 z (Ja::v5 z n)=true then (mkP 3 (Ja::v5 z n) (v5 z n),0)
   else (mkP 0 [] (v5 z n),0)
def si (l:List az):Prop:=gj jh l≤16777216
instance (l:List az):Decidable (si l):=inferInstanceAs (Decidable (_≤_))
theorem si.mem {l:List az} (h:si l):∀ s ∈ l,cd s:=fun s hs=>by
 have h1:jh s<gj jh l:=H6 hs
 unfold si at h;unfold cd;omega
theorem si.len {l:List az} (h:si l):l.length≤16777216:=Nat.le_trans (Et jh l) h
theorem bz.ai {z:bp} (h:bz z):si z.ai:=by unfold bz sy at h;unfold si;omega
def qd (l:List az):Prop:=l.length≤281474976710656∧∀ s ∈ l,cd s
instance (l:List az):Decidable (qd l):=inferInstanceAs (Decidable (_∧_))
theorem bz.mid {z:bp} (h:bz z):qd z.ai:=⟨Nat.le_trans h.ai.len (by decide),h.ai.mem⟩
def aBj (n:Name) (t:UInt16) (s:az):Bool:=decide ((s.type.toNat:Int)=t.toNat) && (decide ((s.cls.toNat:Int)=1) && er s.owner n)
def awe (l:List az) (n:Name) (t:UInt16):Option az:=l.find? (aBj n t)
def aA2:az:=Nb [] 0 0 0 []
theorem ji.arv {a9:Nat} {vs vs':List AV} {os os':List (Option bq)} (hp:a9≤1000) (hV:AV.dp.go (fun o=>idx (se a9 vs os) o 0) vs=vs') (hO:jd (bj os).h (fun o=>idx (se a9 vs os) o 0) (se a9 vs os)=os'):ji a9 vs os vs' os':=by
 subst hV hO;exact ji.canon hp
noncomputable def asm (z:bp) (n:Name) (t:UInt16):abc × Int:=
 if (aol z n).2=0∧((t.toNat:Int)=0∨(t.toNat:Int)=41) then (mkP 0 [] [],6) else aol z n
theorem amg {s:az} (h:py s=0):∀ d ∈ s.data,dw s.type d=0:=by
 have key:∀ (l pre:List bt),qv s.type pre l=0→∀ d ∈ l,dw s.type d=0:=by
  intro l
  induction l with
  |nil=>intro pre _ d hd;cases hd
  |cons a l ih=>
   intro pre h d hd
   rw [qv] at h
   split at h
   ·contradiction
   split at h
   ·cases h
   rcases List.mem_cons.1 hd with rfl|hd
   ·omega
   ·exact ih _ h d hd
 unfold py at h
 split at h
 ·contradiction
 split at h
 ·cases h
 split at h
 ·cases h
 exact key _ _ h
def aCf (n:Name) (s:az):az:=Nb n s.type s.cls s.ey s.data
def aBi (t:UInt16) (l:List az):am6:=
 if (t.toNat:Int)=255∧0<l.length then mkT 0 l []
 else match l.find? (fun s=>decide ((s.type.toNat:Int)=t.toNat)) with
  |some x=>mkT 0 [x] []
  |none=>match l.find? (fun s=>decide ((s.type.toNat:Int)=5) && decide ((t.toNat:Int)≠255)) with
   |some x=>mkT 1 [x] (((x.data[0]?).bind fun d=>d.names[0]?).getD [])
   |none=>mkT 2 [] []
noncomputable def aBz (z:bp) (n:Name) (t:UInt16) (s:abc):am6:=
 if s.kind=4 then mkT 4 [(awe z.ai s.node 2).getD aA2] []
 else if s.kind=0 then mkT 3 [] []
 else if s.kind=2 then mkT 2 [] []
 else aBi t (if s.kind=3 then (Vo z s.node).map (aCf n) else Vo z s.node)
def aCh (a b:UInt32):UInt32:=if (a.toNat:Int)≤b.toNat then a else b
def ala (z:bp):az:=
 let s:=(awe z.ai z.origin 6).getD aA2
 Nb s.owner s.type s.cls (aCh s.ey (((s.data[0]?).bind fun d=>d.nums[4]?).getD 0)) s.data
def aBc (n:Name) (s:az):Bool:=(decide ((s.type.toNat:Int)=1) || decide ((s.type.toNat:Int)=28)) && er s.owner n
def av6 (z:bp):List Name→List Name→List az
 |_,[]=>[]
 |pre,n::r=>(if pre.any (fun m=>er m n)=true then [] else z.ai.filter (aBc n))++av6 z (pre++[n]) r
def aBq (z:bp) (l:List Name):List az:=av6 z [] l
def aw4 (l:List Name):Prop:=gj ca l≤16777216
instance (l:List Name):Decidable (aw4 l):=inferInstanceAs (Decidable (_≤_))
def aBs (s:az):Bool:=decide ((s.type.toNat:Int)=2) || (decide ((s.type.toNat:Int)=15) || decide ((s.type.toNat:Int)=33))
def aps (l:List bt):List Name:=l.flatMap fun d=>d.names
def au1 (s:az):List Name:=if aBs s=true then aps s.data else []
def axb (l:List az):List Name:=l.flatMap au1
def aBy (ans:List az) (s:az):Bool:=ans.any fun x=>decide ((x.type.toNat:Int)=s.type.toNat) && er x.owner s.owner
def av8 (z:bp) (ans l:List az):List az:=(aBq z (axb l)).filter fun s=>!aBy ans s
def aCe (l:List Name) (n:Name):Bool:=l.any fun m=>er m n
noncomputable def aqe (z:bp) (t:UInt16):Nat→Name→List Name→List az→M3
 |0,_,_,ans=>Z4 0 true ans [] []
 |k+1,n,seen,ans=>
  let x:=aBz z n t (aol z n).1
  if x.turn=0 then Z4 0 true (ans++x.ai) [] (av8 z (ans++x.ai) x.ai)
  else if x.turn=3 then Z4 3 true ans [ala z] []
  else if x.turn=2 then Z4 0 true ans [ala z] []
  else if x.turn=4 then Z4 0 (decide (0<ans.length)) ans x.ai (av8 z ans x.ai)
  else if gq x.to z.origin=false then Z4 0 true (ans++x.ai) [] []
  else if aCe (seen++[n]) x.to=true then Z4 0 true (ans++x.ai) [] []
  else aqe z t k x.to (seen++[n]) (ans++x.ai)
noncomputable def ofV (z:bp) (n:Name) (t:UInt16):M3 × Int:=
 if (asm z n t).2≠0 then (Z4 0 false [] [] [],(asm z n t).2) else (aqe z t 16 n [] [],0)
def wtW (w:afh):Nat:=gj sy w.amk+(gj (fun h:avx=>h.amk.length) w.aBa+w.hints.length)
def az3 (w:afh):Prop:=wtW w≤5242880
instance (w:afh):Decidable (az3 w):=inferInstanceAs (Decidable (_≤_))
theorem af5 (l:Name) (hl:l.length≤16777216):wl PP [] 0 (Tryz.f118.body.getD .skip) (da PP Tryz.f118.results.toList (fun r st=>(r1 au).get true st.h r=some l)) (cj 0 [au.val false l]) (bj []):=by
 have hlim:l.length * 16≤140737488355328:=by omega
 unfold Tryz.f118
 simp only [cr]
 simp only [↓wR,RA,simprocAttr,TF,ae,hlim]
noncomputable def wo (x:Name × Unit):Option AV:=if x.1.length≤16777216 then some ((r1 au).E true (x.1)) else none
set_option maxRecDepth 2000000 in
theorem Iq (x:Name × Unit) (r:AV) (h:wo x=some r):bk PP 118 ((aC au a0).E x) r:=by
 by_cases hc:x.1.length≤16777216
 case neg=>simp only [wo,if_neg hc] at h;cases h
 simp only [wo,if_pos hc] at h
 cases h
 exact ay (ar.nil PP) Tryz.func118 (by kernel_rfl) (by kernel_rfl) (by kernel_rfl) (Nat.le_of_ble_eq_true (by kernel_rfl)) (r1 au) true (x.1) (af5 x.1 hc)
noncomputable abbrev Y5:Nat × Bool × (List AV→M AV):=(118,true,c8 (aC au a0) wo)
theorem ahz (l:Name) (hl:l.length≤16777216):wl PP [Y5] 0 (Tryz.f67.body.getD .skip) (da PP Tryz.f67.results.toList (fun r st=>(r1 au).get true st.h r=some l)) (cj 0 [au.val false l]) (bj []):=by
 unfold Tryz.f67
 simp only [cr]
 simp only [↓wR,RA,simprocAttr,TF,ae,wo,hl]
noncomputable def nn (x:Name × Unit):Option AV:=if x.1.length≤16777216 then some ((r1 au).E true (x.1)) else none
set_option maxRecDepth 2000000 in
theorem rp (x:Name × Unit) (r:AV) (h:nn x=some r):bk PP 67 ((aC au a0).E x) r:=by
 by_cases hc:x.1.length≤16777216
 case neg=>simp only [nn,if_neg hc] at h;cases h
 simp only [nn,if_pos hc] at h
 cases h
 exact ay (ar.cons (ak Iq) (ar.nil PP)) Tryz.func67 (by kernel_rfl) (by kernel_rfl) (by kernel_rfl) (Nat.le_of_ble_eq_true (by kernel_rfl)) (r1 au) true (x.1) (ahz x.1 hc)
noncomputable abbrev Cf:Nat × Bool × (List AV→M AV):=(67,true,c8 (aC au a0) nn)
theorem agp (l:List UInt8) (hl:l.length≤16777216):wl PP [] 0 (Tryz.f141.body.getD .skip) (da PP Tryz.f141.results.toList (fun r st=>(r1 (cq bu)).get true st.h r=some l)) (cj 0 [(cq bu).val false l]) (bj []):=by
 have hlim:l.length≤140737488355328:=by omega
 unfold Tryz.f141
 simp only [om]
 simp only [↓wR,RA,simprocAttr,TF,ae,hlim]
noncomputable def A8 (x:List UInt8 × Unit):Option AV:=if x.1.length≤16777216 then some ((r1 (cq bu)).E true (x.1)) else none
set_option maxRecDepth 2000000 in
theorem V8 (x:List UInt8 × Unit) (r:AV) (h:A8 x=some r):bk PP 141 ((aC (cq bu) a0).E x) r:=by
 by_cases hc:x.1.length≤16777216
 case neg=>simp only [A8,if_neg hc] at h;cases h
 simp only [A8,if_pos hc] at h
 cases h
 exact ay (ar.nil PP) Tryz.func141 (by kernel_rfl) (by kernel_rfl) (by kernel_rfl) (Nat.le_of_ble_eq_true (by kernel_rfl)) (r1 (cq bu)) true (x.1) (agp x.1 hc)
noncomputable abbrev asv:Nat × Bool × (List AV→M AV):=(141,true,c8 (aC (cq bu) a0) A8)
theorem ai9 (d:bt) (hd:cy d):wl PP [Y5,Cf,asv] 0 (Tryz.f101.body.getD .skip) (da PP Tryz.f101.results.toList (fun r st=>(r1 aq).get true st.h r=some d)) (cj 0 [aq.val false d]) (bj []):=by
 have hls:=hd.lens
 have hq:∀ a b c d,dz a b c=d→dz a b c=d:=fun _ _ _ _ h=>h
 unfold Tryz.f101
 simp only [gw]
 have hnl:=hls.1
 have hlim:d.nums.length * 4≤140737488355328:=by omega
 simp only [↓wR,RA,simprocAttr,TF,ae]
 refine ⟨by kernel_rfl,.inl ?_⟩
 simp only [↓wR,RA,simprocAttr,TF,ae,hlim,wo,A8,hls.2.2.1,hls.2.2.2]
 refine ⟨by apply hq;kernel_rfl,?_⟩
 refine fj [1,2,4,3] (fun (x:List Name)=>[.ptr 0 0,.ptr 1 0,.sc (.int .i64 (x.length)),.ptr 2 0]) (fun x=>[some (.row [.vl false 1 (d.names.map (au.val false)),.vl false 1 (d.nums.map (cw.val false)),.vl false 1 (d.texts.map (aj.val false)),.vl false 1 (d.raw.map (bu.val false))] 0 2 101),some (.row [.sc (.slice none 0 0),.sc (.slice none 0 0),.sc (.slice none 0 0),.sc (.slice none 0 0)] 0 2 101),some (.row [.sl 3 0 x.length 1,.vl true 1 (d.nums.map (cw.val true)),.vl true 1 (d.texts.map (aj.val true)),.vl true 1 (d.raw.map (bu.val true))] 0 2 101),some (.row (x.map (au.val true)) 0 0 24)]) (fun x=>x.length≤d.names.length∧x++d.names.drop x.length=d.names) (fun x=>d.names.length - x.length) [] ⟨Nat.zero_le _,rfl⟩ (by
  simp only [↓wR,RA,simprocAttr,TF,ae]
  refine .trans (vs':=[.ptr 0 0,.ptr 1 0,.sc (.int .i64 (0)),.ptr 2 0]) (os':=[some (.row [.vl false 1 (d.names.map (au.val false)),.vl false 1 (d.nums.map (cw.val false)),.vl false 1 (d.texts.map (aj.val false)),.vl false 1 (d.raw.map (bu.val false))] 0 2 101),some (.row [.sc (.slice none 0 0),.sc (.slice none 0 0),.sc (.slice none 0 0),.sc (.slice none 0 0)] 0 2 101),some (.row [.sc (.slice none 0 0),.vl true 1 (d.nums.map (cw.val true)),.vl true 1 (d.texts.map (aj.val true)),.vl true 1 (d.raw.map (bu.val true))] 0 2 101),none]) (ji.lax [3] (Nat.le_of_ble_eq_true rfl) (ef.refl _ _) (.same (.same (.row (.cons (.same _) (.cons (.data (cq cw) true d.nums _ ?_) (.cons (.same _) (.cons (.same _) .nil)))) (b9.refl _ _))))) (.trans (vs':=[.ptr 0 0,.ptr 1 0,.sc (.int .i64 (0)),.ptr 2 0]) (os':=[some (.row [.vl false 1 (d.names.map (au.val false)),.vl false 1 (d.nums.map (cw.val false)),.vl false 1 (d.texts.map (aj.val false)),.vl false 1 (d.raw.map (bu.val false))] 0 2 101),some (.row [.sc (.slice none 0 0),.sc (.slice none 0 0),.sc (.slice none 0 0),.sc (.slice none 0 0)] 0 2 101),some (.row [.sc (.slice none 0 0),.vl true 1 (d.nums.map (cw.val true)),.vl true 1 (d.texts.map (aj.val true)),.vl true 1 (d.raw.map (bu.val true))] 0 2 101)]) (ji.arv (by decide) ?_ ?_) (by (refine ji.lax [] (by first|exact Nat.le_of_ble_eq_true rfl|(simp [dk];omega)) ?_ ?_<;>repeat' first|exact ef.nil|exact b9.nil|exact fe.same _|exact fe.nil _ _ _|exact fe.lu _ _|exact b9.refl _ _|apply ef.cons|apply b9.ghost|apply b9.same|apply b9.row)))<;>simp only [↓wR,RA,simprocAttr,TF,ae,x8,z6,By,se]) ?_
 rintro x ⟨hi,hx⟩
 simp only [↓wR,RA,simprocAttr,TF,ae]
 rw [aw];refine ⟨fun h=>?_,fun h=>?_⟩
 ·obtain ⟨c,hc,hd1,hlt⟩:=dx (decide_eq_true h)
  rw [hd1] at hx
  have hlim2:(x.length+1) * 24≤140737488355328:=by omega
  have hcl:c.length≤16777216:=by have:=(hd.name c (List.mem_of_getElem? hc));have:=(j8 c 0).2;unfold bw at *;omega
  simp only [↓wR,RA,simprocAttr,TF,ae,h]
  refine ⟨by kernel_rfl,.inl ?_⟩
  simp only [↓wR,RA,simprocAttr,TF,ae,hc,nn,hcl,hlim2];repeat (simp (disch:=omega) only [ag,bf,bg,be,bb];try simp only [↓wR,RA,simprocAttr,TF,ae,hc,nn,hcl,hlim2])
  exact ⟨by apply hq;kernel_rfl,x++[c],⟨by simp;omega,by simpa using hx⟩,by simp;omega,by (first|rfl|trivial|omega|((try (simp (disch:=omega) only [ag]));(try (simp only [FB]));first|done|rfl|omega)),by (first|rfl|trivial|omega|((try (simp (disch:=omega) only [ag]));(try (simp only [FB]));first|done|rfl|omega))⟩
 ·rw [fl (decide_eq_false h),List.append_nil] at hx
  subst hx
  simp only [↓wR,RA,simprocAttr,TF,ae,h]
noncomputable def qm (x:bt × Unit):Option AV:=if cy x.1 then some ((r1 aq).E true (x.1)) else none
set_option maxRecDepth 2000000 in
theorem Ko (x:bt × Unit) (r:AV) (h:qm x=some r):bk PP 101 ((aC aq a0).E x) r:=by
 by_cases hc:cy x.1
 case neg=>simp only [qm,if_neg hc] at h;cases h
 simp only [qm,if_pos hc] at h
 cases h
 exact ay (ar.cons (ak Iq) (ar.cons (ak rp) (ar.cons (ak V8) (ar.nil PP)))) Tryz.func101 (by kernel_rfl) (by kernel_rfl) (by kernel_rfl) (Nat.le_of_ble_eq_true (by kernel_rfl)) (r1 aq) true (x.1) (ai9 x.1 hc)
noncomputable abbrev aha:Nat × Bool × (List AV→M AV):=(101,true,c8 (aC aq a0) qm)
theorem yk {n:Name} (h:bw n):n.length≤16777216:=by have:=(j8 n 0).2;unfold bw at h;omega
theorem amd (s:az) (hs:cd s):wl PP [Cf,aha] 0 (Tryz.f46.body.getD .skip) (da PP Tryz.f46.results.toList (fun r st=>(r1 ah).get true st.h r=some s)) (cj 0 [ah.val false s]) (bj []):=by
 have hol:=yk hs.owner
 have hd:=hs.data
 have hn:=hd.len
 have hq:∀ a b c d,dz a b c=d→dz a b c=d:=fun _ _ _ _ h=>h
 unfold Tryz.f46
 simp only [fu]
 simp only [↓wR,RA,simprocAttr,TF,ae]
 refine ⟨by kernel_rfl,.inl ?_⟩
 simp only [↓wR,RA,simprocAttr,TF,ae,nn,hol]
 refine ⟨by apply hq;kernel_rfl,?_⟩
 refine fj [1,2,4,3] (fun (x:List bt)=>[.ptr 0 0,.ptr 1 0,.sc (.int .i64 (x.length)),.ptr 2 0]) (fun x=>[some (.row [.vl false 1 (s.owner.map (aj.val false)),.sc (.int .u16 s.type.toNat),.sc (.int .u16 s.cls.toNat),.sc (.int .u32 s.ey.toNat),.vl false 4 (s.data.map (aq.val false))] 0 2 31),some (.row [.sc (.slice none 0 0),.sc (.int .u16 0),.sc (.int .u16 0),.sc (.int .u32 0),.sc (.slice none 0 0)] 0 2 31),some (.row [au.val true s.owner,.sc (.int .u16 s.type.toNat),.sc (.int .u16 s.cls.toNat),.sc (.int .u32 s.ey.toNat),.sl 3 0 x.length 4] 0 2 31),some (.row (cellsOf aq true x) 0 0 101)]) (fun x=>x.length≤s.data.length∧x++s.data.drop x.length=s.data) (fun x=>s.data.length - x.length) [] ⟨Nat.zero_le _,rfl⟩ (by simp only [↓wR,RA,simprocAttr,TF,ae];(refine ji.lax [] (by first|exact Nat.le_of_ble_eq_true rfl|(simp [dk];omega)) ?_ ?_<;>repeat' first|exact ef.nil|exact b9.nil|exact fe.same _|exact fe.nil _ _ _|exact fe.lu _ _|exact b9.refl _ _|apply ef.cons|apply b9.ghost|apply b9.same|apply b9.row)) ?_
 rintro x ⟨hi,hx⟩
 simp only [↓wR,RA,simprocAttr,TF,ae]
 rw [aw];refine ⟨fun h=>?_,fun h=>?_⟩
 ·obtain ⟨c,hc,hd1,hlt⟩:=dx (decide_eq_true h)
  rw [hd1] at hx
  have hcs:=hd.mem c (List.mem_of_getElem? hc)
  have hlim:(x.length * 4+4) * 96≤140737488355328:=by omega
  simp only [↓wR,RA,simprocAttr,TF,ae,h]
  refine ⟨by kernel_rfl,.inl ?_⟩
  simp only [↓wR,RA,simprocAttr,TF,ae,hc,qm,hcs,hlim];repeat (simp (disch:=omega) only [ag,bf,bg,be,bb];try simp only [↓wR,RA,simprocAttr,TF,ae,hc,qm,hcs,hlim])
  refine ⟨by apply hq;kernel_rfl,x++[c],⟨by simp;omega,by simpa using hx⟩,by simp;omega,by (first|rfl|trivial|omega|((try (simp (disch:=omega) only [ag]));(try (simp only [FB]));first|done|rfl|omega)),?_⟩
  rw [x6,List.length_append];rfl
 ·rw [fl (decide_eq_false h),List.append_nil] at hx
  subst hx
  simp only [↓wR,RA,simprocAttr,TF,ae,h]
noncomputable def g8 (x:az × Unit):Option AV:=if cd x.1 then some ((r1 ah).E true (x.1)) else none
set_option maxRecDepth 2000000 in
theorem ou (x:az × Unit) (r:AV) (h:g8 x=some r):bk PP 46 ((aC ah a0).E x) r:=by
 by_cases hc:cd x.1
 case neg=>simp only [g8,if_neg hc] at h;cases h
 simp only [g8,if_pos hc] at h
 cases h
 exact ay (ar.cons (ak rp) (ar.cons (ak Ko) (ar.nil PP))) Tryz.func46 (by kernel_rfl) (by kernel_rfl) (by kernel_rfl) (Nat.le_of_ble_eq_true (by kernel_rfl)) (r1 ah) true (x.1) (amd x.1 hc)
noncomputable abbrev wz:Nat × Bool × (List AV→M AV):=(46,true,c8 (aC ah a0) g8)
theorem ai2 (l:List az) (hl:qd l) (hl2:l.length≤16777216):wl PP [wz] 0 (Tryz.f8.body.getD .skip) (da PP Tryz.f8.results.toList (fun r st=>(r1 (cq ah)).get true st.h r=some l)) (cj 0 [(cq ah).val false l]) (bj []):=by
 unfold Tryz.f8
 simp only [om]
 simp only [↓wR,RA,simprocAttr,TF,ae]
 refine fj [0,4,3] (fun (x:List az)=>[.vl false 5 (l.map (ah.val false)),.sc (.int .i64 (x.length)),.sl 0 0 x.length 5]) (fun x=>[some (.row (cellsOf ah true (x)) 0 0 31)]) (fun x=>x.length≤l.length∧x++l.drop x.length=l) (fun x=>l.length - x.length) [] ⟨Nat.zero_le _,rfl⟩ (by simp only [↓wR,RA,simprocAttr,TF,ae];(refine ji.lax [] (by first|exact Nat.le_of_ble_eq_true rfl|(simp [dk];omega)) ?_ ?_<;>repeat' first|exact ef.nil|exact b9.nil|exact fe.same _|exact fe.nil _ _ _|exact fe.lu _ _|exact b9.refl _ _|apply ef.cons|apply b9.ghost|apply b9.same|apply b9.row)) ?_
 rintro x ⟨hi,hx⟩
 simp only [↓wR,RA,simprocAttr,TF,ae]
 rw [aw];refine ⟨fun h=>?_,fun h=>?_⟩
 ·obtain ⟨c,hc,hd1,hlt⟩:=dx (decide_eq_true h)
  rw [hd1] at hx
  have hcs:=hl.2 c (List.mem_of_getElem? hc)
  have hlim:(x.length * 5+5) * 64≤140737488355328:=by omega
  simp only [↓wR,RA,simprocAttr,TF,ae,h,hc,g8,hcs,hlim];repeat (simp (disch:=omega) only [ag,bf,bg,be,bb];try simp only [↓wR,RA,simprocAttr,TF,ae,h,hc,g8,hcs,hlim])
  refine ⟨x++[c],⟨by simp;omega,by simpa using hx⟩,by simp;omega,by (first|rfl|trivial|omega|((try (simp (disch:=omega) only [ag]));(try (simp only [FB]));first|done|rfl|omega)),?_⟩
  rw [gh]
 ·rw [fl (decide_eq_false h),List.append_nil] at hx
  subst hx
  simp only [↓wR,RA,simprocAttr,TF,ae,h]
noncomputable def Dl (x:List az × Unit):Option AV:=if qd x.1∧x.1.length≤16777216 then some ((r1 (cq ah)).E true (x.1)) else none
set_option maxRecDepth 2000000 in
theorem aas (x:List az × Unit) (r:AV) (h:Dl x=some r):bk PP 8 ((aC (cq ah) a0).E x) r:=by
 by_cases hc:qd x.1∧x.1.length≤16777216
 case neg=>simp only [Dl,if_neg hc] at h;cases h
 simp only [Dl,if_pos hc] at h
 cases h
 exact ay (ar.cons (ak ou) (ar.nil PP)) Tryz.func8 (by kernel_rfl) (by kernel_rfl) (by kernel_rfl) (Nat.le_of_ble_eq_true (by kernel_rfl)) (r1 (cq ah)) true (x.1) (ai2 x.1 hc.1 hc.2)
noncomputable abbrev as5:Nat × Bool × (List AV→M AV):=(8,true,c8 (aC (cq ah) a0) Dl)
theorem ahc (z:bp) (hz:bz z):wl PP [Cf,as5] 0 (Tryz.f21.body.getD .skip) (da PP Tryz.f21.results.toList (fun r st=>(r1 br).get true st.h r=some z)) (cj 0 [br.val false z]) (bj []):=by
 have hol:=yk hz.origin
 have hzl:=hz.len
 have hq:∀ a b c d,dz a b c=d→dz a b c=d:=fun _ _ _ _ h=>h
 unfold Tryz.f21
 simp only [fq]
 simp only [↓wR,RA,simprocAttr,TF,ae]
 refine ⟨by kernel_rfl,.inl ?_⟩
 simp only [↓wR,RA,simprocAttr,TF,ae,nn,hol,Dl,hz.mid,hzl]
 apply hq;kernel_rfl
noncomputable def C2 (x:bp × Unit):Option AV:=if bz x.1 then some ((r1 br).E true (x.1)) else none
set_option maxRecDepth 2000000 in
theorem aa2 (x:bp × Unit) (r:AV) (h:C2 x=some r):bk PP 21 ((aC br a0).E x) r:=by
 by_cases hc:bz x.1
 case neg=>simp only [C2,if_neg hc] at h;cases h
 simp only [C2,if_pos hc] at h
 cases h
 exact ay (ar.cons (ak rp) (ar.cons (ak aas) (ar.nil PP))) Tryz.func21 (by kernel_rfl) (by kernel_rfl) (by kernel_rfl) (Nat.le_of_ble_eq_true (by kernel_rfl)) (r1 br) true (x.1) (ahc x.1 hc)
noncomputable abbrev agi:Nat × Bool × (List AV→M AV):=(21,true,c8 (aC br a0) C2)
theorem ef.azb {h:Tr bq}:∀ (a:List AV) {b c:List AV},ef h b c→ef h (a++b) (a++c)
 | [],_,_,q=>q
 |x::a,_,_,q=>.cons (.same x) (ef.azb a q)
theorem ap1 {t:UInt16} {d:bt} (h:mn t=true):jg t d=d:=by
 have hk:(db t).names=0:=by
  unfold mn at h
  unfold db
  repeat' split
  all_goals first|rfl|(exfalso;simp at h;omega)
 unfold jg
 rw [hk,if_neg (by omega)]
theorem afm (t:UInt16) : 0≤(db t).names:=by
 unfold db
 repeat' split
 all_goals decide
set_option maxHeartbeats 4000000 in
theorem at6 (t:UInt16) (d:bt) (hd:cy d):wl PP [rOf,agz] 0 (Tryz.f168.body.getD .skip) (da PP Tryz.f168.results.toList (fun r st=>(r1 aq).get false st.h r=some (jg t d))) (cj 0 [cg.val false t,aq.val false d]) (bj []):=by
 have hl:=hd.lens
 have hn0:=afm t
 unfold Tryz.f168
 simp only [gw,cr]
 simp only [↓wR,RA,simprocAttr,TF,ae,aeo,uu]
 rw [di];refine ⟨fun hb=>?_,fun hb=>?_⟩
 ·have hb':mn t=true:=by simpa using hb
  rw [ap1 hb']
  simp only [↓wR,RA,simprocAttr,TF,ae,hb]
 simp only [↓wR,RA,simprocAttr,TF,ae,hb]
 unfold jg
 rw [cp];refine ⟨fun ⟨h0,e0⟩=>?_,fun ⟨h0,e0⟩=>?_⟩
 ·rw [if_neg (by omega)]
  simp only [↓wR,RA,simprocAttr,TF,ae,h0]
 rw [if_pos (by omega)]
 simp only [↓wR,RA,simprocAttr,TF,ae,h0]
 refine Y3 [3,4,8,7] (fun (x:List Name)=>[.ptr 0 0,.ptr 1 0,.sc (.int .i64 (x.length)),.ptr 2 0]) (fun x=>[some (.row [.vl false 1 (d.names.map (au.val false)),.vl false 1 (d.nums.map (cw.val false)),.vl false 1 (d.texts.map (aj.val false)),.vl false 1 (d.raw.map (bu.val false))] 0 2 101),some (.row [.sc (.slice none 0 0),.sc (.slice none 0 0),.sc (.slice none 0 0),.sc (.slice none 0 0)] 0 2 101),some (.row [.sl 3 0 x.length 1,.vl false 1 (d.nums.map (cw.val false)),.vl false 1 (d.texts.map (aj.val false)),.vl false 1 (d.raw.map (bu.val false))] 0 2 101),some (.row (x.map (au.val true)) 0 0 24)]) (fun x=>x.length≤d.names.length∧x++(d.names.drop x.length).map fm=d.names.map fm) (fun x=>d.names.length - x.length) [] ⟨Nat.zero_le _,rfl⟩ (by simp only [↓wR,RA,simprocAttr,TF,ae];(refine ji.lax [] (by first|exact Nat.le_of_ble_eq_true rfl|(simp [dk];omega)) ?_ ?_<;>repeat' first|exact ef.nil|exact b9.nil|exact fe.same _|exact fe.nil _ _ _|exact fe.lu _ _|exact b9.refl _ _|apply ef.cons|apply b9.ghost|apply b9.same|apply b9.row)) ?_
 rintro x ⟨hi,hx⟩
 simp only [↓wR,RA,simprocAttr,TF,ae]
 rw [aw];refine ⟨fun h=>?_,fun h=>?_⟩
 ·obtain ⟨c,hc,hd1,hlt⟩:=dx (decide_eq_true h)
  rw [hd1,List.map_cons] at hx
  have hnc:=hd.name c (List.mem_of_getElem? hc)
  have hcl:=hnc.lt
  simp only [↓wR,RA,simprocAttr,TF,ae,h]
  refine fj [3,4,8,10,7,9] (fun (y:Name)=>[.ptr 0 0,.ptr 1 0,.sc (.int .i64 (x.length)),.sc (.int .i64 (y.length)),.ptr 2 0,.sl 4 0 y.length 1]) (fun y=>[some (.row [.vl false 1 (d.names.map (au.val false)),.vl false 1 (d.nums.map (cw.val false)),.vl false 1 (d.texts.map (aj.val false)),.vl false 1 (d.raw.map (bu.val false))] 0 2 101),some (.row [.sc (.slice none 0 0),.sc (.slice none 0 0),.sc (.slice none 0 0),.sc (.slice none 0 0)] 0 2 101),some (.row [.sl 3 0 x.length 1,.vl false 1 (d.nums.map (cw.val false)),.vl false 1 (d.texts.map (aj.val false)),.vl false 1 (d.raw.map (bu.val false))] 0 2 101),some (.row (x.map (au.val true)) 0 0 24),some (.row (y.map (aj.val false)) 0 0 9)]) (fun y=>y.length≤c.length∧y++(c.drop y.length).map fold=fm c) (fun y=>c.length - y.length) [] ⟨Nat.zero_le _,rfl⟩ (by simp only [↓wR,RA,simprocAttr,TF,ae];(refine ji.lax [] (by first|exact Nat.le_of_ble_eq_true rfl|(simp [dk];omega)) ?_ ?_<;>repeat' first|exact ef.nil|exact b9.nil|exact fe.same _|exact fe.nil _ _ _|exact fe.lu _ _|exact b9.refl _ _|apply ef.cons|apply b9.ghost|apply b9.same|apply b9.row)) ?_
  rintro y ⟨hj,hy⟩
  simp only [↓wR,RA,simprocAttr,TF,ae,hc]
  rw [aw];refine ⟨fun h2=>?_,fun h2=>?_⟩
  ·obtain ⟨s,hs,hd2,hlt2⟩:=dx (decide_eq_true h2)
   rw [hd2,List.map_cons] at hy
   have hss:=hnc.label s (List.mem_of_getElem? hs)
   simp only [↓wR,RA,simprocAttr,TF,ae,h2,hc,hs,v8,hss,cr];repeat (simp (disch:=omega) only [ag,bf,bg,be,bb];try simp only [↓wR,RA,simprocAttr,TF,ae,h2,hc,hs,v8,hss,cr])
   exact ⟨y++[fold s],⟨by simp;omega,by simpa using hy⟩,by simp;omega,by (first|rfl|trivial|omega|((try (simp (disch:=omega) only [ag]));(try (simp only [FB]));first|done|rfl|omega)),by (first|rfl|trivial|omega|((try (simp (disch:=omega) only [ag]));(try (simp only [FB]));first|done|rfl|omega))⟩
  rw [fl (decide_eq_false h2)] at hy
  obtain rfl:y=fm c:=by simpa using hy
  simp only [↓wR,RA,simprocAttr,TF,ae,h2];repeat (simp (disch:=omega) only [ag,bf,bg,be,bb];try simp only [↓wR,RA,simprocAttr,TF,ae,h2])
  have hfl:(fm c).length=c.length:=by simp [fm]
  refine ⟨x++[fm c],⟨by simp;omega,by simpa using hx⟩,by simp;omega,?_⟩
  rw [show ((x++[fm c]).length:Int)=(x.length:Int)+1 by simp,List.map_append,List.length_append,List.length_singleton,List.map_cons,List.map_nil]
  refine .trans (vs':=[.ptr 0 0,.ptr 1 0,.sc (.int .i64 ((x.length:Int)+1)),.ptr 2 0]) (os':=[some (.row [.vl false 1 (d.names.map (au.val false)),.vl false 1 (d.nums.map (cw.val false)),.vl false 1 (d.texts.map (aj.val false)),.vl false 1 (d.raw.map (bu.val false))] 0 2 101),some (.row [.sc (.slice none 0 0),.sc (.slice none 0 0),.sc (.slice none 0 0),.sc (.slice none 0 0)] 0 2 101),some (.row [.sl 3 0 (x.length+1) 1,.vl false 1 (d.nums.map (cw.val false)),.vl false 1 (d.texts.map (aj.val false)),.vl false 1 (d.raw.map (bu.val false))] 0 2 101),some (.row (x.map (au.val true)++[au.val true (fm c)]) 0 0 24),none]) (ji.lax [4] (Nat.le_of_ble_eq_true rfl) (ef.refl _ _) (.same (.same (.same (.row (ef.azb _ (.cons (.data (cq aj) true (fm c) _ ?_) .nil)) (b9.refl _ _)))))) (ji.arv (by decide) ?_ ?_)<;>simp only [↓wR,RA,simprocAttr,TF,ae,x8,z6,By,se]
 ·rw [fl (decide_eq_false h)] at hx
  have hxe:x=d.names.map fm:=by simpa using hx
  have hln:d.names.length=x.length:=by rw [hxe,List.length_map]
  rw [← hxe]
  simp only [↓wR,RA,simprocAttr,TF,ae,h]
  rfl
noncomputable def Lt (x:UInt16 × bt × Unit):Option AV:=if cy x.2.1 then some ((r1 aq).E false (jg x.1 x.2.1)) else none
set_option maxRecDepth 2000000 in
theorem anf (x:UInt16 × bt × Unit) (r:AV) (h:Lt x=some r):bk PP 168 ((aC cg (aC aq a0)).E x) r:=by
 by_cases hc:cy x.2.1
 case neg=>simp only [Lt,if_neg hc] at h;cases h
 simp only [Lt,if_pos hc] at h
 cases h
 exact ay (ar.cons (ak Rn) (ar.cons (ak Kx) (ar.nil PP))) Tryz.func168 (by kernel_rfl) (by kernel_rfl) (by kernel_rfl) (Nat.le_of_ble_eq_true (by kernel_rfl)) (r1 aq) false (jg x.1 x.2.1) (at6 x.1 x.2.1 hc)
noncomputable abbrev aBu:Nat × Bool × (List AV→M AV):=(168,true,c8 (aC cg (aC aq a0)) Lt)
theorem Sn:∀ l m:List UInt8,Op.bytesLess l m=decide (Lib.compareBytes l m<0)
 | [],[]=>rfl
 |_::_,[]=>rfl
 | [],_::_=>rfl
 |a::l,b::m=>by
  have ih:=Sn l m
  simp only [Op.bytesLess,Lib.compareBytes,ih]
  by_cases h1:a<b
  ·simp [h1]
  ·by_cases h2:b<a
   ·have:¬ a=b:=fun e=>by subst e;exact h1 h2
    simp [h1,h2,this]
   ·have:a=b:=by rw [UInt8.lt_iff_toNat_lt] at h1 h2;exact UInt8.toNat_inj.1 (by omega)
    subst this
    simp [h1]
theorem ae9:∀ l m:List UInt8,Lib.compareBytes l m = -1∨Lib.compareBytes l m=0∨Lib.compareBytes l m=1
 | [],[]=>.inr (.inl rfl)
 |_::_,[]=>.inr (.inr rfl)
 | [],_::_=>.inl rfl
 |a::l,b::m=>by
  have ih:=ae9 l m
  simp only [Lib.compareBytes]
  split
  ·exact .inl rfl
  ·split
   ·exact .inr (.inr rfl)
   ·exact ih
theorem cmp_eq (l m:List UInt8):(l == m)=decide (Lib.compareBytes l m=0):=by
 rw [Bool.eq_iff_iff]
 simp only [beq_iff_eq,decide_eq_true_eq]
 exact ⟨fun e=>by rw [e];exact Pf _,fun e=>Pc _ _ e⟩
theorem alo {P:Program} {t:TypeId} (a b:ByteArray):ev P (binOp .lss t (.string a) (.string b))=some (.bool (decide (Lib.compareBytes a.data.toList b.data.toList<0))):=by
 rw [← Sn,← ByteArray.toList_eq,← ByteArray.toList_eq];rfl
theorem am8 {P:Program} {t:TypeId} (a b:ByteArray):ev P (binOp .gtr t (.string a) (.string b))=some (.bool (decide (0<Lib.compareBytes a.data.toList b.data.toList))):=by
 have h:(!(Op.bytesLess a.toList b.toList || (a.toList == b.toList)))=decide (0<Lib.compareBytes a.data.toList b.data.toList):=by
  rw [Sn,cmp_eq,ByteArray.toList_eq,ByteArray.toList_eq,Bool.eq_iff_iff]
  simp
  omega
 rw [← h];rfl
theorem Uw (t:UInt16) (a b:bt) (ha:cy a) (hb:cy b):wl PP [D8,aBu,azg] 0 (Tryz.f128.body.getD .skip) (da PP Tryz.f128.results.toList (fun r st=>(r1 (bh .i64)).get true st.h r=some (if dw t a≠0∨dw t b≠0 then 0 else vj t a b))) (cj 0 [cg.val false t,aq.val false a,aq.val false b]) (bj []):=by
 unfold Tryz.f128
 simp only [gw,cr]
 simp only [↓wR,RA,simprocAttr,TF,ae,m6,ha,hb]
 rw [c9];refine ⟨fun ⟨h1,e1⟩=>?_,fun ⟨h1,e1⟩=>?_⟩
 ·rw [if_pos (.inl e1)]
  simp only [↓wR,RA,simprocAttr,TF,ae,h1]
 simp only [↓wR,RA,simprocAttr,TF,ae,h1,m6,ha,hb]
 rw [c9];refine ⟨fun ⟨h2,e2⟩=>?_,fun ⟨h2,e2⟩=>?_⟩
 ·rw [if_pos (.inr e2)]
  simp only [↓wR,RA,simprocAttr,TF,ae,h2]
 rw [if_neg (by omega)]
 simp only [↓wR,RA,simprocAttr,TF,ae,h2]
 refine ⟨by kernel_rfl,.inl ?_⟩
 have ea:=Ab e1
 have eb:=Ab e2
 have fa:=cy.fold ha t
 have fb:=cy.fold hb t
 simp only [↓wR,RA,simprocAttr,TF,ae,Lt,ha,hb,It,ea,eb,fa,fb]
 refine ⟨by kernel_rfl,?_⟩
 have hv:vj t a b=Lib.compareBytes (mj t (jg t a)) (mj t (jg t b)):=by
  unfold vj nf J5
  rw [if_neg (by omega),if_neg (by omega),if_neg (by omega)]
 rw [hv]
 obtain ⟨x,hx⟩:∃ x,x=mj t (jg t a):=⟨_,rfl⟩
 obtain ⟨y,hy⟩:∃ y,y=mj t (jg t b):=⟨_,rfl⟩
 rw [← hx,← hy]
 have h3:=ae9 x y
 simp only [↓wR,RA,simprocAttr,TF,ae,alo]
 rw [aw];refine ⟨fun h4=>?_,fun h4=>?_⟩
 ·have h5:Lib.compareBytes x y = -1:=by omega
  rw [h5]
  simp only [↓wR,RA,simprocAttr,TF,ae,h4]
 ·simp only [↓wR,RA,simprocAttr,TF,ae,h4,am8]
  rw [aw];refine ⟨fun h6=>?_,fun h6=>?_⟩
  ·have h5:Lib.compareBytes x y=1:=by omega
   rw [h5]
   simp only [↓wR,RA,simprocAttr,TF,ae,h6]
  ·have h5:Lib.compareBytes x y=0:=by omega
   rw [h5]
   simp only [↓wR,RA,simprocAttr,TF,ae,h6]
noncomputable def kr (x:UInt16 × bt × bt × Unit):Option AV:=if cy x.2.1∧cy x.2.2.1 then some ((r1 (bh .i64)).E true ((if dw x.1 x.2.1≠0∨dw x.1 x.2.2.1≠0 then 0 else vj x.1 x.2.1 x.2.2.1))) else none
set_option maxRecDepth 2000000 in
theorem xe (x:UInt16 × bt × bt × Unit) (r:AV) (h:kr x=some r):bk PP 128 ((aC cg (aC aq (aC aq a0))).E x) r:=by
 by_cases hc:cy x.2.1∧cy x.2.2.1
 case neg=>simp only [kr,if_neg hc] at h;cases h
 simp only [kr,if_pos hc] at h
 cases h
 exact ay (ar.cons (ak vm) (ar.cons (ak anf) (ar.cons (ak aja) (ar.nil PP)))) Tryz.func128 (by kernel_rfl) (by kernel_rfl) (by kernel_rfl) (Nat.le_of_ble_eq_true (by kernel_rfl)) (r1 (bh .i64)) true ((if dw x.1 x.2.1≠0∨dw x.1 x.2.2.1≠0 then 0 else vj x.1 x.2.1 x.2.2.1)) (Uw x.1 x.2.1 x.2.2.1 hc.1 hc.2)
noncomputable abbrev Ft:Nat × Bool × (List AV→M AV):=(128,true,c8 (aC cg (aC aq (aC aq a0))) kr)
theorem acm (t:UInt16) (a b:bt) (ha:cy a) (hb:cy b):wl PP [D8,Ft] 0 (Tryz.f157.body.getD .skip) (da PP Tryz.f157.results.toList (fun r st=>(r1 bo).get true st.h r=some (xw t a b))) (cj 0 [cg.val false t,aq.val false a,aq.val false b]) (bj []):=by
 unfold xw
 unfold Tryz.f157
 simp only [gw,cr]
 simp only [↓wR,RA,simprocAttr,TF,ae,m6,ha,hb]
 rw [cp];refine ⟨fun ⟨h1,e1⟩=>?_,fun ⟨h1,e1⟩=>?_⟩
 ·simp only [↓wR,RA,simprocAttr,TF,ae,h1,m6,ha,hb,e1]
  rw [cp];refine ⟨fun ⟨h2,e2⟩=>?_,fun ⟨h2,e2⟩=>?_⟩
  ·simp only [↓wR,RA,simprocAttr,TF,ae,h2,kr,ha,hb,e1,e2]
   rw [if_neg (by simp)]
   rfl
  ·simp only [↓wR,RA,simprocAttr,TF,ae,h2]
   simp [e2]
 ·simp only [↓wR,RA,simprocAttr,TF,ae,h1]
  simp [e1]
noncomputable def Ai (x:UInt16 × bt × bt × Unit):Option AV:=if cy x.2.1∧cy x.2.2.1 then some ((r1 bo).E true (xw x.1 x.2.1 x.2.2.1)) else none
set_option maxRecDepth 2000000 in
theorem Xm (x:UInt16 × bt × bt × Unit) (r:AV) (h:Ai x=some r):bk PP 157 ((aC cg (aC aq (aC aq a0))).E x) r:=by
 by_cases hc:cy x.2.1∧cy x.2.2.1
 case neg=>simp only [Ai,if_neg hc] at h;cases h
 simp only [Ai,if_pos hc] at h
 cases h
 exact ay (ar.cons (ak vm) (ar.cons (ak xe) (ar.nil PP))) Tryz.func157 (by kernel_rfl) (by kernel_rfl) (by kernel_rfl) (Nat.le_of_ble_eq_true (by kernel_rfl)) (r1 bo) true (xw x.1 x.2.1 x.2.2.1) (acm x.1 x.2.1 x.2.2.1 hc.1 hc.2)
noncomputable abbrev aow:Nat × Bool × (List AV→M AV):=(157,true,c8 (aC cg (aC aq (aC aq a0))) Ai)
theorem azk (t:UInt16) (l:List bt) (d:bt) (hl:nk l) (hd:cy d):wl PP [aow] 0 (Tryz.f114.body.getD .skip) (da PP Tryz.f114.results.toList (fun r st=>(r1 bo).get true st.h r=some (Bz t l d))) (cj 0 [cg.val false t,(cq aq).val false l,aq.val false d]) (bj []):=by
 have hll:=hl.len
 unfold Bz
 unfold Tryz.f114
 simp only [gw,cr]
 simp only [↓wR,RA,simprocAttr,TF,ae]
 refine c7 [0,1,5,7] (fun (i:Nat)=>[.sc (.int .u16 t.toNat),.vl false 4 (l.map (aq.val false)),.ptr 0 0,.sc (.int .i64 (i))]) (fun _=>[some (.row [.vl false 1 (d.names.map (au.val false)),.vl false 1 (d.nums.map (cw.val false)),.vl false 1 (d.texts.map (aj.val false)),.vl false 1 (d.raw.map (bu.val false))] 0 2 101)]) (fun i=>i≤l.length∧(l.any fun x=>xw t x d)=((l.drop i).any fun x=>xw t x d)) (fun i=>l.length - i) 0 ⟨Nat.zero_le _,rfl⟩ (by simp only [↓wR,RA,simprocAttr,TF,ae]<;>rfl) (by simp only [↓wR,RA,simprocAttr,TF,ae]<;>rfl) ?_
 rintro i ⟨hi,hx⟩
 simp only [↓wR,RA,simprocAttr,TF,ae]
 rw [aw];refine ⟨fun h=>?_,fun h=>?_⟩
 ·obtain ⟨c,hc,hd1,hlt⟩:=dx (decide_eq_true h)
  have hsc:=hl.mem c (List.mem_of_getElem? hc)
  rw [hd1,List.any_cons] at hx
  simp only [↓wR,RA,simprocAttr,TF,ae,h]
  refine ⟨by kernel_rfl,.inl ?_⟩
  simp only [↓wR,RA,simprocAttr,TF,ae,hc,Ai,hsc,hd]
  refine ⟨by kernel_rfl,?_⟩
  rw [di];refine ⟨fun h2=>?_,fun h2=>?_⟩
  ·rw [hx,h2]
   simp only [↓wR,RA,simprocAttr,TF,ae,h2]
  ·rw [h2,Bool.false_or] at hx
   simp only [↓wR,RA,simprocAttr,TF,ae,h2];repeat (simp (disch:=omega) only [ag,bf,bg,be,bb];try simp only [↓wR,RA,simprocAttr,TF,ae,h2])
   exact ⟨i+1,⟨hlt,hx⟩,by omega,by (first|rfl|trivial|omega|((try (simp (disch:=omega) only [ag]));(try (simp only [FB]));first|done|rfl|omega))⟩
 ·rw [fl (decide_eq_false h)] at hx
  rw [hx]
  simp only [↓wR,RA,simprocAttr,TF,ae,h]
  try rfl
noncomputable def ace (x:UInt16 × List bt × bt × Unit):Option AV:=if nk x.2.1∧cy x.2.2.1 then some ((r1 bo).E true (Bz x.1 x.2.1 x.2.2.1)) else none
set_option maxRecDepth 2000000 in
theorem auq (x:UInt16 × List bt × bt × Unit) (r:AV) (h:ace x=some r):bk PP 114 ((aC cg (aC (cq aq) (aC aq a0))).E x) r:=by
 by_cases hc:nk x.2.1∧cy x.2.2.1
 case neg=>simp only [ace,if_neg hc] at h;cases h
 simp only [ace,if_pos hc] at h
 cases h
 exact ay (ar.cons (ak Xm) (ar.nil PP)) Tryz.func114 (by kernel_rfl) (by kernel_rfl) (by kernel_rfl) (Nat.le_of_ble_eq_true (by kernel_rfl)) (r1 bo) true (Bz x.1 x.2.1 x.2.2.1) (azk x.1 x.2.1 x.2.2.1 hc.1 hc.2)
noncomputable abbrev rIn:Nat × Bool × (List AV→M AV):=(114,true,c8 (aC cg (aC (cq aq) (aC aq a0))) ace)
theorem art (a b:az) (ha:cd a) (hb:cd b):wl PP [agl] 0 (Tryz.f65.body.getD .skip) (da PP Tryz.f65.results.toList (fun r st=>(r1 bo).get true st.h r=some (dy a b))) (cj 0 [ah.val false a,ah.val false b]) (bj []):=by
 have hna:=ha.owner
 have hnb:=hb.owner
 unfold dy xy zi zi zi zi
 unfold Tryz.f65
 simp only [fu]
 simp only [↓wR,RA,simprocAttr,TF,ae,zk,hna,hnb]
 rw [c9];refine ⟨fun ⟨h1,e1⟩=>?_,fun ⟨h1,e1⟩=>?_⟩
 ·rw [if_pos e1]
  simp only [↓wR,RA,simprocAttr,TF,ae,h1]
 rw [if_neg (by omega)]
 simp only [↓wR,RA,simprocAttr,TF,ae,h1]
 rw [c9];refine ⟨fun ⟨h2,e2⟩=>?_,fun ⟨h2,e2⟩=>?_⟩
 ·simp only [↓wR,RA,simprocAttr,TF,ae,h2]
  congr 1
  rw [decide_eq_decide]
  unfold ti
  split<;>split<;>omega
 ·simp only [↓wR,RA,simprocAttr,TF,ae,h2]
  congr 1
  rw [decide_eq_decide]
  unfold ti
  repeat' split
  all_goals omega
noncomputable def E0 (x:az × az × Unit):Option AV:=if cd x.1∧cd x.2.1 then some ((r1 bo).E true (dy x.1 x.2.1)) else none
set_option maxRecDepth 2000000 in
theorem ahd (x:az × az × Unit) (r:AV) (h:E0 x=some r):bk PP 65 ((aC ah (aC ah a0)).E x) r:=by
 by_cases hc:cd x.1∧cd x.2.1
 case neg=>simp only [E0,if_neg hc] at h;cases h
 simp only [E0,if_pos hc] at h
 cases h
 exact ay (ar.cons (ak K4) (ar.nil PP)) Tryz.func65 (by kernel_rfl) (by kernel_rfl) (by kernel_rfl) (Nat.le_of_ble_eq_true (by kernel_rfl)) (r1 bo) true (dy x.1 x.2.1) (art x.1 x.2.1 hc.1 hc.2)
noncomputable abbrev azu:Nat × Bool × (List AV→M AV):=(65,true,c8 (aC ah (aC ah a0)) E0)
theorem E7 {α:Type} (c:Bool) (x : α):(bif c then x else x)=x:=by cases c<;>rfl
theorem qb {α:Type} (X Y:List α) (p q : α):(X++p::Y).set X.length q=X++q::Y:=by
 rw [List.set_append];simp
theorem get_at {α:Type} (X Y:List α) (p : α):(X++p::Y)[X.length]? = some p:=by
 rw [List.getElem?_append_right (Nat.le_refl _),Nat.sub_self];rfl
theorem ac2 {α:Type} (C:dm α) {xs:List α} {i:Nat} {c : α} (hc:xs[i]? = some c):((cellsOf C true xs).drop (i * C.sz)).take C.sz=C.cells true c∧C.sz≤((cellsOf C true xs).drop (i * C.sz)).length:=by
 obtain ⟨hi,rfl⟩:=List.getElem?_eq_some_iff.1 hc
 rw [Aw,List.drop_eq_getElem_cons hi,zx]
 refine ⟨by rw [← C.len true xs[i],List.take_left],by rw [List.length_append,C.len];omega⟩
theorem Yd {α:Type} (C:dm α) {xs:List α} {i:Nat} {c : α} (y : α) (k:Nat) (et:TypeId) (id:Nat) (hc:xs[i]? = some c) :
 yc id (i * C.sz) C.sz (C.cells true y) (.row (cellsOf C true xs) 0 k et)=(qf id (.row (cellsOf C true (xs.set i y)) 0 k et)).bind fun _=>.pure (.sc undef):=by
 obtain ⟨hi,rfl⟩:=List.getElem?_eq_some_iff.1 hc
 have hl:(cellsOf C true xs).length=xs.length * C.sz:=jv C true xs
 have h1:(cellsOf C true xs).take (i * C.sz)=cellsOf C true (xs.take i):=F2 C true xs i
 have h3:(cellsOf C true xs).drop (i * C.sz+C.sz)=cellsOf C true (xs.drop (i+1)):=by
  rw [show i * C.sz+C.sz=(i+1) * C.sz by rw [Nat.succ_mul],Aw]
 have hlt:i * C.sz+C.sz≤xs.length * C.sz:=by rw [← Nat.succ_mul];exact Nat.mul_le_mul_right _ hi
 have h4:(cellsOf C true xs).take (i * C.sz)++C.cells true y++(cellsOf C true xs).drop (i * C.sz+C.sz)=cellsOf C true (xs.set i y):=by
  rw [h1,h3,List.set_eq_take_append_cons_drop,if_pos hi,xk,zx,List.append_assoc]
 have hone:(C.cells true y).all AV.one=true:=asq C true y
 have hb:Nat.beq (C.cells true y).length C.sz=true:=by rw [C.len];exact Nat.beq_refl _
 unfold yc
 simp only [hl,Nat.ble_eq_true_of_le hlt,h4,hone,hb]
 rfl
theorem ll {xs:List az} {i:Nat} {c:az} (k st et) (hc:xs[i]? = some c):B8 PP 31 (i * 5) (.row (cellsOf ah true xs) k st et) = .pure (ah.val true c):=by
 have h:=ac2 ah hc
 have h1:mz PP 31=some true:=by kernel_rfl
 have h2:dt PP 31=some 5:=by kernel_rfl
 have h3:((cellsOf ah true xs).drop (i * 5)).take 5=ah.cells true c:=h.1
 have h4:Nat.ble 5 ((cellsOf ah true xs).drop (i * 5)).length=true:=Nat.ble_eq_true_of_le h.2
 unfold B8 pk
 simp only [h1,h2,h3,h4,cond_true]
 rfl
theorem tv {xs:List az} {i:Nat} {c:az} (y:az) (k:Nat) (et:TypeId) (id:Nat) (hc:xs[i]? = some c) :
 yc id (i * 5) 5 [.vl true 1 (y.owner.map (aj.val false)),.sc (.int .u16 y.type.toNat),.sc (.int .u16 y.cls.toNat),.sc (.int .u32 y.ey.toNat),.vl true 4 (y.data.map (aq.val true))] (.row (cellsOf ah true xs) 0 k et)=(qf id (.row (cellsOf ah true (xs.set i y)) 0 k et)).bind fun _=>.pure (.sc undef):=
 Yd ah y k et id hc
theorem ki {xs:List bt} {i:Nat} {c:bt} (k st et) (hc:xs[i]? = some c):B8 PP 101 (i * 4) (.row (cellsOf aq true xs) k st et) = .pure (aq.val true c):=by
 have h:=ac2 aq hc
 have h1:mz PP 101=some true:=by kernel_rfl
 have h2:dt PP 101=some 4:=by kernel_rfl
 have h3:((cellsOf aq true xs).drop (i * 4)).take 4=aq.cells true c:=h.1
 have h4:Nat.ble 4 ((cellsOf aq true xs).drop (i * 4)).length=true:=Nat.ble_eq_true_of_le h.2
 unfold B8 pk
 simp only [h1,h2,h3,h4,cond_true]
 rfl
theorem sg {xs:List bt} {i:Nat} {c:bt} (y:bt) (k:Nat) (et:TypeId) (id:Nat) (hc:xs[i]? = some c) :
 yc id (i * 4) 4 [.vl true 1 (y.names.map (au.val true)),.vl true 1 (y.nums.map (cw.val false)),.vl true 1 (y.texts.map (aj.val false)),.vl true 1 (y.raw.map (bu.val false))] (.row (cellsOf aq true xs) 0 k et)=(qf id (.row (cellsOf aq true (xs.set i y)) 0 k et)).bind fun _=>.pure (.sc undef):=
 Yd aq y k et id hc
theorem fc {P:Program} {f:Nat} {args:List AV} {st:St} {R0 R:AV→St→Prop} (h1:ib P f args st R0) (h2:∀ r st',R0 r st'→R r st'):ib P f args st R:=by
 intro g w vs hok hfr hrel
 rcases h1 g w vs hok hfr hrel with ⟨v,w',g',r,st',q1,q2,q3⟩|⟨q1,q2⟩
 ·exact .inl ⟨v,w',g',r,st',q1,h2 _ _ q2,q3⟩
 ·refine .inr ⟨q1,q2.mono ?_⟩
  rintro e w' ⟨v,g',r,st',rfl,q2,q3⟩
  exact ⟨v,g',r,st',rfl,h2 _ _ q2,q3⟩
end Go.Proofs.YtgencolcibpcaaaGreat
end
