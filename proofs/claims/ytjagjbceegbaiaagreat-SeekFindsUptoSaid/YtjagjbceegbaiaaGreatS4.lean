/- A piece of the proof. Proved: where the arguments are together of bulk at most 1048576, the law SeekFinds returns true (where a name is in a zone), and what it was given reads afterwards as it did before. No other conditions. -/
import Derived.WalkKit
import Derived.CallsIn
import Derived.RangeFuncIn
import Derived.RangeFuncLeaves
import Derived.Orders
import Derived.OrdersIn
import Derived.Scope
import Derived.RangeFuncOwn
import Derived.Stop.SameAnswer
import Derived.Laws.Externs
import Derived.Lib.Bytealg
import Derived.ProofKit
import Derived.OpenShut
import Derived.ReadAgain
import Derived.Deep.Slices
import Derived.ChangeSame
import Derived.Test.YtjagjbceegbaiaaGreatProg
import Derived.KernelRfl
import Derived.Test.YtjagjbceegbaiaaGreatRows
import Derived.Maps.RangeRun
import Derived.Deep.RegionHeld3
import Derived.JoinedCond
import Derived.Test.YtjagjbceegbaiaaGreatS3
set_option linter.unusedSimpArgs false
set_option linter.unusedVariables false
set_option linter.unusedSectionVars false
section
namespace Go.Proofs.YtjagjbceegbaiaaGreat
open Go.Vm
set_option maxRecDepth 2000000
def cw (b:Bool) (err e:Int):Int:=if e=0∧b=false then err else e
def fp (err:Int) (p:Nat→bj→Bool):Nat→List bj→Int→Int
 |_,[],e=>e
 |i,s::r,e=>if e≠0 then e else fp err p (i+1) r (cw (p i s) err e)
def j8 (l:List bj):Nat:=l.foldl (fun n s=>n+s.data.length) 0
noncomputable def oe:List bj→Int→Int
 | [],e=>e
 |s::r,e=>oe r (if e=0 then ov s else e)
noncomputable def ot (z:ay):Int:=if da z.origin≠0 then da z.origin else oe z.aj (cw (decide (j8 z.aj≤2048)) 3 0)
def Ic (z:ay) (l:List bj):Bool:=l.any fun s=>decide ((s.type.toNat:Int)=2) && eg s.owner z.origin
def ib (z:ay):Bool:=Ic z z.aj
theorem ab7 {z:ay} {l:List bj} {i:Nat} {c:bj} (h:l.drop i=c::l.drop (i+1)):Ic z (l.drop i)=((decide ((c.type.toNat:Int)=2) && eg c.owner z.origin) || Ic z (l.drop (i+1))):=by rw [h];rfl
noncomputable def wk (z:ay):Int:=fp 260 (ga z) 0 z.aj (ot z)
noncomputable def El (z:ay):Int:=fp 261 (fun _ s=>ju s) 0 z.aj (wk z)
noncomputable def n5 (z:ay):Int:=fp 262 (fun _ s=>c7 s.owner z.origin) 0 z.aj (El z)
noncomputable def kz (z:ay):Int:=cw (decide ((fv z).1=1) && decide ((fv z).2=1)) 263 (n5 z)
noncomputable def wo (z:ay):Int:=cw (ib z) 264 (kz z)
noncomputable def wh (z:ay):Int:=fp 265 (jc z) 0 z.aj (wo z)
noncomputable def B2 (z:ay):Int:=fp 266 (fun _ s=>je s) 0 z.aj (wh z)
noncomputable def Ra (z:ay):Int:=fp 267 (fun _ s=>k5 z s) 0 z.aj (B2 z)
noncomputable def ng (z:ay):Int:=if ot z≠0 then ot z else Ra z
theorem Lq (l:List bj) (i:Nat) (c:bj) (h:l[i]? = some c):j8 (l.take (i+1))=j8 (l.take i)+c.data.length:=by
 obtain ⟨hk,rfl⟩:=List.getElem?_eq_some_iff.1 h
 rw [List.take_succ_eq_append_getElem hk];simp only [j8,List.foldl_append,List.foldl_cons,List.foldl_nil]
theorem acu (l:List bj):∀ k,l.foldl (fun n s=>n+s.data.length) k≤k+ko v5 l:=by
 induction l with
 |nil=>intro k;exact Nat.le_refl _
 |cons a l ih=>
  intro k
  have h1:=ih (k+a.data.length)
  have h2:=Du B7 a.data
  simp only [ko,List.foldr_cons,List.foldl_cons,v5] at h1 ⊢
  unfold ko at h2
  omega
theorem Iv (l:List bj):j8 l≤ko v5 l:=by have:=acu l 0;unfold j8;omega
theorem acz {l:List bj} {i:Nat} {c:bj} (h:l.drop i=c::l.drop (i+1)) (e:Int):oe (l.drop i) e=oe (l.drop (i+1)) (if e=0 then ov c else e):=by rw [h];rfl
theorem s6 {l:List bj} {i:Nat} {c:bj} (h:l.drop i=c::l.drop (i+1)) (err:Int) (p:Nat→bj→Bool) (e:Int):fp err p i (l.drop i) e=if e≠0 then e else fp err p (i+1) (l.drop (i+1)) (cw (p i c) err e):=by rw [h];rfl
set_option maxHeartbeats 4000000 in
theorem aeb (z:ay) (hz:bg z):wl PP [eu,fi,gm,jv,jw,jx,iy,lf,n9,ld] 0 (Tryz.f57.body.getD .skip) (ct PP Tryz.f57.results.toList (fun r st=>(r1 (au .i64)).get true st.h r=some (ng z))) (bp 0 [bc.val false z]) (bf []):=by
 have hl:=hz.len
 have ok:an PP [eu,fi,gm,jv,jw,jx,iy,lf,n9,ld]:=an.cons (ak pj) (an.cons (ak om) (an.cons (ak Jv) (an.cons (ak Pm) (an.cons (ak Of) (an.cons (ak N7) (an.cons (ak Kd) (an.cons (ak Rf) (an.cons (ak Yq) (an.cons (ak Qy) (an.nil PP))))))))))
 unfold Tryz.f57
 simp only [dr]
 simp only [↓wR,RA,simprocAttr,TF,ae]
 refine fc (fun r st'=>r = .gi []∧st'=bf [some (.row [.vl false 1 (z.origin.map (ag.val false)),.vl false 5 (z.aj.map (aq.val false))] 0 2 26),some (.row [.vl false 1 (z.origin.map (ag.val false)),.vl false 5 (z.aj.map (aq.val false)),.sc (.int .i64 (ot z))] 0 2 146)]) rfl ?_ ?_
 ·refine cz (T:=[eu,fi,gm,jv,jw,jx,iy,lf,n9,ld]) ok mixed Tryz.func94 rfl (by kernel_rfl) (by kernel_rfl) (by kernel_rfl) (by kernel_rfl) ?_;unfold Tryz.f94
  simp only [↓wR,RA,simprocAttr,TF,ae,o0,hz.origin.fit]
  unfold ot
  rw [ca];refine ⟨fun h=>?_,fun h=>?_⟩
  ·have he:da z.origin≠0:=by simpa using h
   rw [if_pos he]
   simp only [↓wR,RA,simprocAttr,TF,ae,h,jq,jk,i6]
  have he:da z.origin=0:=by simpa using h
  rw [if_neg (by omega)]
  simp only [↓wR,RA,simprocAttr,TF,ae,h,he]
  refine dg [0,2,25,26,27] (fun (i:Nat)=>[.ptr 1 0,.sc (.int .i64 (j8 (z.aj.take i))),.vl false 5 (z.aj.map (aq.val false)),.sc (.int .i64 (z.aj.length)),.sc (.int .i64 (i))]) (fun _=>[some (.row [.vl false 1 (z.origin.map (ag.val false)),.vl false 5 (z.aj.map (aq.val false))] 0 2 26),some (.row [.vl false 1 (z.origin.map (ag.val false)),.vl false 5 (z.aj.map (aq.val false)),.sc (.int .i64 (0))] 0 2 146)]) (fun i=>i≤z.aj.length) (fun i=>z.aj.length - i) 0 (Nat.zero_le _) (by simp only [↓wR,RA,simprocAttr,TF,ae]<;>rfl) (by simp only [↓wR,RA,simprocAttr,TF,ae]<;>rfl) ?_
  clear h
  intro i hi
  have hsum:=Iv (z.aj.take i)
  have hsum2:=Qo v5 z.aj i
  have hzz:ko v5 z.aj≤16777216:=by unfold bg Pj at hz;omega
  simp only [↓wR,RA,simprocAttr,TF,ae]
  rw [be];refine ⟨fun h=>?_,fun h=>?_⟩
  ·obtain ⟨c,hc,hd1,hlt⟩:=dq (decide_eq_true h)
   have hst:=Lq z.aj i c hc
   have hcl:=(hz.set c (List.mem_of_getElem? hc)).data.len
   simp only [↓wR,RA,simprocAttr,TF,ae,h,hc];repeat (simp (disch:=omega) only [ah,bw,bz,bu,bt];try simp only [↓wR,RA,simprocAttr,TF,ae,h,hc])
   exact ⟨i+1,hlt,by omega,by rw [hst];(first|rfl|trivial|omega|((try (simp (disch:=omega) only [ah]));(try (simp only [FB]));first|done|rfl|omega))⟩
  have hin:i=z.aj.length:=by omega
  rw [hin,List.take_length] at hsum ⊢
  simp only [↓wR,RA,simprocAttr,TF,ae,h]
  have hd:decide ((j8 z.aj:Int)≤2048)=decide (j8 z.aj≤2048):=by rw [decide_eq_decide];omega
  rw [hd]
  refine fc (fun r st'=>r = .gi []∧st'=bf [some (.row [.vl false 1 (z.origin.map (ag.val false)),.vl false 5 (z.aj.map (aq.val false))] 0 2 26),some (.row [.vl false 1 (z.origin.map (ag.val false)),.vl false 5 (z.aj.map (aq.val false)),.sc (.int .i64 (cw (decide (j8 z.aj≤2048)) 3 (0)))] 0 2 146)]) rfl ?_ ?_
  ·refine cz (T:=[eu,fi,gm,jv,jw,jx,iy,lf,n9,ld]) ok mixed Tryz.func100 rfl (by kernel_rfl) (by kernel_rfl) (by kernel_rfl) (by kernel_rfl) ?_;unfold Tryz.f100
   simp only [↓wR,RA,simprocAttr,TF,ae]
   rw [ca];refine ⟨fun hn2=>?_,fun hn2=>?_⟩
   ·have hb:(decide (j8 z.aj≤2048))=false:=by simpa only [Bool.not_eq_true'] using hn2
    have hv:cw (decide (j8 z.aj≤2048)) 3 (0)=3:=by unfold cw;rw [if_pos ⟨rfl,hb⟩]
    simp only [↓wR,RA,simprocAttr,TF,ae,hn2,jq,jk,i6]
    try rw [hv]
   ·have hb:(decide (j8 z.aj≤2048))=true:=by simpa only [Bool.not_eq_false'] using hn2
    have hv:cw (decide (j8 z.aj≤2048)) 3 (0)=0:=by unfold cw;rw [if_neg (fun q=>by rw [hb] at q;cases q.2)]
    simp only [↓wR,RA,simprocAttr,TF,ae,hn2,jq,jk,i6]
    try rw [hv]
  rintro _ _ ⟨rfl,rfl⟩
  simp only [↓wR,RA,simprocAttr,TF,ae,i5]
  refine dg [0,45,46,47] (fun (x:Nat × Int)=>[.ptr 1 0,.vl false 5 (z.aj.map (aq.val false)),.sc (.int .i64 (z.aj.length)),.sc (.int .i64 (x.1))]) (fun x=>[some (.row [.vl false 1 (z.origin.map (ag.val false)),.vl false 5 (z.aj.map (aq.val false))] 0 2 26),some (.row [.vl false 1 (z.origin.map (ag.val false)),.vl false 5 (z.aj.map (aq.val false)),.sc (.int .i64 (x.2))] 0 2 146)]) (fun x=>x.1≤z.aj.length∧oe z.aj (cw (decide (j8 z.aj≤2048)) 3 0)=oe (z.aj.drop x.1) x.2) (fun x=>z.aj.length - x.1) (0,cw (decide (j8 z.aj≤2048)) 3 0) ⟨Nat.zero_le _,rfl⟩ (by simp only [↓wR,RA,simprocAttr,TF,ae]<;>rfl) (by simp only [↓wR,RA,simprocAttr,TF,ae]<;>rfl) ?_
  clear h hi hin hd
  rintro ⟨i,e⟩ ⟨hi,hx⟩
  simp only at hi hx
  simp only [↓wR,RA,simprocAttr,TF,ae]
  rw [be];refine ⟨fun h=>?_,fun h=>?_⟩
  ·obtain ⟨c,hc,hd1,hlt⟩:=dq (decide_eq_true h)
   rw [acz hd1] at hx
   have hcs:=hz.set c (List.mem_of_getElem? hc)
   simp only [↓wR,RA,simprocAttr,TF,ae,h,hc]
   rw [b9];refine ⟨fun ⟨h1,e1⟩=>?_,fun ⟨h1,e1⟩=>?_⟩
   ·rw [if_pos e1] at hx
    simp only [↓wR,RA,simprocAttr,TF,ae,h1,x8,hcs];repeat (simp (disch:=omega) only [ah,bw,bz,bu,bt];try simp only [↓wR,RA,simprocAttr,TF,ae,h1,x8,hcs])
    exact ⟨(i+1,ov c),⟨hlt,hx⟩,by simp;omega,by (first|rfl|trivial|omega|((try (simp (disch:=omega) only [ah]));(try (simp only [FB]));first|done|rfl|omega)),by (first|rfl|trivial|omega|((try (simp (disch:=omega) only [ah]));(try (simp only [FB]));first|done|rfl|omega))⟩
   ·rw [if_neg e1] at hx
    simp only [↓wR,RA,simprocAttr,TF,ae,h1];repeat (simp (disch:=omega) only [ah,bw,bz,bu,bt];try simp only [↓wR,RA,simprocAttr,TF,ae,h1])
    exact ⟨(i+1,e),⟨hlt,hx⟩,by simp;omega,by (first|rfl|trivial|omega|((try (simp (disch:=omega) only [ah]));(try (simp only [FB]));first|done|rfl|omega)),by (first|rfl|trivial|omega|((try (simp (disch:=omega) only [ah]));(try (simp only [FB]));first|done|rfl|omega))⟩
  ·rw [en (decide_eq_false h)] at hx
   simp only [↓wR,RA,simprocAttr,TF,ae,h,jq,jk,i6]
   rw [hx];rfl
 rintro _ _ ⟨rfl,rfl⟩
 simp only [↓wR,RA,simprocAttr,TF,ae,i5]
 unfold ng
 rw [ca];refine ⟨fun h=>?_,fun h=>?_⟩
 ·have he:ot z≠0:=by simpa using h
  rw [if_pos he]
  simp only [↓wR,RA,simprocAttr,TF,ae,h]
 have he:ot z=0:=by simpa using h
 rw [if_neg (by omega)]
 simp only [↓wR,RA,simprocAttr,TF,ae,h]
 clear h he
 obtain ⟨e0,he0⟩:∃ e0,ot z=e0:=⟨_,rfl⟩
 rw [he0]
 refine fc (fun r st'=>r = .gi []∧st'=bf [some (.row [.vl false 1 (z.origin.map (ag.val false)),.vl false 5 (z.aj.map (aq.val false))] 0 2 26),some (.row [.vl false 1 (z.origin.map (ag.val false)),.vl false 5 (z.aj.map (aq.val false)),.sc (.int .i64 (fp 260 (ga z) 0 z.aj e0))] 0 2 146)]) rfl ?_ ?_
 ·refine cz (T:=[eu,fi,gm,jv,jw,jx,iy,lf,n9,ld]) ok mixed Tryz.func95 rfl (by kernel_rfl) (by kernel_rfl) (by kernel_rfl) (by kernel_rfl) ?_;unfold Tryz.f95
  simp only [↓wR,RA,simprocAttr,TF,ae]
  refine dg [0,1,2,12,13,14] (fun (x:Nat × Int)=>[.ptr 1 0,.sc (.int .i64 (260)),.fn (.func 96) [.ptr 1 0] [],.vl false 5 (z.aj.map (aq.val false)),.sc (.int .i64 (z.aj.length)),.sc (.int .i64 (x.1))]) (fun x=>[some (.row [.vl false 1 (z.origin.map (ag.val false)),.vl false 5 (z.aj.map (aq.val false))] 0 2 26),some (.row [.vl false 1 (z.origin.map (ag.val false)),.vl false 5 (z.aj.map (aq.val false)),.sc (.int .i64 (x.2))] 0 2 146)]) (fun x=>x.1≤z.aj.length∧fp 260 (ga z) 0 z.aj e0=fp 260 (ga z) x.1 (z.aj.drop x.1) x.2) (fun x=>z.aj.length - x.1) (0,e0) ⟨Nat.zero_le _,rfl⟩ (by simp only [↓wR,RA,simprocAttr,TF,ae]<;>rfl) (by simp only [↓wR,RA,simprocAttr,TF,ae]<;>rfl) ?_
  rintro ⟨i,e⟩ ⟨hi,hx⟩
  simp only at hi hx
  simp only [↓wR,RA,simprocAttr,TF,ae]
  rw [be];refine ⟨fun h=>?_,fun h=>?_⟩
  ·obtain ⟨c,hc,hd1,hlt⟩:=dq (decide_eq_true h)
   rw [s6 hd1] at hx
   have hcs:=hz.set c (List.mem_of_getElem? hc)
   have hi2:(0:Int)≤i∧(i:Int)≤z.aj.length:=by omega
   simp only [↓wR,RA,simprocAttr,TF,ae,h,hc]
   rw [c6];refine ⟨fun ⟨h1,e1⟩=>?_,fun ⟨h1,e1⟩=>?_⟩
   ·rw [if_pos e1] at hx
    simp only [↓wR,RA,simprocAttr,TF,ae,h1,jq,jk,i6]
    rw [hx]
   ·rw [if_neg (by omega)] at hx
    simp only [↓wR,RA,simprocAttr,TF,ae,h1,hcs,hz,hi2,Hd]
    refine fc (fun r st'=>r = .gi []∧st'=bf [some (.row [.vl false 1 (z.origin.map (ag.val false)),.vl false 5 (z.aj.map (aq.val false))] 0 2 26),some (.row [.vl false 1 (z.origin.map (ag.val false)),.vl false 5 (z.aj.map (aq.val false)),.sc (.int .i64 (cw ((ga z) i c) 260 e))] 0 2 146),some (.row [.vl false 1 (c.owner.map (ag.val false)),.sc (.int .u16 c.type.toNat),.sc (.int .u16 c.cls.toNat),.sc (.int .u32 c.j9.toNat),.vl false 4 (c.data.map (ba.val false))] 0 2 63)]) rfl ?_ ?_
    ·refine cz (T:=[eu,fi,gm,jv,jw,jx,iy,lf,n9,ld]) ok mixed Tryz.func100 rfl (by kernel_rfl) (by kernel_rfl) (by kernel_rfl) (by kernel_rfl) ?_;unfold Tryz.f100
     simp only [↓wR,RA,simprocAttr,TF,ae,e1]
     rw [ca];refine ⟨fun hn2=>?_,fun hn2=>?_⟩
     ·have hb:((ga z) i c)=false:=by simpa only [Bool.not_eq_true'] using hn2
      have hv:cw ((ga z) i c) 260 0=260:=by unfold cw;rw [if_pos ⟨rfl,hb⟩]
      simp only [↓wR,RA,simprocAttr,TF,ae,hn2,jq,jk,i6]
      try rw [hv]
     ·have hb:((ga z) i c)=true:=by simpa only [Bool.not_eq_false'] using hn2
      have hv:cw ((ga z) i c) 260 0=0:=by unfold cw;rw [if_neg (fun q=>by rw [hb] at q;cases q.2)]
      simp only [↓wR,RA,simprocAttr,TF,ae,hn2,jq,jk,i6]
      try rw [hv]
    rintro _ _ ⟨rfl,rfl⟩
    simp only [↓wR,RA,simprocAttr,TF,ae,i5];repeat (simp (disch:=omega) only [ah,bw,bz,bu,bt];try simp only [↓wR,RA,simprocAttr,TF,ae,i5])
    exact ⟨(i+1,cw ((ga z) i c) 260 e),⟨hlt,hx⟩,by simp;omega,by (first|rfl|trivial|omega|((try (simp (disch:=omega) only [ah]));(try (simp only [FB]));first|done|rfl|omega)),by (first|rfl|trivial|omega|((try (simp (disch:=omega) only [ah]));(try (simp only [FB]));first|done|rfl|omega))⟩
  ·rw [en (decide_eq_false h)] at hx
   simp only [↓wR,RA,simprocAttr,TF,ae,h,jq,jk,i6]
   rw [hx];rfl
 rintro _ _ ⟨rfl,rfl⟩
 rw [← he0]
 clear he0
 simp only [↓wR,RA,simprocAttr,TF,ae,i5]
 rw [show fp 260 (ga z) 0 z.aj (ot z)=wk z from rfl]
 obtain ⟨e0,he0⟩:∃ e0,wk z=e0:=⟨_,rfl⟩
 rw [he0]
 refine fc (fun r st'=>r = .gi []∧st'=bf [some (.row [.vl false 1 (z.origin.map (ag.val false)),.vl false 5 (z.aj.map (aq.val false))] 0 2 26),some (.row [.vl false 1 (z.origin.map (ag.val false)),.vl false 5 (z.aj.map (aq.val false)),.sc (.int .i64 (fp 261 (fun _ s=>ju s) 0 z.aj e0))] 0 2 146)]) rfl ?_ ?_
 ·refine cz (T:=[eu,fi,gm,jv,jw,jx,iy,lf,n9,ld]) ok mixed Tryz.func95 rfl (by kernel_rfl) (by kernel_rfl) (by kernel_rfl) (by kernel_rfl) ?_;unfold Tryz.f95
  simp only [↓wR,RA,simprocAttr,TF,ae]
  refine dg [0,1,2,12,13,14] (fun (x:Nat × Int)=>[.ptr 1 0,.sc (.int .i64 (261)),.sc (.func (.func 97) #[] #[]),.vl false 5 (z.aj.map (aq.val false)),.sc (.int .i64 (z.aj.length)),.sc (.int .i64 (x.1))]) (fun x=>[some (.row [.vl false 1 (z.origin.map (ag.val false)),.vl false 5 (z.aj.map (aq.val false))] 0 2 26),some (.row [.vl false 1 (z.origin.map (ag.val false)),.vl false 5 (z.aj.map (aq.val false)),.sc (.int .i64 (x.2))] 0 2 146)]) (fun x=>x.1≤z.aj.length∧fp 261 (fun _ s=>ju s) 0 z.aj e0=fp 261 (fun _ s=>ju s) x.1 (z.aj.drop x.1) x.2) (fun x=>z.aj.length - x.1) (0,e0) ⟨Nat.zero_le _,rfl⟩ (by simp only [↓wR,RA,simprocAttr,TF,ae]<;>rfl) (by simp only [↓wR,RA,simprocAttr,TF,ae]<;>rfl) ?_
  rintro ⟨i,e⟩ ⟨hi,hx⟩
  simp only at hi hx
  simp only [↓wR,RA,simprocAttr,TF,ae]
  rw [be];refine ⟨fun h=>?_,fun h=>?_⟩
  ·obtain ⟨c,hc,hd1,hlt⟩:=dq (decide_eq_true h)
   rw [s6 hd1] at hx
   have hcs:=hz.set c (List.mem_of_getElem? hc)
   have hi2:(0:Int)≤i∧(i:Int)≤z.aj.length:=by omega
   simp only [↓wR,RA,simprocAttr,TF,ae,h,hc]
   rw [c6];refine ⟨fun ⟨h1,e1⟩=>?_,fun ⟨h1,e1⟩=>?_⟩
   ·rw [if_pos e1] at hx
    simp only [↓wR,RA,simprocAttr,TF,ae,h1,jq,jk,i6]
    rw [hx]
   ·rw [if_neg (by omega)] at hx
    simp only [↓wR,RA,simprocAttr,TF,ae,h1,hcs,hz,hi2,U1]
    refine fc (fun r st'=>r = .gi []∧st'=bf [some (.row [.vl false 1 (z.origin.map (ag.val false)),.vl false 5 (z.aj.map (aq.val false))] 0 2 26),some (.row [.vl false 1 (z.origin.map (ag.val false)),.vl false 5 (z.aj.map (aq.val false)),.sc (.int .i64 (cw ((fun _ s=>ju s) i c) 261 e))] 0 2 146),some (.row [.vl false 1 (c.owner.map (ag.val false)),.sc (.int .u16 c.type.toNat),.sc (.int .u16 c.cls.toNat),.sc (.int .u32 c.j9.toNat),.vl false 4 (c.data.map (ba.val false))] 0 2 63)]) rfl ?_ ?_
    ·refine cz (T:=[eu,fi,gm,jv,jw,jx,iy,lf,n9,ld]) ok mixed Tryz.func100 rfl (by kernel_rfl) (by kernel_rfl) (by kernel_rfl) (by kernel_rfl) ?_;unfold Tryz.f100
     simp only [↓wR,RA,simprocAttr,TF,ae,e1]
     rw [ca];refine ⟨fun hn2=>?_,fun hn2=>?_⟩
     ·have hb:((fun _ s=>ju s) i c)=false:=by simpa only [Bool.not_eq_true'] using hn2
      have hv:cw ((fun _ s=>ju s) i c) 261 0=261:=by unfold cw;rw [if_pos ⟨rfl,hb⟩]
      simp only [↓wR,RA,simprocAttr,TF,ae,hn2,jq,jk,i6]
      try rw [hv]
     ·have hb:((fun _ s=>ju s) i c)=true:=by simpa only [Bool.not_eq_false'] using hn2
      have hv:cw ((fun _ s=>ju s) i c) 261 0=0:=by unfold cw;rw [if_neg (fun q=>by rw [hb] at q;cases q.2)]
      simp only [↓wR,RA,simprocAttr,TF,ae,hn2,jq,jk,i6]
      try rw [hv]
    rintro _ _ ⟨rfl,rfl⟩
    simp only [↓wR,RA,simprocAttr,TF,ae,i5];repeat (simp (disch:=omega) only [ah,bw,bz,bu,bt];try simp only [↓wR,RA,simprocAttr,TF,ae,i5])
    exact ⟨(i+1,cw ((fun _ s=>ju s) i c) 261 e),⟨hlt,hx⟩,by simp;omega,by (first|rfl|trivial|omega|((try (simp (disch:=omega) only [ah]));(try (simp only [FB]));first|done|rfl|omega)),by (first|rfl|trivial|omega|((try (simp (disch:=omega) only [ah]));(try (simp only [FB]));first|done|rfl|omega))⟩
  ·rw [en (decide_eq_false h)] at hx
   simp only [↓wR,RA,simprocAttr,TF,ae,h,jq,jk,i6]
   rw [hx];rfl
 rintro _ _ ⟨rfl,rfl⟩
 rw [← he0]
 clear he0
 simp only [↓wR,RA,simprocAttr,TF,ae,i5]
 rw [show fp 261 (fun _ s=>ju s) 0 z.aj (wk z)=El z from rfl]
 obtain ⟨e0,he0⟩:∃ e0,El z=e0:=⟨_,rfl⟩
 rw [he0]
 refine fc (fun r st'=>r = .gi []∧st'=bf [some (.row [.vl false 1 (z.origin.map (ag.val false)),.vl false 5 (z.aj.map (aq.val false))] 0 2 26),some (.row [.vl false 1 (z.origin.map (ag.val false)),.vl false 5 (z.aj.map (aq.val false)),.sc (.int .i64 (fp 262 (fun _ s=>c7 s.owner z.origin) 0 z.aj e0))] 0 2 146)]) rfl ?_ ?_
 ·refine cz (T:=[eu,fi,gm,jv,jw,jx,iy,lf,n9,ld]) ok mixed Tryz.func95 rfl (by kernel_rfl) (by kernel_rfl) (by kernel_rfl) (by kernel_rfl) ?_;unfold Tryz.f95
  simp only [↓wR,RA,simprocAttr,TF,ae]
  refine dg [0,1,2,12,13,14] (fun (x:Nat × Int)=>[.ptr 1 0,.sc (.int .i64 (262)),.fn (.func 98) [] [.ptr 0 0],.vl false 5 (z.aj.map (aq.val false)),.sc (.int .i64 (z.aj.length)),.sc (.int .i64 (x.1))]) (fun x=>[some (.row [.vl false 1 (z.origin.map (ag.val false)),.vl false 5 (z.aj.map (aq.val false))] 0 2 26),some (.row [.vl false 1 (z.origin.map (ag.val false)),.vl false 5 (z.aj.map (aq.val false)),.sc (.int .i64 (x.2))] 0 2 146)]) (fun x=>x.1≤z.aj.length∧fp 262 (fun _ s=>c7 s.owner z.origin) 0 z.aj e0=fp 262 (fun _ s=>c7 s.owner z.origin) x.1 (z.aj.drop x.1) x.2) (fun x=>z.aj.length - x.1) (0,e0) ⟨Nat.zero_le _,rfl⟩ (by simp only [↓wR,RA,simprocAttr,TF,ae]<;>rfl) (by simp only [↓wR,RA,simprocAttr,TF,ae]<;>rfl) ?_
  rintro ⟨i,e⟩ ⟨hi,hx⟩
  simp only at hi hx
  simp only [↓wR,RA,simprocAttr,TF,ae]
  rw [be];refine ⟨fun h=>?_,fun h=>?_⟩
  ·obtain ⟨c,hc,hd1,hlt⟩:=dq (decide_eq_true h)
   rw [s6 hd1] at hx
   have hcs:=hz.set c (List.mem_of_getElem? hc)
   have hi2:(0:Int)≤i∧(i:Int)≤z.aj.length:=by omega
   simp only [↓wR,RA,simprocAttr,TF,ae,h,hc]
   rw [c6];refine ⟨fun ⟨h1,e1⟩=>?_,fun ⟨h1,e1⟩=>?_⟩
   ·rw [if_pos e1] at hx
    simp only [↓wR,RA,simprocAttr,TF,ae,h1,jq,jk,i6]
    rw [hx]
   ·rw [if_neg (by omega)] at hx
    simp only [↓wR,RA,simprocAttr,TF,ae,h1,hcs,hz,hi2,Ef]
    refine fc (fun r st'=>r = .gi []∧st'=bf [some (.row [.vl false 1 (z.origin.map (ag.val false)),.vl false 5 (z.aj.map (aq.val false))] 0 2 26),some (.row [.vl false 1 (z.origin.map (ag.val false)),.vl false 5 (z.aj.map (aq.val false)),.sc (.int .i64 (cw ((fun _ s=>c7 s.owner z.origin) i c) 262 e))] 0 2 146),some (.row [.vl false 1 (c.owner.map (ag.val false)),.sc (.int .u16 c.type.toNat),.sc (.int .u16 c.cls.toNat),.sc (.int .u32 c.j9.toNat),.vl false 4 (c.data.map (ba.val false))] 0 2 63)]) rfl ?_ ?_
    ·refine cz (T:=[eu,fi,gm,jv,jw,jx,iy,lf,n9,ld]) ok mixed Tryz.func100 rfl (by kernel_rfl) (by kernel_rfl) (by kernel_rfl) (by kernel_rfl) ?_;unfold Tryz.f100
     simp only [↓wR,RA,simprocAttr,TF,ae,e1]
     rw [ca];refine ⟨fun hn2=>?_,fun hn2=>?_⟩
     ·have hb:((fun _ s=>c7 s.owner z.origin) i c)=false:=by simpa only [Bool.not_eq_true'] using hn2
      have hv:cw ((fun _ s=>c7 s.owner z.origin) i c) 262 0=262:=by unfold cw;rw [if_pos ⟨rfl,hb⟩]
      simp only [↓wR,RA,simprocAttr,TF,ae,hn2,jq,jk,i6]
      try rw [hv]
     ·have hb:((fun _ s=>c7 s.owner z.origin) i c)=true:=by simpa only [Bool.not_eq_false'] using hn2
      have hv:cw ((fun _ s=>c7 s.owner z.origin) i c) 262 0=0:=by unfold cw;rw [if_neg (fun q=>by rw [hb] at q;cases q.2)]
      simp only [↓wR,RA,simprocAttr,TF,ae,hn2,jq,jk,i6]
      try rw [hv]
    rintro _ _ ⟨rfl,rfl⟩
    simp only [↓wR,RA,simprocAttr,TF,ae,i5];repeat (simp (disch:=omega) only [ah,bw,bz,bu,bt];try simp only [↓wR,RA,simprocAttr,TF,ae,i5])
    exact ⟨(i+1,cw ((fun _ s=>c7 s.owner z.origin) i c) 262 e),⟨hlt,hx⟩,by simp;omega,by (first|rfl|trivial|omega|((try (simp (disch:=omega) only [ah]));(try (simp only [FB]));first|done|rfl|omega)),by (first|rfl|trivial|omega|((try (simp (disch:=omega) only [ah]));(try (simp only [FB]));first|done|rfl|omega))⟩
  ·rw [en (decide_eq_false h)] at hx
   simp only [↓wR,RA,simprocAttr,TF,ae,h,jq,jk,i6]
   rw [hx];rfl
 rintro _ _ ⟨rfl,rfl⟩
 rw [← he0]
 clear he0
 simp only [↓wR,RA,simprocAttr,TF,ae,i5,Kq,hz]
 rw [show fp 262 (fun _ s=>c7 s.owner z.origin) 0 z.aj (El z)=n5 z from rfl]
 rw [b9];refine ⟨fun ⟨hs1,es1⟩=>?_,fun ⟨hs1,es1⟩=>?_⟩
 ·simp only [↓wR,RA,simprocAttr,TF,ae,hs1]
  rw [show (((fv z).2:Int) == 1)=(decide ((fv z).1=1) && decide ((fv z).2=1)) from by rw [decide_eq_true (show (fv z).1=1 by omega),Bool.true_and,Bool.eq_iff_iff];simp;omega]
  refine fc (fun r st'=>r = .gi []∧st'=bf [some (.row [.vl false 1 (z.origin.map (ag.val false)),.vl false 5 (z.aj.map (aq.val false))] 0 2 26),some (.row [.vl false 1 (z.origin.map (ag.val false)),.vl false 5 (z.aj.map (aq.val false)),.sc (.int .i64 (cw (decide ((fv z).1=1) && decide ((fv z).2=1)) 263 (n5 z)))] 0 2 146)]) rfl ?_ ?_
  ·refine cz (T:=[eu,fi,gm,jv,jw,jx,iy,lf,n9,ld]) ok mixed Tryz.func100 rfl (by kernel_rfl) (by kernel_rfl) (by kernel_rfl) (by kernel_rfl) ?_;unfold Tryz.f100
   simp only [↓wR,RA,simprocAttr,TF,ae]
   rw [b9];refine ⟨fun ⟨hn1,en1⟩=>?_,fun ⟨hn1,en1⟩=>?_⟩
   ·simp only [↓wR,RA,simprocAttr,TF,ae,hn1]
    rw [ca];refine ⟨fun hn2=>?_,fun hn2=>?_⟩
    ·have hb:(decide ((fv z).1=1) && decide ((fv z).2=1))=false:=by simpa only [Bool.not_eq_true'] using hn2
     have hv:cw (decide ((fv z).1=1) && decide ((fv z).2=1)) 263 (n5 z)=263:=by unfold cw;rw [if_pos ⟨en1,hb⟩]
     simp only [↓wR,RA,simprocAttr,TF,ae,hn1,hn2,jq,jk,i6]
     try rw [hv]
    ·have hb:(decide ((fv z).1=1) && decide ((fv z).2=1))=true:=by simpa only [Bool.not_eq_false'] using hn2
     have hv:cw (decide ((fv z).1=1) && decide ((fv z).2=1)) 263 (n5 z)=n5 z:=by unfold cw;rw [if_neg (fun q=>by rw [hb] at q;cases q.2)]
     simp only [↓wR,RA,simprocAttr,TF,ae,hn1,hn2,jq,jk,i6]
     try rw [hv]
   ·have hv:cw (decide ((fv z).1=1) && decide ((fv z).2=1)) 263 (n5 z)=n5 z:=by unfold cw;rw [if_neg (fun q=>en1 q.1)]
    simp only [↓wR,RA,simprocAttr,TF,ae,hn1,jq,jk,i6]
    try rw [hv]
  rintro _ _ ⟨rfl,rfl⟩
  rw [show cw (decide ((fv z).1=1) && decide ((fv z).2=1)) 263 (n5 z)=kz z from rfl]
  simp only [↓wR,RA,simprocAttr,TF,ae,i5]
  refine cz (T:=[]) (an.nil PP) mixed Tryz.func78 rfl (by kernel_rfl) (by kernel_rfl) (by kernel_rfl) (by kernel_rfl) ?_;unfold Tryz.f78
  simp only [↓wR,RA,simprocAttr,TF,ae]
  refine ⟨[1,3,6,45],?_⟩
  have hib:Br PP 131=some (Tryz.f131.ntmps,Tryz.f131.body.getD .skip):=by kernel_rfl
  simp only [↓wR,RA,simprocAttr,TF,ae,hib]
  refine ⟨by kernel_rfl,fun l=>?_⟩
  unfold Tryz.f131
  simp only [↓wR,RA,simprocAttr,TF,ae]
  refine Fl [0,2,7,8,9] (fun (x:Nat × Bool)=>[.sc (.func (.yield l) #[] #[]),.ptr 4 0,.vl false 5 (z.aj.map (aq.val false)),.sc (.int .i64 (z.aj.length)),.sc (.int .i64 (x.1))]) (fun x=>[some (.row [.vl false 1 (z.origin.map (ag.val false)),.vl false 5 (z.aj.map (aq.val false))] 0 2 26),some (.row [.vl false 1 (z.origin.map (ag.val false)),.vl false 5 (z.aj.map (aq.val false)),.sc (.int .i64 (kz z))] 0 2 146),some (.row [.sc (.bool (x.2))] 0 2 4),some (.row [.vl false 1 (z.origin.map (ag.val false)),.vl false 5 (z.aj.map (aq.val false))] 0 2 26),some (.row [.sc (.int .u16 2)] 0 2 50)]) (fun x=>x.1≤z.aj.length∧ib z=(x.2 || Ic z (z.aj.drop x.1))) (fun x=>z.aj.length - x.1) (0,false) ⟨Nat.zero_le _,by rw [Bool.false_or];rfl⟩ (by simp only [↓wR,RA,simprocAttr,TF,ae]<;>rfl) (by simp only [↓wR,RA,simprocAttr,TF,ae]<;>rfl) ?_
  rintro ⟨i,b⟩ ⟨hi,hx⟩
  simp only at hi hx
  simp only [↓wR,RA,simprocAttr,TF,ae]
  rw [vq];refine ⟨fun h=>?_,fun h=>?_⟩
  ·obtain ⟨c,hc,hd1,hlt⟩:=dq h
   have hcs:=hz.set c (List.mem_of_getElem? hc)
   rw [ab7 hd1] at hx
   simp only [↓wR,RA,simprocAttr,TF,ae,h,hc]
   rw [vq];refine ⟨fun h2=>?_,fun h2=>?_⟩
   ·have e2:(c.type.toNat:Int)=2:=by simpa using h2
    rw [decide_eq_true e2,Bool.true_and] at hx
    simp only [↓wR,RA,simprocAttr,TF,ae,h2]
    refine z9 [0,2,7,8,9,17,19] ?_
    simp only [↓wR,RA,simprocAttr,TF,ae,zf,nb]
    cases b with
    |true=>
     simp only [↓wR,RA,simprocAttr,TF,ae];repeat (simp (disch:=omega) only [ah,bw,bz,bu,bt];try simp only [↓wR,RA,simprocAttr,TF,ae])
     exact ⟨(i+1,true),⟨hlt,by rw [hx];rfl⟩,by simp;omega,by (first|rfl|trivial|omega|((try (simp (disch:=omega) only [ah]));(try (simp only [FB]));first|done|rfl|omega)),by (first|rfl|trivial|omega|((try (simp (disch:=omega) only [ah]));(try (simp only [FB]));first|done|rfl|omega))⟩
    |false=>
     simp only [↓wR,RA,simprocAttr,TF,ae,lh,hcs.owner,hz.origin];repeat (simp (disch:=omega) only [ah,bw,bz,bu,bt];try simp only [↓wR,RA,simprocAttr,TF,ae,lh,hcs.owner,hz.origin])
     exact ⟨(i+1,eg c.owner z.origin),⟨hlt,by rw [hx,Bool.false_or]⟩,by simp;omega,by (first|rfl|trivial|omega|((try (simp (disch:=omega) only [ah]));(try (simp only [FB]));first|done|rfl|omega)),by (first|rfl|trivial|omega|((try (simp (disch:=omega) only [ah]));(try (simp only [FB]));first|done|rfl|omega))⟩
   ·have e2:¬ (c.type.toNat:Int)=2:=by simpa using h2
    rw [decide_eq_false e2,Bool.false_and,Bool.false_or] at hx
    simp only [↓wR,RA,simprocAttr,TF,ae,h2];repeat (simp (disch:=omega) only [ah,bw,bz,bu,bt];try simp only [↓wR,RA,simprocAttr,TF,ae,h2])
    exact ⟨(i+1,b),⟨hlt,hx⟩,by simp;omega,by (first|rfl|trivial|omega|((try (simp (disch:=omega) only [ah]));(try (simp only [FB]));first|done|rfl|omega)),by (first|rfl|trivial|omega|((try (simp (disch:=omega) only [ah]));(try (simp only [FB]));first|done|rfl|omega))⟩
  rw [en h] at hx
  have hb:b=ib z:=by rw [hx];simp [Ic]
  simp only [↓wR,RA,simprocAttr,TF,ae,h]
  rw [hb]
  clear h hx hb
  refine fc (fun r st'=>r = .gi []∧st'=bf [some (.row [.vl false 1 (z.origin.map (ag.val false)),.vl false 5 (z.aj.map (aq.val false))] 0 2 26),some (.row [.vl false 1 (z.origin.map (ag.val false)),.vl false 5 (z.aj.map (aq.val false)),.sc (.int .i64 (cw (ib z) 264 (kz z)))] 0 2 146),some (.row [.sc (.bool (ib z))] 0 2 4),some (.row [.vl false 1 (z.origin.map (ag.val false)),.vl false 5 (z.aj.map (aq.val false))] 0 2 26),some (.row [.sc (.int .u16 2)] 0 2 50)]) rfl ?_ ?_
  ·refine cz (T:=[eu,fi,gm,jv,jw,jx,iy,lf,n9,ld]) ok mixed Tryz.func100 rfl (by kernel_rfl) (by kernel_rfl) (by kernel_rfl) (by kernel_rfl) ?_;unfold Tryz.f100
   simp only [↓wR,RA,simprocAttr,TF,ae]
   rw [b9];refine ⟨fun ⟨hn1,en1⟩=>?_,fun ⟨hn1,en1⟩=>?_⟩
   ·simp only [↓wR,RA,simprocAttr,TF,ae,hn1]
    rw [ca];refine ⟨fun hn2=>?_,fun hn2=>?_⟩
    ·have hb:(ib z)=false:=by simpa only [Bool.not_eq_true'] using hn2
     have hv:cw (ib z) 264 (kz z)=264:=by unfold cw;rw [if_pos ⟨en1,hb⟩]
     simp only [↓wR,RA,simprocAttr,TF,ae,hn1,hn2,jq,jk,i6]
     try rw [hv]
    ·have hb:(ib z)=true:=by simpa only [Bool.not_eq_false'] using hn2
     have hv:cw (ib z) 264 (kz z)=kz z:=by unfold cw;rw [if_neg (fun q=>by rw [hb] at q;cases q.2)]
     simp only [↓wR,RA,simprocAttr,TF,ae,hn1,hn2,jq,jk,i6]
     try rw [hv]
   ·have hv:cw (ib z) 264 (kz z)=kz z:=by unfold cw;rw [if_neg (fun q=>en1 q.1)]
    simp only [↓wR,RA,simprocAttr,TF,ae,hn1,jq,jk,i6]
    try rw [hv]
  rintro _ _ ⟨rfl,rfl⟩
  rw [show cw (ib z) 264 (kz z)=wo z from rfl]
  simp only [↓wR,RA,simprocAttr,TF,ae,i5]
  obtain ⟨e0,he0⟩:∃ e0,wo z=e0:=⟨_,rfl⟩
  rw [he0]
  refine fc (fun r st'=>r = .gi []∧st'=bf [some (.row [.vl false 1 (z.origin.map (ag.val false)),.vl false 5 (z.aj.map (aq.val false))] 0 2 26),some (.row [.vl false 1 (z.origin.map (ag.val false)),.vl false 5 (z.aj.map (aq.val false)),.sc (.int .i64 (fp 265 (jc z) 0 z.aj e0))] 0 2 146),some (.row [.sc (.bool (ib z))] 0 2 4),some (.row [.vl false 1 (z.origin.map (ag.val false)),.vl false 5 (z.aj.map (aq.val false))] 0 2 26),some (.row [.sc (.int .u16 2)] 0 2 50)]) rfl ?_ ?_
  ·refine cz (T:=[eu,fi,gm,jv,jw,jx,iy,lf,n9,ld]) ok mixed Tryz.func95 rfl (by kernel_rfl) (by kernel_rfl) (by kernel_rfl) (by kernel_rfl) ?_;unfold Tryz.f95
   simp only [↓wR,RA,simprocAttr,TF,ae]
   refine dg [0,1,2,12,13,14] (fun (x:Nat × Int)=>[.ptr 1 0,.sc (.int .i64 (265)),.fn (.func 101) [.ptr 1 0] [],.vl false 5 (z.aj.map (aq.val false)),.sc (.int .i64 (z.aj.length)),.sc (.int .i64 (x.1))]) (fun x=>[some (.row [.vl false 1 (z.origin.map (ag.val false)),.vl false 5 (z.aj.map (aq.val false))] 0 2 26),some (.row [.vl false 1 (z.origin.map (ag.val false)),.vl false 5 (z.aj.map (aq.val false)),.sc (.int .i64 (x.2))] 0 2 146),some (.row [.sc (.bool (ib z))] 0 2 4),some (.row [.vl false 1 (z.origin.map (ag.val false)),.vl false 5 (z.aj.map (aq.val false))] 0 2 26),some (.row [.sc (.int .u16 2)] 0 2 50)]) (fun x=>x.1≤z.aj.length∧fp 265 (jc z) 0 z.aj e0=fp 265 (jc z) x.1 (z.aj.drop x.1) x.2) (fun x=>z.aj.length - x.1) (0,e0) ⟨Nat.zero_le _,rfl⟩ (by simp only [↓wR,RA,simprocAttr,TF,ae]<;>rfl) (by simp only [↓wR,RA,simprocAttr,TF,ae]<;>rfl) ?_
   rintro ⟨i,e⟩ ⟨hi,hx⟩
   simp only at hi hx
   simp only [↓wR,RA,simprocAttr,TF,ae]
   rw [be];refine ⟨fun h=>?_,fun h=>?_⟩
   ·obtain ⟨c,hc,hd1,hlt⟩:=dq (decide_eq_true h)
    rw [s6 hd1] at hx
    have hcs:=hz.set c (List.mem_of_getElem? hc)
    have hi2:(0:Int)≤i∧(i:Int)≤z.aj.length:=by omega
    simp only [↓wR,RA,simprocAttr,TF,ae,h,hc]
    rw [c6];refine ⟨fun ⟨h1,e1⟩=>?_,fun ⟨h1,e1⟩=>?_⟩
    ·rw [if_pos e1] at hx
     simp only [↓wR,RA,simprocAttr,TF,ae,h1,jq,jk,i6]
     rw [hx]
    ·rw [if_neg (by omega)] at hx
     simp only [↓wR,RA,simprocAttr,TF,ae,h1,hcs,hz,hi2,Dp]
     refine fc (fun r st'=>r = .gi []∧st'=bf [some (.row [.vl false 1 (z.origin.map (ag.val false)),.vl false 5 (z.aj.map (aq.val false))] 0 2 26),some (.row [.vl false 1 (z.origin.map (ag.val false)),.vl false 5 (z.aj.map (aq.val false)),.sc (.int .i64 (cw ((jc z) i c) 265 e))] 0 2 146),some (.row [.sc (.bool (ib z))] 0 2 4),some (.row [.vl false 1 (z.origin.map (ag.val false)),.vl false 5 (z.aj.map (aq.val false))] 0 2 26),some (.row [.sc (.int .u16 2)] 0 2 50),some (.row [.vl false 1 (c.owner.map (ag.val false)),.sc (.int .u16 c.type.toNat),.sc (.int .u16 c.cls.toNat),.sc (.int .u32 c.j9.toNat),.vl false 4 (c.data.map (ba.val false))] 0 2 63)]) rfl ?_ ?_
     ·refine cz (T:=[eu,fi,gm,jv,jw,jx,iy,lf,n9,ld]) ok mixed Tryz.func100 rfl (by kernel_rfl) (by kernel_rfl) (by kernel_rfl) (by kernel_rfl) ?_;unfold Tryz.f100
      simp only [↓wR,RA,simprocAttr,TF,ae,e1]
      rw [ca];refine ⟨fun hn2=>?_,fun hn2=>?_⟩
      ·have hb:((jc z) i c)=false:=by simpa only [Bool.not_eq_true'] using hn2
       have hv:cw ((jc z) i c) 265 0=265:=by unfold cw;rw [if_pos ⟨rfl,hb⟩]
       simp only [↓wR,RA,simprocAttr,TF,ae,hn2,jq,jk,i6]
       try rw [hv]
      ·have hb:((jc z) i c)=true:=by simpa only [Bool.not_eq_false'] using hn2
       have hv:cw ((jc z) i c) 265 0=0:=by unfold cw;rw [if_neg (fun q=>by rw [hb] at q;cases q.2)]
       simp only [↓wR,RA,simprocAttr,TF,ae,hn2,jq,jk,i6]
       try rw [hv]
     rintro _ _ ⟨rfl,rfl⟩
     simp only [↓wR,RA,simprocAttr,TF,ae,i5];repeat (simp (disch:=omega) only [ah,bw,bz,bu,bt];try simp only [↓wR,RA,simprocAttr,TF,ae,i5])
     exact ⟨(i+1,cw ((jc z) i c) 265 e),⟨hlt,hx⟩,by simp;omega,by (first|rfl|trivial|omega|((try (simp (disch:=omega) only [ah]));(try (simp only [FB]));first|done|rfl|omega)),by (first|rfl|trivial|omega|((try (simp (disch:=omega) only [ah]));(try (simp only [FB]));first|done|rfl|omega))⟩
   ·rw [en (decide_eq_false h)] at hx
    simp only [↓wR,RA,simprocAttr,TF,ae,h,jq,jk,i6]
    rw [hx];rfl
  rintro _ _ ⟨rfl,rfl⟩
  rw [← he0]
  clear he0
  simp only [↓wR,RA,simprocAttr,TF,ae,i5]
  rw [show fp 265 (jc z) 0 z.aj (wo z)=wh z from rfl]
  obtain ⟨e0,he0⟩:∃ e0,wh z=e0:=⟨_,rfl⟩
  rw [he0]
  refine fc (fun r st'=>r = .gi []∧st'=bf [some (.row [.vl false 1 (z.origin.map (ag.val false)),.vl false 5 (z.aj.map (aq.val false))] 0 2 26),some (.row [.vl false 1 (z.origin.map (ag.val false)),.vl false 5 (z.aj.map (aq.val false)),.sc (.int .i64 (fp 266 (fun _ s=>je s) 0 z.aj e0))] 0 2 146),some (.row [.sc (.bool (ib z))] 0 2 4),some (.row [.vl false 1 (z.origin.map (ag.val false)),.vl false 5 (z.aj.map (aq.val false))] 0 2 26),some (.row [.sc (.int .u16 2)] 0 2 50)]) rfl ?_ ?_
  ·refine cz (T:=[eu,fi,gm,jv,jw,jx,iy,lf,n9,ld]) ok mixed Tryz.func95 rfl (by kernel_rfl) (by kernel_rfl) (by kernel_rfl) (by kernel_rfl) ?_;unfold Tryz.f95
   simp only [↓wR,RA,simprocAttr,TF,ae]
   refine dg [0,1,2,12,13,14] (fun (x:Nat × Int)=>[.ptr 1 0,.sc (.int .i64 (266)),.sc (.func (.func 102) #[] #[]),.vl false 5 (z.aj.map (aq.val false)),.sc (.int .i64 (z.aj.length)),.sc (.int .i64 (x.1))]) (fun x=>[some (.row [.vl false 1 (z.origin.map (ag.val false)),.vl false 5 (z.aj.map (aq.val false))] 0 2 26),some (.row [.vl false 1 (z.origin.map (ag.val false)),.vl false 5 (z.aj.map (aq.val false)),.sc (.int .i64 (x.2))] 0 2 146),some (.row [.sc (.bool (ib z))] 0 2 4),some (.row [.vl false 1 (z.origin.map (ag.val false)),.vl false 5 (z.aj.map (aq.val false))] 0 2 26),some (.row [.sc (.int .u16 2)] 0 2 50)]) (fun x=>x.1≤z.aj.length∧fp 266 (fun _ s=>je s) 0 z.aj e0=fp 266 (fun _ s=>je s) x.1 (z.aj.drop x.1) x.2) (fun x=>z.aj.length - x.1) (0,e0) ⟨Nat.zero_le _,rfl⟩ (by simp only [↓wR,RA,simprocAttr,TF,ae]<;>rfl) (by simp only [↓wR,RA,simprocAttr,TF,ae]<;>rfl) ?_
   rintro ⟨i,e⟩ ⟨hi,hx⟩
   simp only at hi hx
   simp only [↓wR,RA,simprocAttr,TF,ae]
   rw [be];refine ⟨fun h=>?_,fun h=>?_⟩
   ·obtain ⟨c,hc,hd1,hlt⟩:=dq (decide_eq_true h)
    rw [s6 hd1] at hx
    have hcs:=hz.set c (List.mem_of_getElem? hc)
    have hi2:(0:Int)≤i∧(i:Int)≤z.aj.length:=by omega
    simp only [↓wR,RA,simprocAttr,TF,ae,h,hc]
    rw [c6];refine ⟨fun ⟨h1,e1⟩=>?_,fun ⟨h1,e1⟩=>?_⟩
    ·rw [if_pos e1] at hx
     simp only [↓wR,RA,simprocAttr,TF,ae,h1,jq,jk,i6]
     rw [hx]
    ·rw [if_neg (by omega)] at hx
     simp only [↓wR,RA,simprocAttr,TF,ae,h1,hcs,hz,hi2,Hz]
     refine fc (fun r st'=>r = .gi []∧st'=bf [some (.row [.vl false 1 (z.origin.map (ag.val false)),.vl false 5 (z.aj.map (aq.val false))] 0 2 26),some (.row [.vl false 1 (z.origin.map (ag.val false)),.vl false 5 (z.aj.map (aq.val false)),.sc (.int .i64 (cw ((fun _ s=>je s) i c) 266 e))] 0 2 146),some (.row [.sc (.bool (ib z))] 0 2 4),some (.row [.vl false 1 (z.origin.map (ag.val false)),.vl false 5 (z.aj.map (aq.val false))] 0 2 26),some (.row [.sc (.int .u16 2)] 0 2 50),some (.row [.vl false 1 (c.owner.map (ag.val false)),.sc (.int .u16 c.type.toNat),.sc (.int .u16 c.cls.toNat),.sc (.int .u32 c.j9.toNat),.vl false 4 (c.data.map (ba.val false))] 0 2 63)]) rfl ?_ ?_
     ·refine cz (T:=[eu,fi,gm,jv,jw,jx,iy,lf,n9,ld]) ok mixed Tryz.func100 rfl (by kernel_rfl) (by kernel_rfl) (by kernel_rfl) (by kernel_rfl) ?_;unfold Tryz.f100
      simp only [↓wR,RA,simprocAttr,TF,ae,e1]
      rw [ca];refine ⟨fun hn2=>?_,fun hn2=>?_⟩
      ·have hb:((fun _ s=>je s) i c)=false:=by simpa only [Bool.not_eq_true'] using hn2
       have hv:cw ((fun _ s=>je s) i c) 266 0=266:=by unfold cw;rw [if_pos ⟨rfl,hb⟩]
       simp only [↓wR,RA,simprocAttr,TF,ae,hn2,jq,jk,i6]
       try rw [hv]
      ·have hb:((fun _ s=>je s) i c)=true:=by simpa only [Bool.not_eq_false'] using hn2
       have hv:cw ((fun _ s=>je s) i c) 266 0=0:=by unfold cw;rw [if_neg (fun q=>by rw [hb] at q;cases q.2)]
       simp only [↓wR,RA,simprocAttr,TF,ae,hn2,jq,jk,i6]
       try rw [hv]
     rintro _ _ ⟨rfl,rfl⟩
     simp only [↓wR,RA,simprocAttr,TF,ae,i5];repeat (simp (disch:=omega) only [ah,bw,bz,bu,bt];try simp only [↓wR,RA,simprocAttr,TF,ae,i5])
     exact ⟨(i+1,cw ((fun _ s=>je s) i c) 266 e),⟨hlt,hx⟩,by simp;omega,by (first|rfl|trivial|omega|((try (simp (disch:=omega) only [ah]));(try (simp only [FB]));first|done|rfl|omega)),by (first|rfl|trivial|omega|((try (simp (disch:=omega) only [ah]));(try (simp only [FB]));first|done|rfl|omega))⟩
   ·rw [en (decide_eq_false h)] at hx
    simp only [↓wR,RA,simprocAttr,TF,ae,h,jq,jk,i6]
    rw [hx];rfl
  rintro _ _ ⟨rfl,rfl⟩
  rw [← he0]
  clear he0
  simp only [↓wR,RA,simprocAttr,TF,ae,i5]
  rw [show fp 266 (fun _ s=>je s) 0 z.aj (wh z)=B2 z from rfl]
  obtain ⟨e0,he0⟩:∃ e0,B2 z=e0:=⟨_,rfl⟩
  rw [he0]
  refine fc (fun r st'=>r = .gi []∧st'=bf [some (.row [.vl false 1 (z.origin.map (ag.val false)),.vl false 5 (z.aj.map (aq.val false))] 0 2 26),some (.row [.vl false 1 (z.origin.map (ag.val false)),.vl false 5 (z.aj.map (aq.val false)),.sc (.int .i64 (fp 267 (fun _ s=>k5 z s) 0 z.aj e0))] 0 2 146),some (.row [.sc (.bool (ib z))] 0 2 4),some (.row [.vl false 1 (z.origin.map (ag.val false)),.vl false 5 (z.aj.map (aq.val false))] 0 2 26),some (.row [.sc (.int .u16 2)] 0 2 50)]) rfl ?_ ?_
  ·refine cz (T:=[eu,fi,gm,jv,jw,jx,iy,lf,n9,ld]) ok mixed Tryz.func95 rfl (by kernel_rfl) (by kernel_rfl) (by kernel_rfl) (by kernel_rfl) ?_;unfold Tryz.f95
   simp only [↓wR,RA,simprocAttr,TF,ae]
   refine dg [0,1,2,12,13,14] (fun (x:Nat × Int)=>[.ptr 1 0,.sc (.int .i64 (267)),.fn (.func 103) [] [.ptr 0 0],.vl false 5 (z.aj.map (aq.val false)),.sc (.int .i64 (z.aj.length)),.sc (.int .i64 (x.1))]) (fun x=>[some (.row [.vl false 1 (z.origin.map (ag.val false)),.vl false 5 (z.aj.map (aq.val false))] 0 2 26),some (.row [.vl false 1 (z.origin.map (ag.val false)),.vl false 5 (z.aj.map (aq.val false)),.sc (.int .i64 (x.2))] 0 2 146),some (.row [.sc (.bool (ib z))] 0 2 4),some (.row [.vl false 1 (z.origin.map (ag.val false)),.vl false 5 (z.aj.map (aq.val false))] 0 2 26),some (.row [.sc (.int .u16 2)] 0 2 50)]) (fun x=>x.1≤z.aj.length∧fp 267 (fun _ s=>k5 z s) 0 z.aj e0=fp 267 (fun _ s=>k5 z s) x.1 (z.aj.drop x.1) x.2) (fun x=>z.aj.length - x.1) (0,e0) ⟨Nat.zero_le _,rfl⟩ (by simp only [↓wR,RA,simprocAttr,TF,ae]<;>rfl) (by simp only [↓wR,RA,simprocAttr,TF,ae]<;>rfl) ?_
   rintro ⟨i,e⟩ ⟨hi,hx⟩
   simp only at hi hx
   simp only [↓wR,RA,simprocAttr,TF,ae]
   rw [be];refine ⟨fun h=>?_,fun h=>?_⟩
   ·obtain ⟨c,hc,hd1,hlt⟩:=dq (decide_eq_true h)
    rw [s6 hd1] at hx
    have hcs:=hz.set c (List.mem_of_getElem? hc)
    have hi2:(0:Int)≤i∧(i:Int)≤z.aj.length:=by omega
    simp only [↓wR,RA,simprocAttr,TF,ae,h,hc]
    rw [c6];refine ⟨fun ⟨h1,e1⟩=>?_,fun ⟨h1,e1⟩=>?_⟩
    ·rw [if_pos e1] at hx
     simp only [↓wR,RA,simprocAttr,TF,ae,h1,jq,jk,i6]
     rw [hx]
    ·rw [if_neg (by omega)] at hx
     simp only [↓wR,RA,simprocAttr,TF,ae,h1,hcs,hz,hi2,Np]
     refine fc (fun r st'=>r = .gi []∧st'=bf [some (.row [.vl false 1 (z.origin.map (ag.val false)),.vl false 5 (z.aj.map (aq.val false))] 0 2 26),some (.row [.vl false 1 (z.origin.map (ag.val false)),.vl false 5 (z.aj.map (aq.val false)),.sc (.int .i64 (cw ((fun _ s=>k5 z s) i c) 267 e))] 0 2 146),some (.row [.sc (.bool (ib z))] 0 2 4),some (.row [.vl false 1 (z.origin.map (ag.val false)),.vl false 5 (z.aj.map (aq.val false))] 0 2 26),some (.row [.sc (.int .u16 2)] 0 2 50),some (.row [.vl false 1 (c.owner.map (ag.val false)),.sc (.int .u16 c.type.toNat),.sc (.int .u16 c.cls.toNat),.sc (.int .u32 c.j9.toNat),.vl false 4 (c.data.map (ba.val false))] 0 2 63)]) rfl ?_ ?_
     ·refine cz (T:=[eu,fi,gm,jv,jw,jx,iy,lf,n9,ld]) ok mixed Tryz.func100 rfl (by kernel_rfl) (by kernel_rfl) (by kernel_rfl) (by kernel_rfl) ?_;unfold Tryz.f100
      simp only [↓wR,RA,simprocAttr,TF,ae,e1]
      rw [ca];refine ⟨fun hn2=>?_,fun hn2=>?_⟩
      ·have hb:((fun _ s=>k5 z s) i c)=false:=by simpa only [Bool.not_eq_true'] using hn2
       have hv:cw ((fun _ s=>k5 z s) i c) 267 0=267:=by unfold cw;rw [if_pos ⟨rfl,hb⟩]
       simp only [↓wR,RA,simprocAttr,TF,ae,hn2,jq,jk,i6]
       try rw [hv]
      ·have hb:((fun _ s=>k5 z s) i c)=true:=by simpa only [Bool.not_eq_false'] using hn2
       have hv:cw ((fun _ s=>k5 z s) i c) 267 0=0:=by unfold cw;rw [if_neg (fun q=>by rw [hb] at q;cases q.2)]
       simp only [↓wR,RA,simprocAttr,TF,ae,hn2,jq,jk,i6]
       try rw [hv]
     rintro _ _ ⟨rfl,rfl⟩
     simp only [↓wR,RA,simprocAttr,TF,ae,i5];repeat (simp (disch:=omega) only [ah,bw,bz,bu,bt];try simp only [↓wR,RA,simprocAttr,TF,ae,i5])
     exact ⟨(i+1,cw ((fun _ s=>k5 z s) i c) 267 e),⟨hlt,hx⟩,by simp;omega,by (first|rfl|trivial|omega|((try (simp (disch:=omega) only [ah]));(try (simp only [FB]));first|done|rfl|omega)),by (first|rfl|trivial|omega|((try (simp (disch:=omega) only [ah]));(try (simp only [FB]));first|done|rfl|omega))⟩
   ·rw [en (decide_eq_false h)] at hx
    simp only [↓wR,RA,simprocAttr,TF,ae,h,jq,jk,i6]
    rw [hx];rfl
  rintro _ _ ⟨rfl,rfl⟩
  rw [← he0]
  clear he0
  simp only [↓wR,RA,simprocAttr,TF,ae,i5]
  rfl
 ·simp only [↓wR,RA,simprocAttr,TF,ae,hs1]
  have hbf:(decide ((fv z).1=1) && decide ((fv z).2=1))=false:=by rw [decide_eq_false (show ¬ (fv z).1=1 by omega),Bool.false_and]
  refine fc (fun r st'=>r = .gi []∧st'=bf [some (.row [.vl false 1 (z.origin.map (ag.val false)),.vl false 5 (z.aj.map (aq.val false))] 0 2 26),some (.row [.vl false 1 (z.origin.map (ag.val false)),.vl false 5 (z.aj.map (aq.val false)),.sc (.int .i64 (cw (decide ((fv z).1=1) && decide ((fv z).2=1)) 263 (n5 z)))] 0 2 146)]) rfl ?_ ?_
  ·refine cz (T:=[eu,fi,gm,jv,jw,jx,iy,lf,n9,ld]) ok mixed Tryz.func100 rfl (by kernel_rfl) (by kernel_rfl) (by kernel_rfl) (by kernel_rfl) ?_;unfold Tryz.f100
   simp only [↓wR,RA,simprocAttr,TF,ae]
   rw [b9];refine ⟨fun ⟨hn1,en1⟩=>?_,fun ⟨hn1,en1⟩=>?_⟩
   ·have hv:cw (decide ((fv z).1=1) && decide ((fv z).2=1)) 263 (n5 z)=263:=by unfold cw;rw [if_pos ⟨en1,hbf⟩]
    simp only [↓wR,RA,simprocAttr,TF,ae,hn1,jq,jk,i6]
    try rw [hv]
   ·have hv:cw (decide ((fv z).1=1) && decide ((fv z).2=1)) 263 (n5 z)=n5 z:=by unfold cw;rw [if_neg (fun q=>en1 q.1)]
    simp only [↓wR,RA,simprocAttr,TF,ae,hn1,jq,jk,i6]
    try rw [hv]
  rintro _ _ ⟨rfl,rfl⟩
  rw [show cw (decide ((fv z).1=1) && decide ((fv z).2=1)) 263 (n5 z)=kz z from rfl]
  simp only [↓wR,RA,simprocAttr,TF,ae,i5]
  refine cz (T:=[]) (an.nil PP) mixed Tryz.func78 rfl (by kernel_rfl) (by kernel_rfl) (by kernel_rfl) (by kernel_rfl) ?_;unfold Tryz.f78
  simp only [↓wR,RA,simprocAttr,TF,ae]
  refine ⟨[1,3,6,45],?_⟩
  have hib:Br PP 131=some (Tryz.f131.ntmps,Tryz.f131.body.getD .skip):=by kernel_rfl
  simp only [↓wR,RA,simprocAttr,TF,ae,hib]
  refine ⟨by kernel_rfl,fun l=>?_⟩
  unfold Tryz.f131
  simp only [↓wR,RA,simprocAttr,TF,ae]
  refine Fl [0,2,7,8,9] (fun (x:Nat × Bool)=>[.sc (.func (.yield l) #[] #[]),.ptr 4 0,.vl false 5 (z.aj.map (aq.val false)),.sc (.int .i64 (z.aj.length)),.sc (.int .i64 (x.1))]) (fun x=>[some (.row [.vl false 1 (z.origin.map (ag.val false)),.vl false 5 (z.aj.map (aq.val false))] 0 2 26),some (.row [.vl false 1 (z.origin.map (ag.val false)),.vl false 5 (z.aj.map (aq.val false)),.sc (.int .i64 (kz z))] 0 2 146),some (.row [.sc (.bool (x.2))] 0 2 4),some (.row [.vl false 1 (z.origin.map (ag.val false)),.vl false 5 (z.aj.map (aq.val false))] 0 2 26),some (.row [.sc (.int .u16 2)] 0 2 50)]) (fun x=>x.1≤z.aj.length∧ib z=(x.2 || Ic z (z.aj.drop x.1))) (fun x=>z.aj.length - x.1) (0,false) ⟨Nat.zero_le _,by rw [Bool.false_or];rfl⟩ (by simp only [↓wR,RA,simprocAttr,TF,ae]<;>rfl) (by simp only [↓wR,RA,simprocAttr,TF,ae]<;>rfl) ?_
  rintro ⟨i,b⟩ ⟨hi,hx⟩
  simp only at hi hx
  simp only [↓wR,RA,simprocAttr,TF,ae]
  rw [vq];refine ⟨fun h=>?_,fun h=>?_⟩
  ·obtain ⟨c,hc,hd1,hlt⟩:=dq h
   have hcs:=hz.set c (List.mem_of_getElem? hc)
   rw [ab7 hd1] at hx
   simp only [↓wR,RA,simprocAttr,TF,ae,h,hc]
   rw [vq];refine ⟨fun h2=>?_,fun h2=>?_⟩
   ·have e2:(c.type.toNat:Int)=2:=by simpa using h2
    rw [decide_eq_true e2,Bool.true_and] at hx
    simp only [↓wR,RA,simprocAttr,TF,ae,h2]
    refine z9 [0,2,7,8,9,17,19] ?_
    simp only [↓wR,RA,simprocAttr,TF,ae,zf,nb]
    cases b with
    |true=>
     simp only [↓wR,RA,simprocAttr,TF,ae];repeat (simp (disch:=omega) only [ah,bw,bz,bu,bt];try simp only [↓wR,RA,simprocAttr,TF,ae])
     exact ⟨(i+1,true),⟨hlt,by rw [hx];rfl⟩,by simp;omega,by (first|rfl|trivial|omega|((try (simp (disch:=omega) only [ah]));(try (simp only [FB]));first|done|rfl|omega)),by (first|rfl|trivial|omega|((try (simp (disch:=omega) only [ah]));(try (simp only [FB]));first|done|rfl|omega))⟩
    |false=>
     simp only [↓wR,RA,simprocAttr,TF,ae,lh,hcs.owner,hz.origin];repeat (simp (disch:=omega) only [ah,bw,bz,bu,bt];try simp only [↓wR,RA,simprocAttr,TF,ae,lh,hcs.owner,hz.origin])
     exact ⟨(i+1,eg c.owner z.origin),⟨hlt,by rw [hx,Bool.false_or]⟩,by simp;omega,by (first|rfl|trivial|omega|((try (simp (disch:=omega) only [ah]));(try (simp only [FB]));first|done|rfl|omega)),by (first|rfl|trivial|omega|((try (simp (disch:=omega) only [ah]));(try (simp only [FB]));first|done|rfl|omega))⟩
   ·have e2:¬ (c.type.toNat:Int)=2:=by simpa using h2
    rw [decide_eq_false e2,Bool.false_and,Bool.false_or] at hx
    simp only [↓wR,RA,simprocAttr,TF,ae,h2];repeat (simp (disch:=omega) only [ah,bw,bz,bu,bt];try simp only [↓wR,RA,simprocAttr,TF,ae,h2])
    exact ⟨(i+1,b),⟨hlt,hx⟩,by simp;omega,by (first|rfl|trivial|omega|((try (simp (disch:=omega) only [ah]));(try (simp only [FB]));first|done|rfl|omega)),by (first|rfl|trivial|omega|((try (simp (disch:=omega) only [ah]));(try (simp only [FB]));first|done|rfl|omega))⟩
  rw [en h] at hx
  have hb:b=ib z:=by rw [hx];simp [Ic]
  simp only [↓wR,RA,simprocAttr,TF,ae,h]
  rw [hb]
  clear h hx hb
  refine fc (fun r st'=>r = .gi []∧st'=bf [some (.row [.vl false 1 (z.origin.map (ag.val false)),.vl false 5 (z.aj.map (aq.val false))] 0 2 26),some (.row [.vl false 1 (z.origin.map (ag.val false)),.vl false 5 (z.aj.map (aq.val false)),.sc (.int .i64 (cw (ib z) 264 (kz z)))] 0 2 146),some (.row [.sc (.bool (ib z))] 0 2 4),some (.row [.vl false 1 (z.origin.map (ag.val false)),.vl false 5 (z.aj.map (aq.val false))] 0 2 26),some (.row [.sc (.int .u16 2)] 0 2 50)]) rfl ?_ ?_
  ·refine cz (T:=[eu,fi,gm,jv,jw,jx,iy,lf,n9,ld]) ok mixed Tryz.func100 rfl (by kernel_rfl) (by kernel_rfl) (by kernel_rfl) (by kernel_rfl) ?_;unfold Tryz.f100
   simp only [↓wR,RA,simprocAttr,TF,ae]
   rw [b9];refine ⟨fun ⟨hn1,en1⟩=>?_,fun ⟨hn1,en1⟩=>?_⟩
   ·simp only [↓wR,RA,simprocAttr,TF,ae,hn1]
    rw [ca];refine ⟨fun hn2=>?_,fun hn2=>?_⟩
    ·have hb:(ib z)=false:=by simpa only [Bool.not_eq_true'] using hn2
     have hv:cw (ib z) 264 (kz z)=264:=by unfold cw;rw [if_pos ⟨en1,hb⟩]
     simp only [↓wR,RA,simprocAttr,TF,ae,hn1,hn2,jq,jk,i6]
     try rw [hv]
    ·have hb:(ib z)=true:=by simpa only [Bool.not_eq_false'] using hn2
     have hv:cw (ib z) 264 (kz z)=kz z:=by unfold cw;rw [if_neg (fun q=>by rw [hb] at q;cases q.2)]
     simp only [↓wR,RA,simprocAttr,TF,ae,hn1,hn2,jq,jk,i6]
     try rw [hv]
   ·have hv:cw (ib z) 264 (kz z)=kz z:=by unfold cw;rw [if_neg (fun q=>en1 q.1)]
    simp only [↓wR,RA,simprocAttr,TF,ae,hn1,jq,jk,i6]
    try rw [hv]
  rintro _ _ ⟨rfl,rfl⟩
  rw [show cw (ib z) 264 (kz z)=wo z from rfl]
  simp only [↓wR,RA,simprocAttr,TF,ae,i5]
  obtain ⟨e0,he0⟩:∃ e0,wo z=e0:=⟨_,rfl⟩
  rw [he0]
  refine fc (fun r st'=>r = .gi []∧st'=bf [some (.row [.vl false 1 (z.origin.map (ag.val false)),.vl false 5 (z.aj.map (aq.val false))] 0 2 26),some (.row [.vl false 1 (z.origin.map (ag.val false)),.vl false 5 (z.aj.map (aq.val false)),.sc (.int .i64 (fp 265 (jc z) 0 z.aj e0))] 0 2 146),some (.row [.sc (.bool (ib z))] 0 2 4),some (.row [.vl false 1 (z.origin.map (ag.val false)),.vl false 5 (z.aj.map (aq.val false))] 0 2 26),some (.row [.sc (.int .u16 2)] 0 2 50)]) rfl ?_ ?_
  ·refine cz (T:=[eu,fi,gm,jv,jw,jx,iy,lf,n9,ld]) ok mixed Tryz.func95 rfl (by kernel_rfl) (by kernel_rfl) (by kernel_rfl) (by kernel_rfl) ?_;unfold Tryz.f95
   simp only [↓wR,RA,simprocAttr,TF,ae]
   refine dg [0,1,2,12,13,14] (fun (x:Nat × Int)=>[.ptr 1 0,.sc (.int .i64 (265)),.fn (.func 101) [.ptr 1 0] [],.vl false 5 (z.aj.map (aq.val false)),.sc (.int .i64 (z.aj.length)),.sc (.int .i64 (x.1))]) (fun x=>[some (.row [.vl false 1 (z.origin.map (ag.val false)),.vl false 5 (z.aj.map (aq.val false))] 0 2 26),some (.row [.vl false 1 (z.origin.map (ag.val false)),.vl false 5 (z.aj.map (aq.val false)),.sc (.int .i64 (x.2))] 0 2 146),some (.row [.sc (.bool (ib z))] 0 2 4),some (.row [.vl false 1 (z.origin.map (ag.val false)),.vl false 5 (z.aj.map (aq.val false))] 0 2 26),some (.row [.sc (.int .u16 2)] 0 2 50)]) (fun x=>x.1≤z.aj.length∧fp 265 (jc z) 0 z.aj e0=fp 265 (jc z) x.1 (z.aj.drop x.1) x.2) (fun x=>z.aj.length - x.1) (0,e0) ⟨Nat.zero_le _,rfl⟩ (by simp only [↓wR,RA,simprocAttr,TF,ae]<;>rfl) (by simp only [↓wR,RA,simprocAttr,TF,ae]<;>rfl) ?_
   rintro ⟨i,e⟩ ⟨hi,hx⟩
   simp only at hi hx
   simp only [↓wR,RA,simprocAttr,TF,ae]
   rw [be];refine ⟨fun h=>?_,fun h=>?_⟩
   ·obtain ⟨c,hc,hd1,hlt⟩:=dq (decide_eq_true h)
    rw [s6 hd1] at hx
    have hcs:=hz.set c (List.mem_of_getElem? hc)
    have hi2:(0:Int)≤i∧(i:Int)≤z.aj.length:=by omega
    simp only [↓wR,RA,simprocAttr,TF,ae,h,hc]
    rw [c6];refine ⟨fun ⟨h1,e1⟩=>?_,fun ⟨h1,e1⟩=>?_⟩
    ·rw [if_pos e1] at hx
     simp only [↓wR,RA,simprocAttr,TF,ae,h1,jq,jk,i6]
     rw [hx]
    ·rw [if_neg (by omega)] at hx
     simp only [↓wR,RA,simprocAttr,TF,ae,h1,hcs,hz,hi2,Dp]
     refine fc (fun r st'=>r = .gi []∧st'=bf [some (.row [.vl false 1 (z.origin.map (ag.val false)),.vl false 5 (z.aj.map (aq.val false))] 0 2 26),some (.row [.vl false 1 (z.origin.map (ag.val false)),.vl false 5 (z.aj.map (aq.val false)),.sc (.int .i64 (cw ((jc z) i c) 265 e))] 0 2 146),some (.row [.sc (.bool (ib z))] 0 2 4),some (.row [.vl false 1 (z.origin.map (ag.val false)),.vl false 5 (z.aj.map (aq.val false))] 0 2 26),some (.row [.sc (.int .u16 2)] 0 2 50),some (.row [.vl false 1 (c.owner.map (ag.val false)),.sc (.int .u16 c.type.toNat),.sc (.int .u16 c.cls.toNat),.sc (.int .u32 c.j9.toNat),.vl false 4 (c.data.map (ba.val false))] 0 2 63)]) rfl ?_ ?_
     ·refine cz (T:=[eu,fi,gm,jv,jw,jx,iy,lf,n9,ld]) ok mixed Tryz.func100 rfl (by kernel_rfl) (by kernel_rfl) (by kernel_rfl) (by kernel_rfl) ?_;unfold Tryz.f100
      simp only [↓wR,RA,simprocAttr,TF,ae,e1]
      rw [ca];refine ⟨fun hn2=>?_,fun hn2=>?_⟩
      ·have hb:((jc z) i c)=false:=by simpa only [Bool.not_eq_true'] using hn2
       have hv:cw ((jc z) i c) 265 0=265:=by unfold cw;rw [if_pos ⟨rfl,hb⟩]
       simp only [↓wR,RA,simprocAttr,TF,ae,hn2,jq,jk,i6]
       try rw [hv]
      ·have hb:((jc z) i c)=true:=by simpa only [Bool.not_eq_false'] using hn2
       have hv:cw ((jc z) i c) 265 0=0:=by unfold cw;rw [if_neg (fun q=>by rw [hb] at q;cases q.2)]
       simp only [↓wR,RA,simprocAttr,TF,ae,hn2,jq,jk,i6]
       try rw [hv]
     rintro _ _ ⟨rfl,rfl⟩
     simp only [↓wR,RA,simprocAttr,TF,ae,i5];repeat (simp (disch:=omega) only [ah,bw,bz,bu,bt];try simp only [↓wR,RA,simprocAttr,TF,ae,i5])
     exact ⟨(i+1,cw ((jc z) i c) 265 e),⟨hlt,hx⟩,by simp;omega,by (first|rfl|trivial|omega|((try (simp (disch:=omega) only [ah]));(try (simp only [FB]));first|done|rfl|omega)),by (first|rfl|trivial|omega|((try (simp (disch:=omega) only [ah]));(try (simp only [FB]));first|done|rfl|omega))⟩
   ·rw [en (decide_eq_false h)] at hx
    simp only [↓wR,RA,simprocAttr,TF,ae,h,jq,jk,i6]
    rw [hx];rfl
  rintro _ _ ⟨rfl,rfl⟩
  rw [← he0]
  clear he0
  simp only [↓wR,RA,simprocAttr,TF,ae,i5]
  rw [show fp 265 (jc z) 0 z.aj (wo z)=wh z from rfl]
  obtain ⟨e0,he0⟩:∃ e0,wh z=e0:=⟨_,rfl⟩
  rw [he0]
  refine fc (fun r st'=>r = .gi []∧st'=bf [some (.row [.vl false 1 (z.origin.map (ag.val false)),.vl false 5 (z.aj.map (aq.val false))] 0 2 26),some (.row [.vl false 1 (z.origin.map (ag.val false)),.vl false 5 (z.aj.map (aq.val false)),.sc (.int .i64 (fp 266 (fun _ s=>je s) 0 z.aj e0))] 0 2 146),some (.row [.sc (.bool (ib z))] 0 2 4),some (.row [.vl false 1 (z.origin.map (ag.val false)),.vl false 5 (z.aj.map (aq.val false))] 0 2 26),some (.row [.sc (.int .u16 2)] 0 2 50)]) rfl ?_ ?_
  ·refine cz (T:=[eu,fi,gm,jv,jw,jx,iy,lf,n9,ld]) ok mixed Tryz.func95 rfl (by kernel_rfl) (by kernel_rfl) (by kernel_rfl) (by kernel_rfl) ?_;unfold Tryz.f95
   simp only [↓wR,RA,simprocAttr,TF,ae]
   refine dg [0,1,2,12,13,14] (fun (x:Nat × Int)=>[.ptr 1 0,.sc (.int .i64 (266)),.sc (.func (.func 102) #[] #[]),.vl false 5 (z.aj.map (aq.val false)),.sc (.int .i64 (z.aj.length)),.sc (.int .i64 (x.1))]) (fun x=>[some (.row [.vl false 1 (z.origin.map (ag.val false)),.vl false 5 (z.aj.map (aq.val false))] 0 2 26),some (.row [.vl false 1 (z.origin.map (ag.val false)),.vl false 5 (z.aj.map (aq.val false)),.sc (.int .i64 (x.2))] 0 2 146),some (.row [.sc (.bool (ib z))] 0 2 4),some (.row [.vl false 1 (z.origin.map (ag.val false)),.vl false 5 (z.aj.map (aq.val false))] 0 2 26),some (.row [.sc (.int .u16 2)] 0 2 50)]) (fun x=>x.1≤z.aj.length∧fp 266 (fun _ s=>je s) 0 z.aj e0=fp 266 (fun _ s=>je s) x.1 (z.aj.drop x.1) x.2) (fun x=>z.aj.length - x.1) (0,e0) ⟨Nat.zero_le _,rfl⟩ (by simp only [↓wR,RA,simprocAttr,TF,ae]<;>rfl) (by simp only [↓wR,RA,simprocAttr,TF,ae]<;>rfl) ?_
   rintro ⟨i,e⟩ ⟨hi,hx⟩
   simp only at hi hx
   simp only [↓wR,RA,simprocAttr,TF,ae]
   rw [be];refine ⟨fun h=>?_,fun h=>?_⟩
   ·obtain ⟨c,hc,hd1,hlt⟩:=dq (decide_eq_true h)
    rw [s6 hd1] at hx
    have hcs:=hz.set c (List.mem_of_getElem? hc)
    have hi2:(0:Int)≤i∧(i:Int)≤z.aj.length:=by omega
    simp only [↓wR,RA,simprocAttr,TF,ae,h,hc]
    rw [c6];refine ⟨fun ⟨h1,e1⟩=>?_,fun ⟨h1,e1⟩=>?_⟩
    ·rw [if_pos e1] at hx
     simp only [↓wR,RA,simprocAttr,TF,ae,h1,jq,jk,i6]
     rw [hx]
    ·rw [if_neg (by omega)] at hx
     simp only [↓wR,RA,simprocAttr,TF,ae,h1,hcs,hz,hi2,Hz]
     refine fc (fun r st'=>r = .gi []∧st'=bf [some (.row [.vl false 1 (z.origin.map (ag.val false)),.vl false 5 (z.aj.map (aq.val false))] 0 2 26),some (.row [.vl false 1 (z.origin.map (ag.val false)),.vl false 5 (z.aj.map (aq.val false)),.sc (.int .i64 (cw ((fun _ s=>je s) i c) 266 e))] 0 2 146),some (.row [.sc (.bool (ib z))] 0 2 4),some (.row [.vl false 1 (z.origin.map (ag.val false)),.vl false 5 (z.aj.map (aq.val false))] 0 2 26),some (.row [.sc (.int .u16 2)] 0 2 50),some (.row [.vl false 1 (c.owner.map (ag.val false)),.sc (.int .u16 c.type.toNat),.sc (.int .u16 c.cls.toNat),.sc (.int .u32 c.j9.toNat),.vl false 4 (c.data.map (ba.val false))] 0 2 63)]) rfl ?_ ?_
     ·refine cz (T:=[eu,fi,gm,jv,jw,jx,iy,lf,n9,ld]) ok mixed Tryz.func100 rfl (by kernel_rfl) (by kernel_rfl) (by kernel_rfl) (by kernel_rfl) ?_;unfold Tryz.f100
      simp only [↓wR,RA,simprocAttr,TF,ae,e1]
      rw [ca];refine ⟨fun hn2=>?_,fun hn2=>?_⟩
      ·have hb:((fun _ s=>je s) i c)=false:=by simpa only [Bool.not_eq_true'] using hn2
       have hv:cw ((fun _ s=>je s) i c) 266 0=266:=by unfold cw;rw [if_pos ⟨rfl,hb⟩]
       simp only [↓wR,RA,simprocAttr,TF,ae,hn2,jq,jk,i6]
       try rw [hv]
      ·have hb:((fun _ s=>je s) i c)=true:=by simpa only [Bool.not_eq_false'] using hn2
       have hv:cw ((fun _ s=>je s) i c) 266 0=0:=by unfold cw;rw [if_neg (fun q=>by rw [hb] at q;cases q.2)]
       simp only [↓wR,RA,simprocAttr,TF,ae,hn2,jq,jk,i6]
       try rw [hv]
     rintro _ _ ⟨rfl,rfl⟩
     simp only [↓wR,RA,simprocAttr,TF,ae,i5];repeat (simp (disch:=omega) only [ah,bw,bz,bu,bt];try simp only [↓wR,RA,simprocAttr,TF,ae,i5])
     exact ⟨(i+1,cw ((fun _ s=>je s) i c) 266 e),⟨hlt,hx⟩,by simp;omega,by (first|rfl|trivial|omega|((try (simp (disch:=omega) only [ah]));(try (simp only [FB]));first|done|rfl|omega)),by (first|rfl|trivial|omega|((try (simp (disch:=omega) only [ah]));(try (simp only [FB]));first|done|rfl|omega))⟩
   ·rw [en (decide_eq_false h)] at hx
    simp only [↓wR,RA,simprocAttr,TF,ae,h,jq,jk,i6]
    rw [hx];rfl
  rintro _ _ ⟨rfl,rfl⟩
  rw [← he0]
  clear he0
  simp only [↓wR,RA,simprocAttr,TF,ae,i5]
  rw [show fp 266 (fun _ s=>je s) 0 z.aj (wh z)=B2 z from rfl]
  obtain ⟨e0,he0⟩:∃ e0,B2 z=e0:=⟨_,rfl⟩
  rw [he0]
  refine fc (fun r st'=>r = .gi []∧st'=bf [some (.row [.vl false 1 (z.origin.map (ag.val false)),.vl false 5 (z.aj.map (aq.val false))] 0 2 26),some (.row [.vl false 1 (z.origin.map (ag.val false)),.vl false 5 (z.aj.map (aq.val false)),.sc (.int .i64 (fp 267 (fun _ s=>k5 z s) 0 z.aj e0))] 0 2 146),some (.row [.sc (.bool (ib z))] 0 2 4),some (.row [.vl false 1 (z.origin.map (ag.val false)),.vl false 5 (z.aj.map (aq.val false))] 0 2 26),some (.row [.sc (.int .u16 2)] 0 2 50)]) rfl ?_ ?_
  ·refine cz (T:=[eu,fi,gm,jv,jw,jx,iy,lf,n9,ld]) ok mixed Tryz.func95 rfl (by kernel_rfl) (by kernel_rfl) (by kernel_rfl) (by kernel_rfl) ?_;unfold Tryz.f95
   simp only [↓wR,RA,simprocAttr,TF,ae]
   refine dg [0,1,2,12,13,14] (fun (x:Nat × Int)=>[.ptr 1 0,.sc (.int .i64 (267)),.fn (.func 103) [] [.ptr 0 0],.vl false 5 (z.aj.map (aq.val false)),.sc (.int .i64 (z.aj.length)),.sc (.int .i64 (x.1))]) (fun x=>[some (.row [.vl false 1 (z.origin.map (ag.val false)),.vl false 5 (z.aj.map (aq.val false))] 0 2 26),some (.row [.vl false 1 (z.origin.map (ag.val false)),.vl false 5 (z.aj.map (aq.val false)),.sc (.int .i64 (x.2))] 0 2 146),some (.row [.sc (.bool (ib z))] 0 2 4),some (.row [.vl false 1 (z.origin.map (ag.val false)),.vl false 5 (z.aj.map (aq.val false))] 0 2 26),some (.row [.sc (.int .u16 2)] 0 2 50)]) (fun x=>x.1≤z.aj.length∧fp 267 (fun _ s=>k5 z s) 0 z.aj e0=fp 267 (fun _ s=>k5 z s) x.1 (z.aj.drop x.1) x.2) (fun x=>z.aj.length - x.1) (0,e0) ⟨Nat.zero_le _,rfl⟩ (by simp only [↓wR,RA,simprocAttr,TF,ae]<;>rfl) (by simp only [↓wR,RA,simprocAttr,TF,ae]<;>rfl) ?_
   rintro ⟨i,e⟩ ⟨hi,hx⟩
   simp only at hi hx
   simp only [↓wR,RA,simprocAttr,TF,ae]
   rw [be];refine ⟨fun h=>?_,fun h=>?_⟩
   ·obtain ⟨c,hc,hd1,hlt⟩:=dq (decide_eq_true h)
    rw [s6 hd1] at hx
    have hcs:=hz.set c (List.mem_of_getElem? hc)
    have hi2:(0:Int)≤i∧(i:Int)≤z.aj.length:=by omega
    simp only [↓wR,RA,simprocAttr,TF,ae,h,hc]
    rw [c6];refine ⟨fun ⟨h1,e1⟩=>?_,fun ⟨h1,e1⟩=>?_⟩
    ·rw [if_pos e1] at hx
     simp only [↓wR,RA,simprocAttr,TF,ae,h1,jq,jk,i6]
     rw [hx]
    ·rw [if_neg (by omega)] at hx
     simp only [↓wR,RA,simprocAttr,TF,ae,h1,hcs,hz,hi2,Np]
     refine fc (fun r st'=>r = .gi []∧st'=bf [some (.row [.vl false 1 (z.origin.map (ag.val false)),.vl false 5 (z.aj.map (aq.val false))] 0 2 26),some (.row [.vl false 1 (z.origin.map (ag.val false)),.vl false 5 (z.aj.map (aq.val false)),.sc (.int .i64 (cw ((fun _ s=>k5 z s) i c) 267 e))] 0 2 146),some (.row [.sc (.bool (ib z))] 0 2 4),some (.row [.vl false 1 (z.origin.map (ag.val false)),.vl false 5 (z.aj.map (aq.val false))] 0 2 26),some (.row [.sc (.int .u16 2)] 0 2 50),some (.row [.vl false 1 (c.owner.map (ag.val false)),.sc (.int .u16 c.type.toNat),.sc (.int .u16 c.cls.toNat),.sc (.int .u32 c.j9.toNat),.vl false 4 (c.data.map (ba.val false))] 0 2 63)]) rfl ?_ ?_
     ·refine cz (T:=[eu,fi,gm,jv,jw,jx,iy,lf,n9,ld]) ok mixed Tryz.func100 rfl (by kernel_rfl) (by kernel_rfl) (by kernel_rfl) (by kernel_rfl) ?_;unfold Tryz.f100
      simp only [↓wR,RA,simprocAttr,TF,ae,e1]
      rw [ca];refine ⟨fun hn2=>?_,fun hn2=>?_⟩
      ·have hb:((fun _ s=>k5 z s) i c)=false:=by simpa only [Bool.not_eq_true'] using hn2
       have hv:cw ((fun _ s=>k5 z s) i c) 267 0=267:=by unfold cw;rw [if_pos ⟨rfl,hb⟩]
       simp only [↓wR,RA,simprocAttr,TF,ae,hn2,jq,jk,i6]
       try rw [hv]
      ·have hb:((fun _ s=>k5 z s) i c)=true:=by simpa only [Bool.not_eq_false'] using hn2
       have hv:cw ((fun _ s=>k5 z s) i c) 267 0=0:=by unfold cw;rw [if_neg (fun q=>by rw [hb] at q;cases q.2)]
       simp only [↓wR,RA,simprocAttr,TF,ae,hn2,jq,jk,i6]
       try rw [hv]
     rintro _ _ ⟨rfl,rfl⟩
     simp only [↓wR,RA,simprocAttr,TF,ae,i5];repeat (simp (disch:=omega) only [ah,bw,bz,bu,bt];try simp only [↓wR,RA,simprocAttr,TF,ae,i5])
     exact ⟨(i+1,cw ((fun _ s=>k5 z s) i c) 267 e),⟨hlt,hx⟩,by simp;omega,by (first|rfl|trivial|omega|((try (simp (disch:=omega) only [ah]));(try (simp only [FB]));first|done|rfl|omega)),by (first|rfl|trivial|omega|((try (simp (disch:=omega) only [ah]));(try (simp only [FB]));first|done|rfl|omega))⟩
   ·rw [en (decide_eq_false h)] at hx
    simp only [↓wR,RA,simprocAttr,TF,ae,h,jq,jk,i6]
    rw [hx];rfl
  rintro _ _ ⟨rfl,rfl⟩
  rw [← he0]
  clear he0
  simp only [↓wR,RA,simprocAttr,TF,ae,i5]
  rfl
noncomputable def G8 (x:ay × Unit):Option AV:=if bg x.1 then some ((r1 (au .i64)).E true (ng x.1)) else none
set_option maxRecDepth 2000000 in
theorem afj (x:ay × Unit) (r:AV) (h:G8 x=some r):bb PP 57 ((aC bc a0).E x) r:=by
 by_cases hc:bg x.1
 case neg=>simp only [G8,if_neg hc] at h;cases h
 simp only [G8,if_pos hc] at h
 cases h
 exact ar (an.cons (ak pj) (an.cons (ak om) (an.cons (ak Jv) (an.cons (ak Pm) (an.cons (ak Of) (an.cons (ak N7) (an.cons (ak Kd) (an.cons (ak Rf) (an.cons (ak Yq) (an.cons (ak Qy) (an.nil PP))))))))))) Tryz.func57 (by kernel_rfl) (by kernel_rfl) (by kernel_rfl) (Nat.le_of_ble_eq_true (by kernel_rfl)) (r1 (au .i64)) true (ng x.1) (aeb x.1 hc)
noncomputable abbrev ax7:Nat × Bool × (List AV→M AV):=(57,true,cg (aC bc a0) G8)
end Go.Proofs.YtjagjbceegbaiaaGreat
end
section
namespace Go.Proofs.YtjagjbceegbaiaaGreat
open Go.Vm
theorem vx {err:Int} (he:err≠0) (p:Nat→bj→Bool):∀ (l:List bj) (i:Nat) (e:Int),fp err p i l e=0→e=0∧∀ k s,l[k]? = some s→p (i+k) s=true:=by
 intro l
 induction l with
 |nil=>intro i e h;exact ⟨h,fun k s hs=>by simp at hs⟩
 |cons a l ih=>
  intro i e h
  rw [fp] at h
  split at h
  ·contradiction
  ·rename_i h0
   have h0:e=0:=by omega
   obtain ⟨h1,h2⟩:=ih (i+1) _ h
   refine ⟨h0,fun k s hs=>?_⟩
   cases k with
   |zero=>
    simp at hs
    subst hs
    cases hp:p i a with
    |true=>simp [hp]
    |false=>rw [cw,if_pos ⟨h0,hp⟩] at h1;exact (he h1).elim
   |succ k=>
    have:=h2 k s (by simpa using hs)
    rwa [show i+1+k=i+(k+1) from by omega] at this
theorem Tc {b:Bool} {err e:Int} (he:err≠0) (h:cw b err e=0):e=0∧b=true:=by
 unfold cw at h
 split at h
 ·exact (he h).elim
 ·rename_i hn
  refine ⟨h,?_⟩
  cases b with
  |true=>rfl
  |false=>exact (hn ⟨h,rfl⟩).elim
structure auo (z:ay):Prop where
 first:ot z=0
 aBh:∀ k s,z.aj[k]? = some s→ga z k s=true
 cls:∀ s ∈ z.aj,ju s=true
 inside:∀ s ∈ z.aj,c7 s.owner z.origin=true
 aBj:(fv z).1=1∧(fv z).2=1
 aBi:ib z=true
 alone:∀ k s,z.aj[k]? = some s→jc z k s=true
 star:∀ s ∈ z.aj,je s=true
 occ:∀ s ∈ z.aj,k5 z s=true
theorem azt {z:ay} (h:ng z=0):auo z:=by
 unfold ng at h
 split at h
 ·contradiction
 rename_i h0
 obtain ⟨h7,p8⟩:=vx (by decide) _ _ _ _ h
 obtain ⟨h6,p7⟩:=vx (by decide) _ _ _ _ h7
 obtain ⟨h5,p6⟩:=vx (by decide) _ _ _ _ h6
 obtain ⟨h4,p5⟩:=Tc (by decide) h5
 obtain ⟨h3,p4⟩:=Tc (by decide) h4
 obtain ⟨h2,p3⟩:=vx (by decide) _ _ _ _ h3
 obtain ⟨h1,p2⟩:=vx (by decide) _ _ _ _ h2
 obtain ⟨_,p1⟩:=vx (by decide) _ _ _ _ h1
 have mem:∀ (p:bj→Bool),(∀ k s,z.aj[k]? = some s→p s=true)→∀ s ∈ z.aj,p s=true:=fun p hp s hs=>by
  obtain ⟨k,hk,rfl⟩:=List.getElem_of_mem hs
  exact hp k _ (List.getElem?_eq_getElem hk)
 simp only [Bool.and_eq_true,decide_eq_true_eq] at p4
 exact ⟨by omega,fun k s hs=>by simpa using p1 k s hs,mem _ p2,mem _ p3,p4,p5,fun k s hs=>by simpa using p6 k s hs,mem _ p7,mem _ p8⟩
theorem Wr {a b:Name}:eg a b=true↔dz a=dz b:=by simp [eg]
theorem vi {a b:Name}:c7 a b=true↔dz b <:+ dz a:=by simp [c7]
theorem ak4 {a b:Name} (h:eg a b=true):c7 a b=true:=vi.2 (by rw [Wr.1 h];exact List.suffix_refl _)
theorem afk {a b c:Name} (h1:c7 a b=true) (h2:c7 b c=true):c7 a c=true:=vi.2 ((vi.1 h2).trans (vi.1 h1))
theorem agx {a a' b:Name} (h:eg a a'=true):c7 a b=c7 a' b:=by simp only [c7,Wr.1 h]
theorem Uz:∀ a:List UInt8,Lib.compareBytes a a=0
 | []=>rfl
 |a::r=>by rw [Lib.compareBytes,if_neg (UInt8.lt_irrefl a),if_neg (UInt8.lt_irrefl a)];exact Uz r
theorem Wg:∀ a b:List UInt8,Lib.compareBytes a b=0→a=b
 | [],[],_=>rfl
 | [],_::_,h=>by cases h
 |_::_,[],h=>by cases h
 |a::r,b::q,h=>by
  rw [Lib.compareBytes] at h
  split at h
  ·cases h
  ·rename_i h1
   split at h
   ·cases h
   ·rename_i h2
    rw [UInt8.lt_iff_toNat_lt] at h1 h2
    rw [UInt8.toNat_inj.1 (show a.toNat=b.toNat by omega),Wg r q h]
theorem aoh {a b:ByteArray} (h:yn a b=0):a=b:=by
 have:=Wg _ _ h
 obtain ⟨⟨a⟩⟩:=a
 obtain ⟨⟨b⟩⟩:=b
 simp only at this
 rw [this]
end Go.Proofs.YtjagjbceegbaiaaGreat
end
namespace Go.Vm
def ax0 {α:Type} (lt : α → α→Bool) (x : α):List α→List α
 | []=>[x]
 |y::l=>bif lt x y then x::y::l else y::ax0 lt x l
def alq {α:Type} (lt : α → α→Bool):List α→List α:=List.foldl (fun acc x=>ax0 lt x acc) []
def sg {α:Type} (lt : α → α→Bool) (k:Nat) (l:List α):List α:=
 if h:l.length≤k∨k=0 then alq lt l else alq lt (l.take k)++sg lt k (l.drop k)
termination_by l.length
decreasing_by simp at *;omega
theorem anr {α:Type} {l:List α} {i:Nat} {c : α} (h:l[i]? = some c):l.take (i+1)=l.take i++[c]:=by rw [List.take_add_one,h];rfl
end Go.Vm
section
namespace Go.Proofs.YtjagjbceegbaiaaGreat
open Go.Vm
set_option maxRecDepth 2000000
theorem adk (s:ByteArray):wl PP [] 0 (Tryz.f133.body.getD .skip) (ct PP Tryz.f133.results.toList (fun r st=>(r1 (au .i64)).get true st.h r=some (ij s))) (bp 0 [ag.val false s]) (bf []):=by
 unfold Tryz.f133
 simp only [↓wR,RA,simprocAttr,TF,ae]
 unfold ij
 rw [be];refine ⟨fun h=>?_,fun h=>?_⟩
 ·rw [if_pos (.inl (by omega))]
  simp only [↓wR,RA,simprocAttr,TF,ae,h]
 ·simp only [↓wR,RA,simprocAttr,TF,ae,h]
  rw [be];refine ⟨fun h2=>?_,fun h2=>?_⟩
  ·rw [if_pos (.inr (by omega))]
   simp only [↓wR,RA,simprocAttr,TF,ae,h2]
  ·rw [if_neg (by omega)]
   simp only [↓wR,RA,simprocAttr,TF,ae,h2]
noncomputable def Dd (x:ByteArray × Unit):Option AV:=some ((r1 (au .i64)).E true (ij x.1))
set_option maxRecDepth 2000000 in
theorem U7 (x:ByteArray × Unit) (r:AV) (h:Dd x=some r):bb PP 133 ((aC ag a0).E x) r:=by
 cases h
 exact ar (an.nil PP) Tryz.func133 (by kernel_rfl) (by kernel_rfl) (by kernel_rfl) (Nat.le_of_ble_eq_true (by kernel_rfl)) (r1 (au .i64)) true (ij x.1) (adk x.1)
noncomputable abbrev apj:Nat × Bool × (List AV→M AV):=(133,true,cg (aC ag a0) Dd)
theorem axh {c:UInt8} (h1:(65:Int)≤c.toNat) (h2:(c.toNat:Int)≤90):IntKind.u8.wrap ((c.toNat:Int)+32)=((low c).toNat:Int):=by
 have a1 : 65≤c:=by rw [UInt8.le_iff_toNat_le];simp;omega
 have a2:c≤90:=by rw [UInt8.le_iff_toNat_le];simp;omega
 have hlow:low c=c+32:=by simp [low,a1,a2]
 rw [hlow]
 simp [IntKind.wrap,IntKind.bits,IntKind.signed,UInt8.toNat_add]
theorem anb {c:UInt8} (h:¬ ((65:Int)≤c.toNat∧(c.toNat:Int)≤90)):low c=c:=by
 have:¬ (65≤c∧c≤90):=fun q=>h ⟨by have:=UInt8.le_iff_toNat_le.1 q.1;simp at this;omega,by have:=UInt8.le_iff_toNat_le.1 q.2;simp at this;omega⟩
 simp [low,this]
theorem ag5 (s:ByteArray) (hs:s.size≤16777216):wl PP [] 0 (Tryz.f202.body.getD .skip) (ct PP Tryz.f202.results.toList (fun r st=>(r1 ag).get true st.h r=some (fold s))) (bp 0 [ag.val false s]) (bf []):=by
 have hl:s.data.toList.length=s.size:=by simp
 obtain ⟨F,hF⟩:∃ F,F=s.data.toList.map low:=⟨_,rfl⟩
 have hFl:F.length=s.size:=by rw [hF,List.length_map,hl]
 have hfold:fold s=⟨F.toArray⟩:=by unfold fold;rw [hF]
 rw [hfold]
 unfold Tryz.f202
 simp only [↓wR,RA,simprocAttr,TF,ae]
 refine gz [0,4,3] (fun (i:Nat)=>[.sc (.string s),.sc (.int .i64 (i)),.sl 0 0 i 1]) (fun i=>[some (.row ((F.take i).map (bk.val false)) 0 0 5)]) (fun i=>i≤s.size) (fun i=>s.size - i) 0 (Nat.zero_le _) (by simp only [↓wR,RA,simprocAttr,TF,ae];(refine jo.lax [] (by first|exact Nat.le_of_ble_eq_true rfl|(simp [di];omega)) ?_ ?_<;>repeat' first|exact er.nil|exact cp.nil|exact ft.same _|exact ft.nil _ _ _|exact ft.oi _ _|exact cp.refl _ _|apply er.cons|apply cp.ghost|apply cp.same|apply cp.row)) ?_
 intro i hi
 simp only [↓wR,RA,simprocAttr,TF,ae]
 rw [be];refine ⟨fun h=>?_,fun h=>?_⟩
 ·have hlt:i<s.size:=by omega
  obtain ⟨c,hc⟩:∃ c,s.data.toList[i]? = some c:=⟨_,List.getElem?_eq_getElem (by omega)⟩
  have hfc:F[i]? = some (low c):=by rw [hF,List.getElem?_map,hc];rfl
  have hnx:=anr hfc
  have hll:(F.take i).length=i:=by rw [List.length_take];omega
  have hlim:i+1≤140737488355328:=by omega
  simp only [↓wR,RA,simprocAttr,TF,ae,h,hc];repeat (simp (disch:=omega) only [ah,bw,bz,bu,bt];try simp only [↓wR,RA,simprocAttr,TF,ae,h,hc])
  by_cases h1:(65:Int)≤c.toNat
  ·by_cases h2:(c.toNat:Int)≤90
   ·have d1:decide ((c.toNat:Int) ≥ 65)=true:=decide_eq_true h1
    have d2:decide ((c.toNat:Int)≤90)=true:=decide_eq_true h2
    have hw:=axh h1 h2
    simp only [↓wR,RA,simprocAttr,TF,ae,d1,d2,hw,hll,hlim];repeat (simp (disch:=omega) only [ah,bw,bz,bu,bt];try simp only [↓wR,RA,simprocAttr,TF,ae,d1,d2,hw,hll,hlim])
    refine ⟨i+1,hlt,by omega,by (first|rfl|trivial|omega|((try (simp (disch:=omega) only [ah]));(try (simp only [FB]));first|done|rfl|omega)),?_⟩
    rw [hnx,List.map_append];rfl
   ·have d1:decide ((c.toNat:Int) ≥ 65)=true:=decide_eq_true h1
    have d2:decide ((c.toNat:Int)≤90)=false:=decide_eq_false h2
    have hw:low c=c:=anb (fun q=>h2 q.2)
    simp only [↓wR,RA,simprocAttr,TF,ae,d1,d2,hll,hlim];repeat (simp (disch:=omega) only [ah,bw,bz,bu,bt];try simp only [↓wR,RA,simprocAttr,TF,ae,d1,d2,hll,hlim])
    refine ⟨i+1,hlt,by omega,by (first|rfl|trivial|omega|((try (simp (disch:=omega) only [ah]));(try (simp only [FB]));first|done|rfl|omega)),?_⟩
    rw [hnx,List.map_append,hw];rfl
  ·have d1:decide ((c.toNat:Int) ≥ 65)=false:=decide_eq_false h1
   have hw:low c=c:=anb (fun q=>h1 q.1)
   simp only [↓wR,RA,simprocAttr,TF,ae,d1,hll,hlim];repeat (simp (disch:=omega) only [ah,bw,bz,bu,bt];try simp only [↓wR,RA,simprocAttr,TF,ae,d1,hll,hlim])
   refine ⟨i+1,hlt,by omega,by (first|rfl|trivial|omega|((try (simp (disch:=omega) only [ah]));(try (simp only [FB]));first|done|rfl|omega)),?_⟩
   rw [hnx,List.map_append,hw];rfl
 ·have hin:F.take i=F:=List.take_of_length_le (by omega)
  have hii:i=F.length:=by omega
  rw [hin,hii]
  simp only [↓wR,RA,simprocAttr,TF,ae,h]
noncomputable def vc (x:ByteArray × Unit):Option AV:=if x.1.size≤16777216 then some ((r1 ag).E true (fold x.1)) else none
set_option maxRecDepth 2000000 in
theorem Jw (x:ByteArray × Unit) (r:AV) (h:vc x=some r):bb PP 202 ((aC ag a0).E x) r:=by
 by_cases hc:x.1.size≤16777216
 case neg=>simp only [vc,if_neg hc] at h;cases h
 simp only [vc,if_pos hc] at h
 cases h
 exact ar (an.nil PP) Tryz.func202 (by kernel_rfl) (by kernel_rfl) (by kernel_rfl) (Nat.le_of_ble_eq_true (by kernel_rfl)) (r1 ag) true (fold x.1) (ag5 x.1 hc)
noncomputable abbrev ab8:Nat × Bool × (List AV→M AV):=(202,true,cg (aC ag a0) vc)
theorem air {A B:List UInt8} {i:Nat} (h:i=A.length∨i=B.length) (ha:i≤A.length) (hb:i≤B.length):Lib.compareBytes (A.drop i) (B.drop i)=if A.length<B.length then -1 else if A.length > B.length then 1 else 0:=by
 rcases Nat.lt_trichotomy A.length B.length with q|q|q
 ·have h1:A.drop i=[]:=List.drop_eq_nil_of_le (by omega)
  rw [h1,if_pos q]
  cases h2:B.drop i with
  |nil=>have:=List.drop_eq_nil_iff.1 h2;omega
  |cons y r=>rfl
 ·have h1:A.drop i=[]:=List.drop_eq_nil_of_le (by omega)
  have h2:B.drop i=[]:=List.drop_eq_nil_of_le (by omega)
  rw [h1,h2,if_neg (by omega),if_neg (by omega)];rfl
 ·have h1:B.drop i=[]:=List.drop_eq_nil_of_le (by omega)
  rw [h1,if_neg (by omega),if_pos q]
  cases h2:A.drop i with
  |nil=>have:=List.drop_eq_nil_iff.1 h2;omega
  |cons y r=>rfl
theorem Uy (a b:ByteArray) (ha:a.size≤16777216) (hb:b.size≤16777216):wl PP [ab8] 0 (Tryz.f178.body.getD .skip) (ct PP Tryz.f178.results.toList (fun r st=>(r1 (au .i64)).get true st.h r=some (yn (fold a) (fold b)))) (bp 0 [ag.val false a,ag.val false b]) (bf []):=by
 have hq:∀ a b c d,iz a b c=d→iz a b c=d:=fun _ _ _ _ h=>h
 obtain ⟨A,hA⟩:∃ A,A=fold a:=⟨_,rfl⟩
 obtain ⟨B,hB⟩:∃ B,B=fold b:=⟨_,rfl⟩
 have hla:A.data.toList.length=A.size:=by simp
 have hlb:B.data.toList.length=B.size:=by simp
 have sa:A.size≤16777216:=by rw [hA,Fh];exact ha
 have sb:B.size≤16777216:=by rw [hB,Fh];exact hb
 rw [← hA,← hB]
 unfold yn
 unfold Tryz.f178
 simp only [↓wR,RA,simprocAttr,TF,ae,vc,ha,hb,← hA,← hB]
 refine dg [5,6,7] (fun (i:Nat)=>[.sc (.string A),.sc (.string B),.sc (.int .i64 (i))]) (fun _=>[]) (fun i=>i≤A.size∧i≤B.size∧Lib.compareBytes A.data.toList B.data.toList=Lib.compareBytes (A.data.toList.drop i) (B.data.toList.drop i)) (fun i=>A.size - i) 0 ⟨Nat.zero_le _,Nat.zero_le _,rfl⟩ (by simp only [↓wR,RA,simprocAttr,TF,ae]<;>rfl) (by simp only [↓wR,RA,simprocAttr,TF,ae]<;>rfl) ?_
 rintro i ⟨hi,hj,hv⟩
 simp only [↓wR,RA,simprocAttr,TF,ae]
 rw [be];refine ⟨fun h1=>?_,fun h1=>?_⟩
 ·simp only [↓wR,RA,simprocAttr,TF,ae,h1]
  rw [be];refine ⟨fun h2=>?_,fun h2=>?_⟩
  ·obtain ⟨x,hx⟩:∃ x,A.data.toList[i]? = some x:=⟨_,List.getElem?_eq_getElem (by omega)⟩
   obtain ⟨y,hy⟩:∃ y,B.data.toList[i]? = some y:=⟨_,List.getElem?_eq_getElem (by omega)⟩
   have hcx:A.data.toList.drop i=x::A.data.toList.drop (i+1):=by
    obtain ⟨k,rfl⟩:=List.getElem?_eq_some_iff.1 hx;exact List.drop_eq_getElem_cons k
   have hcy:B.data.toList.drop i=y::B.data.toList.drop (i+1):=by
    obtain ⟨k,rfl⟩:=List.getElem?_eq_some_iff.1 hy;exact List.drop_eq_getElem_cons k
   rw [hcx,hcy,Lib.compareBytes] at hv
   simp only [UInt8.lt_iff_toNat_lt] at hv
   simp only [↓wR,RA,simprocAttr,TF,ae,h2]
   refine ⟨by kernel_rfl,.inl ?_⟩
   simp only [↓wR,RA,simprocAttr,TF,ae,hx,hy]
   refine ⟨by apply hq;kernel_rfl,?_⟩
   rw [be];refine ⟨fun h3=>?_,fun h3=>?_⟩
   ·rw [if_pos (by omega)] at hv
    simp only [↓wR,RA,simprocAttr,TF,ae,h3,hv]
   ·rw [if_neg (by omega)] at hv
    simp only [↓wR,RA,simprocAttr,TF,ae,h3]
    refine ⟨by kernel_rfl,.inl ?_⟩
    simp only [↓wR,RA,simprocAttr,TF,ae,hx,hy]
    refine ⟨by apply hq;kernel_rfl,?_⟩
    rw [be];refine ⟨fun h4=>?_,fun h4=>?_⟩
    ·rw [if_pos (by omega)] at hv
     simp only [↓wR,RA,simprocAttr,TF,ae,h4,hv]
    ·rw [if_neg (by omega)] at hv
     simp only [↓wR,RA,simprocAttr,TF,ae,h4];repeat (simp (disch:=omega) only [ah,bw,bz,bu,bt];try simp only [↓wR,RA,simprocAttr,TF,ae,h4])
     exact ⟨i+1,⟨by omega,by omega,hv⟩,by omega,by (first|rfl|trivial|omega|((try (simp (disch:=omega) only [ah]));(try (simp only [FB]));first|done|rfl|omega))⟩
  ·have he:=air (A:=A.data.toList) (B:=B.data.toList) (i:=i) (by omega) (by omega) (by omega)
   rw [hv,he,hla,hlb]
   simp only [↓wR,RA,simprocAttr,TF,ae,h2]
   rw [be];refine ⟨fun h5=>?_,fun h5=>?_⟩
   ·rw [if_pos (by omega)];simp only [↓wR,RA,simprocAttr,TF,ae,h5]
   ·rw [if_neg (by omega)]
    simp only [↓wR,RA,simprocAttr,TF,ae,h5]
    rw [be];refine ⟨fun h6=>?_,fun h6=>?_⟩
    ·rw [if_pos (by omega)];simp only [↓wR,RA,simprocAttr,TF,ae,h6]
    ·rw [if_neg (by omega)];simp only [↓wR,RA,simprocAttr,TF,ae,h6]
 ·have he:=air (A:=A.data.toList) (B:=B.data.toList) (i:=i) (by omega) (by omega) (by omega)
  rw [hv,he,hla,hlb]
  simp only [↓wR,RA,simprocAttr,TF,ae,h1]
  rw [be];refine ⟨fun h5=>?_,fun h5=>?_⟩
  ·rw [if_pos (by omega)];simp only [↓wR,RA,simprocAttr,TF,ae,h5]
  ·rw [if_neg (by omega)]
   simp only [↓wR,RA,simprocAttr,TF,ae,h5]
   rw [be];refine ⟨fun h6=>?_,fun h6=>?_⟩
   ·rw [if_pos (by omega)];simp only [↓wR,RA,simprocAttr,TF,ae,h6]
   ·rw [if_neg (by omega)];simp only [↓wR,RA,simprocAttr,TF,ae,h6]
noncomputable def p0 (x:ByteArray × ByteArray × Unit):Option AV:=if x.1.size≤16777216∧x.2.1.size≤16777216 then some ((r1 (au .i64)).E true (yn (fold x.1) (fold x.2.1))) else none
set_option maxRecDepth 2000000 in
theorem Ev (x:ByteArray × ByteArray × Unit) (r:AV) (h:p0 x=some r):bb PP 178 ((aC ag (aC ag a0)).E x) r:=by
 by_cases hc:x.1.size≤16777216∧x.2.1.size≤16777216
 case neg=>simp only [p0,if_neg hc] at h;cases h
 simp only [p0,if_pos hc] at h
 cases h
 exact ar (an.cons (ak Jw) (an.nil PP)) Tryz.func178 (by kernel_rfl) (by kernel_rfl) (by kernel_rfl) (Nat.le_of_ble_eq_true (by kernel_rfl)) (r1 (au .i64)) true (yn (fold x.1) (fold x.2.1)) (Uy x.1 x.2.1 hc.1 hc.2)
noncomputable abbrev Po:Nat × Bool × (List AV→M AV):=(178,true,cg (aC ag (aC ag a0)) p0)
theorem ass (n:Name) (hn:bq n<17592186044416):wl PP [] 0 (Tryz.f134.body.getD .skip) (ct PP Tryz.f134.results.toList (fun r st=>(r1 (au .i64)).get true st.h r=some (bq n:Int))) (bp 0 [ai.val false n]) (bf []):=by
 unfold Tryz.f134
 simp only [bn]
 simp only [↓wR,RA,simprocAttr,TF,ae]
 refine dg [0,3,4] (fun (i:Nat)=>[.vl false 1 (n.map (ag.val false)),.sc (.int .i64 (bq (n.take i))),.sc (.int .i64 (i))]) (fun _=>[]) (fun i=>i≤n.length∧bq (n.take i)≤bq n∧i<bq (n.take i)) (fun i=>n.length - i) 0 ⟨Nat.zero_le _,(iq n 0).1,by simp [bq]⟩ (by simp only [↓wR,RA,simprocAttr,TF,ae]<;>rfl) (by simp only [↓wR,RA,simprocAttr,TF,ae]<;>rfl) ?_
 rintro i ⟨hi,hle,hgt⟩
 simp only [↓wR,RA,simprocAttr,TF,ae]
 rw [be];refine ⟨fun h=>?_,fun h=>?_⟩
 ·obtain ⟨c,hc,hd1,hlt⟩:=dq (decide_eq_true h)
  have hnx:=C4 n i c hc
  have hle2:=(iq n (i+1)).1
  simp only [↓wR,RA,simprocAttr,TF,ae,h,hc];repeat (simp (disch:=omega) only [ah,bw,bz,bu,bt];try simp only [↓wR,RA,simprocAttr,TF,ae,h,hc])
  refine ⟨i+1,⟨hlt,hle2,by omega⟩,by omega,?_⟩
  rw [hnx];(first|rfl|trivial|omega|((try (simp (disch:=omega) only [ah]));(try (simp only [FB]));first|done|rfl|omega))
 ·have hin:n.take i=n:=List.take_of_length_le (by omega)
  rw [hin]
  simp only [↓wR,RA,simprocAttr,TF,ae,h]
noncomputable def Aw (x:Name × Unit):Option AV:=if bq x.1<17592186044416 then some ((r1 (au .i64)).E true ((bq x.1:Int))) else none
set_option maxRecDepth 2000000 in
theorem Pe (x:Name × Unit) (r:AV) (h:Aw x=some r):bb PP 134 ((aC ai a0).E x) r:=by
 by_cases hc:bq x.1<17592186044416
 case neg=>simp only [Aw,if_neg hc] at h;cases h
 simp only [Aw,if_pos hc] at h
 cases h
 exact ar (an.nil PP) Tryz.func134 (by kernel_rfl) (by kernel_rfl) (by kernel_rfl) (Nat.le_of_ble_eq_true (by kernel_rfl)) (r1 (au .i64)) true ((bq x.1:Int)) (ass x.1 hc)
noncomputable abbrev aqo:Nat × Bool × (List AV→M AV):=(134,true,cg (aC ai a0) Aw)
theorem aoj (n:Name) (hn:bq n<17592186044416):wl PP [apj,aqo] 0 (Tryz.f84.body.getD .skip) (ct PP Tryz.f84.results.toList (fun r st=>(r1 (au .i64)).get true st.h r=some (da n))) (bp 0 [ai.val false n]) (bf []):=by
 have hlen:n.length<bq n:=(iq n 0).2
 unfold Tryz.f84
 simp only [bn]
 simp only [↓wR,RA,simprocAttr,TF,ae]
 refine dg [0,3] (fun (i:Nat)=>[.vl false 1 (n.map (ag.val false)),.sc (.int .i64 (i))]) (fun _=>[]) (fun i=>i≤n.length∧ql (n.take i)=false) (fun i=>n.length - i) 0 ⟨Nat.zero_le _,rfl⟩ (by simp only [↓wR,RA,simprocAttr,TF,ae]<;>rfl) (by simp only [↓wR,RA,simprocAttr,TF,ae]<;>rfl) ?_
 rintro i ⟨hi,hb⟩
 simp only [↓wR,RA,simprocAttr,TF,ae]
 rw [be];refine ⟨fun h=>?_,fun h=>?_⟩
 ·obtain ⟨c,hc,hd1,hlt⟩:=dq (decide_eq_true h)
  simp only [↓wR,RA,simprocAttr,TF,ae,h,hc,Dd];repeat (simp (disch:=omega) only [ah,bw,bz,bu,bt];try simp only [↓wR,RA,simprocAttr,TF,ae,h,hc,Dd])
  rw [c6];refine ⟨fun ⟨h2,e2⟩=>?_,fun ⟨h2,e2⟩=>?_⟩
  ·have hbad:=K0 n i c hc e2
   have hne:ij c=4:=by
    unfold ij at e2 ⊢
    split at e2
    ·rename_i q;rw [if_pos q]
    ·exact absurd rfl e2
   have hv:da n=4:=by unfold da;rw [if_pos hbad]
   simp only [↓wR,RA,simprocAttr,TF,ae,h2,hv,hne]
  ·simp only [↓wR,RA,simprocAttr,TF,ae,h2];repeat (simp (disch:=omega) only [ah,bw,bz,bu,bt];try simp only [↓wR,RA,simprocAttr,TF,ae,h2])
   refine ⟨i+1,⟨hlt,?_⟩,by omega,by (first|rfl|trivial|omega|((try (simp (disch:=omega) only [ah]));(try (simp only [FB]));first|done|rfl|omega))⟩
   rw [Mf n i c hc,hb];simpa using e2
 ·have hin:n.take i=n:=List.take_of_length_le (by omega)
  rw [hin] at hb
  simp only [↓wR,RA,simprocAttr,TF,ae,h,Aw,hn]
  rw [be];refine ⟨fun h3=>?_,fun h3=>?_⟩
  ·have hv:da n=5:=by unfold da;rw [hb,if_neg (by simp),if_pos (by omega)]
   simp only [↓wR,RA,simprocAttr,TF,ae,h3,hv]
  ·have hv:da n=0:=by unfold da;rw [hb,if_neg (by simp),if_neg (by omega)]
   simp only [↓wR,RA,simprocAttr,TF,ae,h3,hv]
noncomputable def vd (x:Name × Unit):Option AV:=if bq x.1<17592186044416 then some ((r1 (au .i64)).E true (da x.1)) else none
set_option maxRecDepth 2000000 in
theorem wa (x:Name × Unit) (r:AV) (h:vd x=some r):bb PP 84 ((aC ai a0).E x) r:=by
 by_cases hc:bq x.1<17592186044416
 case neg=>simp only [vd,if_neg hc] at h;cases h
 simp only [vd,if_pos hc] at h
 cases h
 exact ar (an.cons (ak U7) (an.cons (ak Pe) (an.nil PP))) Tryz.func84 (by kernel_rfl) (by kernel_rfl) (by kernel_rfl) (Nat.le_of_ble_eq_true (by kernel_rfl)) (r1 (au .i64)) true (da x.1) (aoj x.1 hc)
noncomputable abbrev Mh:Nat × Bool × (List AV→M AV):=(84,true,cg (aC ai a0) vd)
theorem aeq (l:List ByteArray):jz [] l=0:=by cases l<;>rfl
theorem ajy (a b:Name) (ha:aw a) (hb:aw b):wl PP [Po] 0 (Tryz.f135.body.getD .skip) (ct PP Tryz.f135.results.toList (fun r st=>(r1 (au .i64)).get true st.h r=some (common a b:Int))) (bp 0 [ai.val false a,ai.val false b]) (bf []):=by
 have hq:∀ a b c d,iz a b c=d→iz a b c=d:=fun _ _ _ _ h=>h
 have la:=ha.lt
 have lb:=hb.lt
 unfold Tryz.f135
 simp only [bn]
 simp only [↓wR,RA,simprocAttr,TF,ae]
 refine dg [0,1,5] (fun (x:Nat)=>[.vl false 1 (a.map (ag.val false)),.vl false 1 (b.map (ag.val false)),.sc (.int .i64 (x))]) (fun _=>[]) (fun x=>x≤a.length∧x≤b.length∧common a b=x+jz (a.reverse.drop x) (b.reverse.drop x)) (fun x=>a.length - x) 0 ⟨Nat.zero_le _,Nat.zero_le _,by simp [common]⟩ (by simp only [↓wR,RA,simprocAttr,TF,ae]<;>rfl) (by simp only [↓wR,RA,simprocAttr,TF,ae]<;>rfl) ?_
 rintro x ⟨hx,hx2,hR⟩
 simp only [↓wR,RA,simprocAttr,TF,ae]
 refine ⟨by kernel_rfl,.inl ?_⟩
 rw [be];refine ⟨fun h1=>?_,fun h1=>?_⟩
 ·simp only [↓wR,RA,simprocAttr,TF,ae,h1]
  rw [be];refine ⟨fun h2=>?_,fun h2=>?_⟩
  ·obtain ⟨c,hc⟩:∃ c,a[a.length - 1 - x]? = some c:=⟨_,List.getElem?_eq_getElem (by omega)⟩
   obtain ⟨d,hd⟩:∃ d,b[b.length - 1 - x]? = some d:=⟨_,List.getElem?_eq_getElem (by omega)⟩
   have e1:((a.length:Int) - 1 - x).toNat=a.length - 1 - x:=by omega
   have e2:(0:Int)≤(a.length:Int) - 1 - x:=by omega
   have e4:((b.length:Int) - 1 - x).toNat=b.length - 1 - x:=by omega
   have e5:(0:Int)≤(b.length:Int) - 1 - x:=by omega
   rw [I0 (by omega) hc,I0 (by omega) hd,jz] at hR
   simp only [↓wR,RA,simprocAttr,TF,ae,h2,e1,e2,e4,e5,hc,hd,p0,ha.label c (List.mem_of_getElem? hc),hb.label d (List.mem_of_getElem? hd)];repeat (simp (disch:=omega) only [ah,bw,bz,bu,bt];try simp only [↓wR,RA,simprocAttr,TF,ae,h2,e1,e2,e4,e5,hc,hd,p0,ha.label c (List.mem_of_getElem? hc),hb.label d (List.mem_of_getElem? hd)])
   refine ⟨by apply hq;kernel_rfl,?_⟩
   rw [b9];refine ⟨fun ⟨h3,e3⟩=>?_,fun ⟨h3,e3⟩=>?_⟩
   ·have h4:fold c=fold d:=aoh e3
    rw [if_pos h4] at hR
    simp only [↓wR,RA,simprocAttr,TF,ae,h3];repeat (simp (disch:=omega) only [ah,bw,bz,bu,bt];try simp only [↓wR,RA,simprocAttr,TF,ae,h3])
    exact ⟨x+1,⟨by omega,by omega,by omega⟩,by omega,by (first|rfl|trivial|omega|((try (simp (disch:=omega) only [ah]));(try (simp only [FB]));first|done|rfl|omega))⟩
   ·have h4:¬ fold c=fold d:=fun q=>e3 (by rw [q];unfold yn;exact Uz _)
    rw [if_neg h4] at hR
    simp only [↓wR,RA,simprocAttr,TF,ae,h3];repeat (simp (disch:=omega) only [ah,bw,bz,bu,bt];try simp only [↓wR,RA,simprocAttr,TF,ae,h3])
    rw [hR,Nat.add_zero]
  ·have h5:b.reverse.drop x=[]:=List.drop_eq_nil_of_le (by simp;omega)
   rw [h5,Pw] at hR
   simp only [↓wR,RA,simprocAttr,TF,ae,h2];repeat (simp (disch:=omega) only [ah,bw,bz,bu,bt];try simp only [↓wR,RA,simprocAttr,TF,ae,h2])
   refine ⟨by apply hq;kernel_rfl,?_⟩
   rw [hR,Nat.add_zero]
 ·have h5:a.reverse.drop x=[]:=List.drop_eq_nil_of_le (by simp;omega)
  rw [h5,aeq] at hR
  simp only [↓wR,RA,simprocAttr,TF,ae,h1];repeat (simp (disch:=omega) only [ah,bw,bz,bu,bt];try simp only [↓wR,RA,simprocAttr,TF,ae,h1])
  refine ⟨by apply hq;kernel_rfl,?_⟩
  rw [hR,Nat.add_zero]
noncomputable def u9 (x:Name × Name × Unit):Option AV:=if aw x.1∧aw x.2.1 then some ((r1 (au .i64)).E true ((common x.1 x.2.1:Int))) else none
set_option maxRecDepth 2000000 in
theorem D2 (x:Name × Name × Unit) (r:AV) (h:u9 x=some r):bb PP 135 ((aC ai (aC ai a0)).E x) r:=by
 by_cases hc:aw x.1∧aw x.2.1
 case neg=>simp only [u9,if_neg hc] at h;cases h
 simp only [u9,if_pos hc] at h
 cases h
 exact ar (an.cons (ak Ev) (an.nil PP)) Tryz.func135 (by kernel_rfl) (by kernel_rfl) (by kernel_rfl) (Nat.le_of_ble_eq_true (by kernel_rfl)) (r1 (au .i64)) true ((common x.1 x.2.1:Int)) (ajy x.1 x.2.1 hc.1 hc.2)
noncomputable abbrev Vj:Nat × Bool × (List AV→M AV):=(135,true,cg (aC ai (aC ai a0)) u9)
theorem amo (n top:Name) (hn:aw n) (ht:aw top):wl PP [Vj] 0 (Tryz.f85.body.getD .skip) (ct PP Tryz.f85.results.toList (fun r st=>(r1 bd).get true st.h r=some (c7 n top))) (bp 0 [ai.val false n,ai.val false top]) (bf []):=by
 unfold Tryz.f85
 simp only [bn]
 simp only [↓wR,RA,simprocAttr,TF,ae,u9,hn,ht]
 congr 1
 unfold c7
 have:=z0 n top
 rw [Bool.eq_iff_iff];simp [← this];omega
noncomputable def ud (x:Name × Name × Unit):Option AV:=if aw x.1∧aw x.2.1 then some ((r1 bd).E true (c7 x.1 x.2.1)) else none
set_option maxRecDepth 2000000 in
theorem wj (x:Name × Name × Unit) (r:AV) (h:ud x=some r):bb PP 85 ((aC ai (aC ai a0)).E x) r:=by
 by_cases hc:aw x.1∧aw x.2.1
 case neg=>simp only [ud,if_neg hc] at h;cases h
 simp only [ud,if_pos hc] at h
 cases h
 exact ar (an.cons (ak D2) (an.nil PP)) Tryz.func85 (by kernel_rfl) (by kernel_rfl) (by kernel_rfl) (Nat.le_of_ble_eq_true (by kernel_rfl)) (r1 bd) true (c7 x.1 x.2.1) (amo x.1 x.2.1 hc.1 hc.2)
noncomputable abbrev ma:Nat × Bool × (List AV→M AV):=(85,true,cg (aC ai (aC ai a0)) ud)
theorem aq3 (n top:Name) (hn:aw n) (ht:aw top):wl PP [Vj] 0 (Tryz.f137.body.getD .skip) (ct PP Tryz.f137.results.toList (fun r st=>(r1 bd).get true st.h r=some (eg n top))) (bp 0 [ai.val false n,ai.val false top]) (bf []):=by
 unfold Tryz.f137
 simp only [bn]
 simp only [↓wR,RA,simprocAttr,TF,ae,u9,hn,ht]
 rw [ca];refine ⟨fun h=>?_,fun h=>?_⟩
 ·have hl:n.length=top.length:=by simp at h;omega
  simp only [↓wR,RA,simprocAttr,TF,ae,h,u9,hn,ht]
  congr 1
  unfold eg
  have:=Bt n top
  rw [Bool.eq_iff_iff];simp [← this,hl];omega
 ·have hl:¬ n.length=top.length:=by simp at h;omega
  simp only [↓wR,RA,simprocAttr,TF,ae,h]
  have:=Bt n top
  simp [eg,← this,hl]
noncomputable def v9 (x:Name × Name × Unit):Option AV:=if aw x.1∧aw x.2.1 then some ((r1 bd).E true (eg x.1 x.2.1)) else none
set_option maxRecDepth 2000000 in
theorem vj (x:Name × Name × Unit) (r:AV) (h:v9 x=some r):bb PP 137 ((aC ai (aC ai a0)).E x) r:=by
 by_cases hc:aw x.1∧aw x.2.1
 case neg=>simp only [v9,if_neg hc] at h;cases h
 simp only [v9,if_pos hc] at h
 cases h
 exact ar (an.cons (ak D2) (an.nil PP)) Tryz.func137 (by kernel_rfl) (by kernel_rfl) (by kernel_rfl) (Nat.le_of_ble_eq_true (by kernel_rfl)) (r1 bd) true (eg x.1 x.2.1) (aq3 x.1 x.2.1 hc.1 hc.2)
noncomputable abbrev nl:Nat × Bool × (List AV→M AV):=(137,true,cg (aC ai (aC ai a0)) v9)
theorem afd (a b:Name) (ha:aw a) (hb:aw b):wl PP [Vj,Po] 0 (Tryz.f182.body.getD .skip) (ct PP Tryz.f182.results.toList (fun r st=>(r1 (au .i64)).get true st.h r=some (Ij a b))) (bp 0 [ai.val false a,ai.val false b]) (bf []):=by
 unfold Tryz.f182
 simp only [bn]
 simp only [↓wR,RA,simprocAttr,TF,ae,u9,ha,hb]
 have h1:=En a.reverse b.reverse
 have h2:=Is a.reverse b.reverse
 rw [List.length_reverse] at h1 h2
 change common a b≤a.length at h1
 change common a b≤b.length at h2
 obtain ⟨k,hk⟩:∃ k,common a b=k:=⟨_,rfl⟩
 rw [hk] at h1 h2
 unfold Ij
 rw [hk]
 rw [ca];refine ⟨fun h=>?_,fun h=>?_⟩
 ·simp only [↓wR,RA,simprocAttr,TF,ae,h]
  have hka:k=a.length:=by simp at h;omega
  rw [ca];refine ⟨fun h3=>?_,fun h3=>?_⟩
  ·have hkb:k=b.length:=by simp at h3;omega
   simp only [↓wR,RA,simprocAttr,TF,ae,h3]
   rw [if_pos ⟨hka,hkb⟩]
  ·have hkb:¬ k=b.length:=by simp at h3;omega
   simp only [↓wR,RA,simprocAttr,TF,ae,h3,h]
   rw [if_neg (fun e=>hkb e.2),if_pos hka]
 ·simp only [↓wR,RA,simprocAttr,TF,ae,h]
  have hka:¬ k=a.length:=by simp at h;omega
  rw [ca];refine ⟨fun h3=>?_,fun h3=>?_⟩
  ·have hkb:k=b.length:=by simp at h3;omega
   simp only [↓wR,RA,simprocAttr,TF,ae,h3]
   rw [if_neg (fun e=>hka e.1),if_neg hka,if_pos hkb]
  ·have hkb:¬ k=b.length:=by simp at h3;omega
   rw [if_neg (fun e=>hka e.1),if_neg hka,if_neg hkb]
   obtain ⟨x,hx⟩:∃ x,a[a.length - 1 - k]? = some x:=⟨_,List.getElem?_eq_getElem (by omega)⟩
   obtain ⟨y,hy⟩:∃ y,b[b.length - 1 - k]? = some y:=⟨_,List.getElem?_eq_getElem (by omega)⟩
   simp only [↓wR,RA,simprocAttr,TF,ae,h3]
   refine ⟨by kernel_rfl,.inl ?_⟩
   have la:=ha.len
   have lb:=hb.len
   simp (disch:=omega) only [ah,bw,bz,bu,bt]
   have e1:(((a.length:Int) - 1) - k).toNat=a.length - 1 - k:=by omega
   have e2:(0:Int)≤((a.length:Int) - 1) - k:=by omega
   have e3:(((b.length:Int) - 1) - k).toNat=b.length - 1 - k:=by omega
   have e4:(0:Int)≤((b.length:Int) - 1) - k:=by omega
   simp only [↓wR,RA,simprocAttr,TF,ae,hx,e1,e2]
   simp (disch:=omega) only [ah,bw,bz,bu,bt]
   simp only [↓wR,RA,simprocAttr,TF,ae,hy,e3,e4,p0,ha.label x (List.mem_of_getElem? hx),hb.label y (List.mem_of_getElem? hy)]
   exact ⟨by kernel_rfl,by simp [al7,hx,hy]⟩
noncomputable def Cn (x:Name × Name × Unit):Option AV:=if aw x.1∧aw x.2.1 then some ((r1 (au .i64)).E true (Ij x.1 x.2.1)) else none
set_option maxRecDepth 2000000 in
theorem Zc (x:Name × Name × Unit) (r:AV) (h:Cn x=some r):bb PP 182 ((aC ai (aC ai a0)).E x) r:=by
 by_cases hc:aw x.1∧aw x.2.1
 case neg=>simp only [Cn,if_neg hc] at h;cases h
 simp only [Cn,if_pos hc] at h
 cases h
 exact ar (an.cons (ak D2) (an.cons (ak Ev) (an.nil PP))) Tryz.func182 (by kernel_rfl) (by kernel_rfl) (by kernel_rfl) (Nat.le_of_ble_eq_true (by kernel_rfl)) (r1 (au .i64)) true (Ij x.1 x.2.1) (afd x.1 x.2.1 hc.1 hc.2)
noncomputable abbrev aq5:Nat × Bool × (List AV→M AV):=(182,true,cg (aC ai (aC ai a0)) Cn)
noncomputable def m6:c8 Shape:=zc (kr (au .i64) (kr (au .i64) (kr (au .i64) (kr (au .i64) (au .i64))))) (fun s=>(s.names,s.nums,s.texts,s.raw,s.size)) (fun p=>⟨p.1,p.2.1,p.2.2.2.2,p.2.2.1,p.2.2.2.1⟩) (fun _=>rfl) (fun _=>rfl)
theorem tw (l:Bool) (s:Shape):m6.val l s = .agg [.sc (.int .i64 s.names),.sc (.int .i64 s.nums),.sc (.int .i64 s.texts),.sc (.int .i64 s.raw),.sc (.int .i64 s.size)]:=id rfl
theorem gw (fr h) (a b c d e:Int):m6.gy fr h (.agg [.sc (.int .i64 a),.sc (.int .i64 b),.sc (.int .i64 c),.sc (.int .i64 d),.sc (.int .i64 e)])=some ⟨a,b,e,c,d⟩:=ax9 m6 fr h ⟨a,b,e,c,d⟩
theorem ayq (t:UInt16):wl PP [] 0 (Tryz.f171.body.getD .skip) (ct PP Tryz.f171.results.toList (fun r st=>(r2 m6 bd).get true st.h r=some (cr t,!mg t))) (bp 0 [cy.val false t]) (bf []):=by
 have hk:∀ n:Int,(t.toNat:Int)=n→n≠0→¬ (128≤n∧n≤255)→mg t=false:=by
  intro n h1 h2 h3
  unfold mg
  rw [h1]
  simp only [Bool.or_eq_false_iff,beq_eq_false_iff_ne,ne_eq,Bool.and_eq_false_iff,decide_eq_false_iff_not]
  exact ⟨h2,by omega⟩
 unfold Tryz.f171
 unfold cr
 simp only [↓wR,RA,simprocAttr,TF,ae]
 rw [b9];refine ⟨fun ⟨h0,e0⟩=>?_,fun ⟨h0,e0⟩=>?_⟩
 ·simp only [↓wR,RA,simprocAttr,TF,ae,h0,gw,hk _ e0 (by decide) (by decide)]
  rw [if_pos e0]
 rw [if_neg e0]
 simp only [↓wR,RA,simprocAttr,TF,ae,h0]
 rw [b9];refine ⟨fun ⟨h1,e1⟩=>?_,fun ⟨h1,e1⟩=>?_⟩
 ·simp only [↓wR,RA,simprocAttr,TF,ae,h1,gw,hk _ e1 (by decide) (by decide)]
  rw [if_pos e1]
 rw [if_neg e1]
 simp only [↓wR,RA,simprocAttr,TF,ae,h1]
 rw [b9];refine ⟨fun ⟨h2,e2⟩=>?_,fun ⟨h2,e2⟩=>?_⟩
 ·simp only [↓wR,RA,simprocAttr,TF,ae,h2,gw,hk _ e2 (by decide) (by decide)]
  rw [if_pos e2]
 rw [if_neg e2]
 simp only [↓wR,RA,simprocAttr,TF,ae,h2]
 rw [b9];refine ⟨fun ⟨h3,e3⟩=>?_,fun ⟨h3,e3⟩=>?_⟩
 ·simp only [↓wR,RA,simprocAttr,TF,ae,h3,gw,hk _ e3 (by decide) (by decide)]
  rw [if_pos e3]
 rw [if_neg e3]
 simp only [↓wR,RA,simprocAttr,TF,ae,h3]
 rw [b9];refine ⟨fun ⟨h4,e4⟩=>?_,fun ⟨h4,e4⟩=>?_⟩
 ·simp only [↓wR,RA,simprocAttr,TF,ae,h4,gw,hk _ e4 (by decide) (by decide)]
  rw [if_pos e4]
 rw [if_neg e4]
 simp only [↓wR,RA,simprocAttr,TF,ae,h4]
 rw [b9];refine ⟨fun ⟨h5,e5⟩=>?_,fun ⟨h5,e5⟩=>?_⟩
 ·simp only [↓wR,RA,simprocAttr,TF,ae,h5,gw,hk _ e5 (by decide) (by decide)]
  rw [if_pos e5]
 rw [if_neg e5]
 simp only [↓wR,RA,simprocAttr,TF,ae,h5]
 rw [b9];refine ⟨fun ⟨h6,e6⟩=>?_,fun ⟨h6,e6⟩=>?_⟩
 ·simp only [↓wR,RA,simprocAttr,TF,ae,h6,gw,hk _ e6 (by decide) (by decide)]
  rw [if_pos e6]
 rw [if_neg e6]
 simp only [↓wR,RA,simprocAttr,TF,ae,h6]
 rw [b9];refine ⟨fun ⟨h7,e7⟩=>?_,fun ⟨h7,e7⟩=>?_⟩
 ·simp only [↓wR,RA,simprocAttr,TF,ae,h7,gw,hk _ e7 (by decide) (by decide)]
  rw [if_pos e7]
 rw [if_neg e7]
 simp only [↓wR,RA,simprocAttr,TF,ae,h7]
 rw [b9];refine ⟨fun ⟨h8,e8⟩=>?_,fun ⟨h8,e8⟩=>?_⟩
 ·simp only [↓wR,RA,simprocAttr,TF,ae,h8,gw,hk _ e8 (by decide) (by decide)]
  rw [if_pos e8]
 rw [if_neg e8]
 simp only [↓wR,RA,simprocAttr,TF,ae,h8]
 rw [b9];refine ⟨fun ⟨h9,e9⟩=>?_,fun ⟨h9,e9⟩=>?_⟩
 ·simp only [↓wR,RA,simprocAttr,TF,ae,h9,gw,hk _ e9 (by decide) (by decide)]
  rw [if_pos e9]
 rw [if_neg e9]
 simp only [↓wR,RA,simprocAttr,TF,ae,h9]
 have hb:(!mg t)=(if (t.toNat:Int)=0 then false else if (t.toNat:Int)<128 then true else decide (255<(t.toNat:Int))):=by
  unfold mg
  rw [Bool.eq_iff_iff]
  split
  ·rename_i h;simp [h]
  ·split
   ·rename_i h1 h2;simp [h1];omega
   ·rename_i h1 h2;simp [h1];omega
 rw [hb]
 rw [c6];refine ⟨fun ⟨h10,e10⟩=>?_,fun ⟨h10,e10⟩=>?_⟩
 ·rw [if_neg e10]
  simp only [↓wR,RA,simprocAttr,TF,ae,h10]
  rw [be];refine ⟨fun h11=>?_,fun h11=>?_⟩
  ·rw [if_pos h11]
   simp only [↓wR,RA,simprocAttr,TF,ae,h11,gw]
  ·rw [if_neg h11]
   simp only [↓wR,RA,simprocAttr,TF,ae,h11,gw]
 ·rw [if_pos e10]
  simp only [↓wR,RA,simprocAttr,TF,ae,h10,gw]
noncomputable def aek (x:UInt16 × Unit):Option AV:=some ((r2 m6 bd).E true ((cr x.1,!mg x.1)))
set_option maxRecDepth 2000000 in
theorem P4 (x:UInt16 × Unit) (r:AV) (h:aek x=some r):bb PP 171 ((aC cy a0).E x) r:=by
 cases h
 exact ar (an.nil PP) Tryz.func171 (by kernel_rfl) (by kernel_rfl) (by kernel_rfl) (Nat.le_of_ble_eq_true (by kernel_rfl)) (r2 m6 bd) true ((cr x.1,!mg x.1)) (ayq x.1)
noncomputable abbrev rOf:Nat × Bool × (List AV→M AV):=(171,true,cg (aC cy a0) aek)
def wz (n:Int):UInt32:=if n=1 then 255 else if n=2 then 65535 else 4294967295
theorem ast (n:Int):wl PP [] 0 (Tryz.f199.body.getD .skip) (ct PP Tryz.f199.results.toList (fun r st=>(r1 cf).get true st.h r=some (wz n))) (bp 0 [(au .i64).val false n]) (bf []):=by
 unfold wz
 unfold Tryz.f199
 simp only [↓wR,RA,simprocAttr,TF,ae]
 rw [b9];refine ⟨fun ⟨h0,e0⟩=>?_,fun ⟨h0,e0⟩=>?_⟩
 ·simp only [↓wR,RA,simprocAttr,TF,ae,h0]
  rw [if_pos e0];rfl
 rw [if_neg e0]
 simp only [↓wR,RA,simprocAttr,TF,ae,h0]
 rw [b9];refine ⟨fun ⟨h1,e1⟩=>?_,fun ⟨h1,e1⟩=>?_⟩
 ·simp only [↓wR,RA,simprocAttr,TF,ae,h1]
  rw [if_pos e1];rfl
 rw [if_neg e1]
 simp only [↓wR,RA,simprocAttr,TF,ae,h1]
 rfl
noncomputable def adl (x:Int × Unit):Option AV:=some ((r1 cf).E true (wz x.1))
set_option maxRecDepth 2000000 in
theorem ajq (x:Int × Unit) (r:AV) (h:adl x=some r):bb PP 199 ((aC (au .i64) a0).E x) r:=by
 cases h
 exact ar (an.nil PP) Tryz.func199 (by kernel_rfl) (by kernel_rfl) (by kernel_rfl) (Nat.le_of_ble_eq_true (by kernel_rfl)) (r1 cf) true (wz x.1) (ast x.1)
noncomputable abbrev az9:Nat × Bool × (List AV→M AV):=(199,true,cg (aC (au .i64) a0) adl)
theorem aj6 (n:UInt32) (k:Int) (hk : 0≤k∧k≤4):wl PP [] 0 (Tryz.f205.body.getD .skip) (ct PP Tryz.f205.results.toList (fun r st=>(r1 (cj bk)).get false st.h r=some ((y8 n).drop (4 - k).toNat))) (bp 0 [cf.val false n,(au .i64).val false k]) (bf []):=by
 unfold Tryz.f205
 simp only [↓wR,RA,simprocAttr,TF,ae]
 simp (disch:=omega) only [ah,bw,bz,bu,bt]
 have h4:(4 - k).toNat≤4:=by omega
 have hkk:k=0∨k=1∨k=2∨k=3∨k=4:=by omega
 simp only [↓wR,RA,simprocAttr,TF,ae,hk,h4]
 rcases hkk with rfl|rfl|rfl|rfl|rfl<;>first|rfl|(simp only [↓wR,RA,simprocAttr,TF,ae,Sx];done)|(simp only [↓wR,RA,simprocAttr,TF,ae,Sx,List.drop,List.take];rfl)
noncomputable def Bd (x:UInt32 × Int × Unit):Option AV:=if 0≤x.2.1∧x.2.1≤4 then some ((r1 (cj bk)).E false (((y8 x.1).drop (4 - x.2.1).toNat))) else none
set_option maxRecDepth 2000000 in
theorem adt (x:UInt32 × Int × Unit) (r:AV) (h:Bd x=some r):bb PP 205 ((aC cf (aC (au .i64) a0)).E x) r:=by
 by_cases hc : 0≤x.2.1∧x.2.1≤4
 case neg=>simp only [Bd,if_neg hc] at h;cases h
 simp only [Bd,if_pos hc] at h
 cases h
 exact ar (an.nil PP) Tryz.func205 (by kernel_rfl) (by kernel_rfl) (by kernel_rfl) (Nat.le_of_ble_eq_true (by kernel_rfl)) (r1 (cj bk)) false (((y8 x.1).drop (4 - x.2.1).toNat)) (aj6 x.1 x.2.1 hc)
noncomputable abbrev avu:Nat × Bool × (List AV→M AV):=(205,true,cg (aC cf (aC (au .i64) a0)) Bd)
theorem av2 (s:ByteArray) (hs:s.size≤16777216):wl PP [] 0 (Tryz.f200.body.getD .skip) (ct PP Tryz.f200.results.toList (fun r st=>(r1 bd).get true st.h r=some (sj s))) (bp 0 [ag.val false s]) (bf []):=by
 unfold Tryz.f200
 simp only [↓wR,RA,simprocAttr,TF,ae]
 rw [be];refine ⟨fun h1=>?_,fun h1=>?_⟩
 ·have hv:sj s=false:=by unfold sj;rw [Bool.and_eq_false_iff];right;rw [decide_eq_false_iff_not];omega
  simp only [↓wR,RA,simprocAttr,TF,ae,h1,hv]
 simp only [↓wR,RA,simprocAttr,TF,ae,h1]
 rw [be];refine ⟨fun h2=>?_,fun h2=>?_⟩
 ·have hv:sj s=false:=by unfold sj;rw [Bool.and_eq_false_iff];right;rw [decide_eq_false_iff_not];omega
  simp only [↓wR,RA,simprocAttr,TF,ae,h2,hv]
 simp only [↓wR,RA,simprocAttr,TF,ae,h2]
 refine dg [0,3] (fun (i:Nat)=>[.sc (.string s),.sc (.int .i64 i)]) (fun _=>[]) (fun i=>i≤s.size∧s.data.toList.all Ah=(s.data.toList.drop i).all Ah) (fun i=>s.size - i) 0 ⟨Nat.zero_le _,rfl⟩ (by simp only [↓wR,RA,simprocAttr,TF,ae]<;>rfl) (by simp only [↓wR,RA,simprocAttr,TF,ae]<;>rfl) ?_
 rintro i ⟨hi,hR⟩
 simp only [↓wR,RA,simprocAttr,TF,ae]
 rw [be];refine ⟨fun h=>?_,fun h=>?_⟩
 ·obtain ⟨c,hc⟩:∃ c,s.data.toList[i]? = some c:=⟨_,List.getElem?_eq_getElem (by simp;omega)⟩
  have hd:=Bn hc
  rw [hd,List.all_cons] at hR
  simp only [↓wR,RA,simprocAttr,TF,ae,h,hc];repeat (simp (disch:=omega) only [ah,bw,bz,bu,bt];try simp only [↓wR,RA,simprocAttr,TF,ae,h,hc])
  repeat' (rw [be];refine ⟨fun h=>?_,fun h=>?_⟩<;>simp only [↓wR,RA,simprocAttr,TF,h,hc])
  all_goals first
   |(
    have ht:Ah c=false:=by (unfold Ah;rw [decide_eq_false_iff_not];omega)
    rw [sj,hR,ht];rfl)
   |(
    have ht:Ah c=true:=by (unfold Ah;rw [decide_eq_true_eq];omega)
    refine ⟨i+1,⟨by omega,by rw [hR,ht];simp⟩,by omega,by (first|rfl|trivial|omega|((try (simp (disch:=omega) only [ah]));(try (simp only [FB]));first|done|rfl|omega))⟩)
 ·have hdn:s.data.toList.drop i=[]:=List.drop_eq_nil_of_le (by simp;omega)
  rw [hdn,List.all_nil] at hR
  have hv:sj s=true:=by unfold sj;rw [hR,Bool.true_and,decide_eq_true_eq];omega
  simp only [↓wR,RA,simprocAttr,TF,ae,h,hv]
noncomputable def Tu (x:ByteArray × Unit):Option AV:=if x.1.size≤16777216 then some ((r1 bd).E true (sj x.1)) else none
set_option maxRecDepth 2000000 in
theorem aoq (x:ByteArray × Unit) (r:AV) (h:Tu x=some r):bb PP 200 ((aC ag a0).E x) r:=by
 by_cases hc:x.1.size≤16777216
 case neg=>simp only [Tu,if_neg hc] at h;cases h
 simp only [Tu,if_pos hc] at h
 cases h
 exact ar (an.nil PP) Tryz.func200 (by kernel_rfl) (by kernel_rfl) (by kernel_rfl) (Nat.le_of_ble_eq_true (by kernel_rfl)) (r1 bd) true (sj x.1) (av2 x.1 hc)
noncomputable abbrev aA0:Nat × Bool × (List AV→M AV):=(200,true,cg (aC ag a0) Tu)
noncomputable def M5 (t:UInt16) (d:bo):Bool:=if (t.toNat:Int)=257 then sj (d.texts.headD ⟨#[]⟩) else true
noncomputable def aji (t:UInt16) (d:bo):Bool:=if (t.toNat:Int)=16∧(d.texts.any fun x=>decide (255<x.size))=true then false else M5 t d
noncomputable def Z2 (s:Shape) (t:UInt16) (d:bo):Bool:=if (d.nums.any fun n=>decide ((wz s.size).toNat<n.toNat))=true then false else aji t d
def od (s:Shape) (d:bo):Prop:=((d.names.length:Int)≠s.names∨(d.nums.length:Int)≠s.nums)∨(0≤s.texts∧(d.texts.length:Int)≠s.texts)∨(s.texts<0∧(d.texts.length:Int)=0)∨(0≤s.raw∧(d.raw.length:Int)≠s.raw)
noncomputable def Db (s:Shape) (t:UInt16) (d:bo):Bool:=open Classical in if od s d then false else Z2 s t d
def Re (s:Shape) (t:UInt16):Prop:=(t.toNat:Int)=257→s.texts=2
instance (s:Shape) (t:UInt16):Decidable (Re s t):=inferInstanceAs (Decidable (_→_))
set_option maxHeartbeats 4000000 in
theorem asc (s:Shape) (t:UInt16) (d:bo) (hd:cq d) (h257:Re s t):wl PP [az9,aA0] 0 (Tryz.f172.body.getD .skip) (ct PP Tryz.f172.results.toList (fun r st=>(r1 bd).get true st.h r=some (Db s t d))) (bp 0 [cy.val false t,m6.val false s,ba.val false d]) (bf []):=by
 obtain ⟨l1,l2,l3,l4⟩:=hd.lens
 have hbad:od s d→Db s t d=false:=fun h=>if_pos h
 have hok:¬ od s d→Db s t d=Z2 s t d:=fun h=>if_neg h
 unfold Tryz.f172
 simp only [tw,gh,bn]
 have hg:∀ (L:SL) (P1:Prop),(P1→0<d.texts.length)→True:=fun _ _ _=>trivial
 simp only [↓wR,RA,simprocAttr,TF,ae]
 rw [c6];refine ⟨fun ⟨a1,e1⟩=>?_,fun ⟨a1,e1⟩=>?_⟩
 ·have hv:=hbad (.inl (.inl e1))
  simp only [↓wR,RA,simprocAttr,TF,ae,a1,hv]
 simp only [↓wR,RA,simprocAttr,TF,ae,a1]
 rw [c6];refine ⟨fun ⟨a2,e2⟩=>?_,fun ⟨a2,e2⟩=>?_⟩
 ·have hv:=hbad (.inl (.inr e2))
  simp only [↓wR,RA,simprocAttr,TF,ae,a2,hv]
 simp only [↓wR,RA,simprocAttr,TF,ae,a2]
 rw [be];refine ⟨fun h3=>?_,fun h3=>?_⟩
 simp only [↓wR,RA,simprocAttr,TF,ae,h3]
 rw [c6];refine ⟨fun ⟨a3,e3⟩=>?_,fun ⟨a3,e3⟩=>?_⟩
 have hv:=hbad (.inr (.inl ⟨h3,e3⟩))
 simp only [↓wR,RA,simprocAttr,TF,ae,a3,hv]
 simp only [↓wR,RA,simprocAttr,TF,ae,a3]
 rw [be];refine ⟨fun h4=>?_,fun h4=>?_⟩
 exfalso;omega
 simp only [↓wR,RA,simprocAttr,TF,ae,h4]
 rw [be];refine ⟨fun h5=>?_,fun h5=>?_⟩
 simp only [↓wR,RA,simprocAttr,TF,ae,h5]
 rw [c6];refine ⟨fun ⟨a4,e4⟩=>?_,fun ⟨a4,e4⟩=>?_⟩
 have hv:=hbad (.inr (.inr (.inr ⟨h5,e4⟩)))
 simp only [↓wR,RA,simprocAttr,TF,ae,a4,hv]
 have hv:=hok (by unfold od;omega)
 have hp:(t.toNat:Int)=257→0<d.texts.length:=fun q=>by have:=h257 q;omega
 simp only [↓wR,RA,simprocAttr,TF,ae,a4]
 rotate_left
 have hv:=hok (by unfold od;omega)
 have hp:(t.toNat:Int)=257→0<d.texts.length:=fun q=>by have:=h257 q;omega
 simp only [↓wR,RA,simprocAttr,TF,ae,h5]
 rotate_left
 simp only [↓wR,RA,simprocAttr,TF,ae,h3]
 rw [be];refine ⟨fun h4=>?_,fun h4=>?_⟩
 simp only [↓wR,RA,simprocAttr,TF,ae,h4]
 rw [b9];refine ⟨fun ⟨a3,e3⟩=>?_,fun ⟨a3,e3⟩=>?_⟩
 have hv:=hbad (.inr (.inr (.inl ⟨h4,e3⟩)))
 simp only [↓wR,RA,simprocAttr,TF,ae,a3,hv]
 simp only [↓wR,RA,simprocAttr,TF,ae,a3]
 rw [be];refine ⟨fun h5=>?_,fun h5=>?_⟩
 simp only [↓wR,RA,simprocAttr,TF,ae,h5]
 rw [c6];refine ⟨fun ⟨a4,e4⟩=>?_,fun ⟨a4,e4⟩=>?_⟩
 have hv:=hbad (.inr (.inr (.inr ⟨h5,e4⟩)))
 simp only [↓wR,RA,simprocAttr,TF,ae,a4,hv]
 have hv:=hok (by unfold od;omega)
 have hp:(t.toNat:Int)=257→0<d.texts.length:=fun q=>by have:=h257 q;omega
 simp only [↓wR,RA,simprocAttr,TF,ae,a4]
 rotate_left
 have hv:=hok (by unfold od;omega)
 have hp:(t.toNat:Int)=257→0<d.texts.length:=fun q=>by have:=h257 q;omega
 simp only [↓wR,RA,simprocAttr,TF,ae,h5]
 rotate_left
 exfalso;omega
 all_goals
  rw [hv]
  clear hv hg hbad hok h257
  unfold Z2
  refine dg [0,4,5,7] (fun (i:Nat)=>[.sc (.int .u16 t.toNat),.ptr 0 0,.ptr 1 0,.sc (.int .i64 (i))]) (fun _=>[some (.row [.sc (.int .i64 (s).names),.sc (.int .i64 (s).nums),.sc (.int .i64 (s).texts),.sc (.int .i64 (s).raw),.sc (.int .i64 (s).size)] 0 2 209),some (.row [.vl false 1 (d.names.map (ai.val false)),.vl false 1 (d.nums.map (cf.val false)),.vl false 1 (d.texts.map (ag.val false)),.vl false 1 (d.raw.map (bk.val false))] 0 2 116)]) (fun i=>i≤d.nums.length∧(d.nums.any fun n=>decide ((wz s.size).toNat<n.toNat))=((d.nums.drop i).any fun n=>decide ((wz s.size).toNat<n.toNat))) (fun i=>d.nums.length - i) 0 ⟨Nat.zero_le _,by rw [List.drop_zero]⟩ (by simp only [↓wR,RA,simprocAttr,TF,ae]<;>rfl) (by simp only [↓wR,RA,simprocAttr,TF,ae]<;>rfl) ?_
  rintro i ⟨hi,hR⟩
  simp only [↓wR,RA,simprocAttr,TF,ae]
  rw [be];refine ⟨fun h=>?_,fun h=>?_⟩
  ·obtain ⟨c,hc,hd1,hlt⟩:=dq (decide_eq_true h)
   rw [hd1,List.any_cons] at hR
   simp only [↓wR,RA,simprocAttr,TF,ae,h]
   refine ⟨by kernel_rfl,.inl ?_⟩
   simp only [↓wR,RA,simprocAttr,TF,ae,hc,adl]
   refine ⟨by kernel_rfl,?_⟩
   rw [be];refine ⟨fun h6=>?_,fun h6=>?_⟩
   ·rw [if_pos (by rw [hR,decide_eq_true (by omega),Bool.true_or])]
    simp only [↓wR,RA,simprocAttr,TF,ae,h6]
   ·simp only [↓wR,RA,simprocAttr,TF,ae,h6];repeat (simp (disch:=omega) only [ah,bw,bz,bu,bt];try simp only [↓wR,RA,simprocAttr,TF,ae,h6])
    exact ⟨i+1,⟨hlt,by rw [hR,decide_eq_false (by omega),Bool.false_or]⟩,by omega,by (first|rfl|trivial|omega|((try (simp (disch:=omega) only [ah]));(try (simp only [FB]));first|done|rfl|omega))⟩
  rw [en (decide_eq_false h),List.any_nil] at hR
  rw [if_neg (by rw [hR];decide)]
  simp only [↓wR,RA,simprocAttr,TF,ae,h]
  unfold aji
  refine dg [0,5,8] (fun (i:Nat)=>[.sc (.int .u16 t.toNat),.ptr 0 0,.sc (.int .i64 (i))]) (fun _=>[some (.row [.vl false 1 (d.names.map (ai.val false)),.vl false 1 (d.nums.map (cf.val false)),.vl false 1 (d.texts.map (ag.val false)),.vl false 1 (d.raw.map (bk.val false))] 0 2 116)]) (fun i=>i≤d.texts.length∧(d.texts.any fun x=>decide (255<x.size))=((d.texts.drop i).any fun x=>decide (255<x.size))) (fun i=>d.texts.length - i) 0 ⟨Nat.zero_le _,by rw [List.drop_zero]⟩ (by simp only [↓wR,RA,simprocAttr,TF,ae]<;>rfl) (by simp only [↓wR,RA,simprocAttr,TF,ae]<;>rfl) ?_
  rintro i ⟨hi2,hR2⟩
  simp only [↓wR,RA,simprocAttr,TF,ae]
  rw [b9];refine ⟨fun ⟨h7,e7⟩=>?_,fun ⟨h7,e7⟩=>?_⟩
  ·simp only [↓wR,RA,simprocAttr,TF,ae,h7]
   rw [be];refine ⟨fun h8=>?_,fun h8=>?_⟩
   ·obtain ⟨c,hc,hd1,hlt⟩:=dq (decide_eq_true h8)
    rw [hd1,List.any_cons] at hR2
    simp only [↓wR,RA,simprocAttr,TF,ae,h8,hc]
    rw [be];refine ⟨fun h9=>?_,fun h9=>?_⟩
    ·rw [if_pos ⟨e7,by rw [hR2,decide_eq_true (by omega),Bool.true_or]⟩]
     simp only [↓wR,RA,simprocAttr,TF,ae,h9]
    ·simp only [↓wR,RA,simprocAttr,TF,ae,h9];repeat (simp (disch:=omega) only [ah,bw,bz,bu,bt];try simp only [↓wR,RA,simprocAttr,TF,ae,h9])
     exact ⟨i+1,⟨hlt,by rw [hR2,decide_eq_false (by omega),Bool.false_or]⟩,by omega,by (first|rfl|trivial|omega|((try (simp (disch:=omega) only [ah]));(try (simp only [FB]));first|done|rfl|omega))⟩
   ·rw [en (decide_eq_false h8),List.any_nil] at hR2
    rw [if_neg (by rw [hR2];rintro ⟨_,q⟩;cases q)]
    have hv:M5 t d=true:=if_neg (by omega)
    rw [hv]
    simp only [↓wR,RA,simprocAttr,TF,ae,h8,e7]
  ·rw [if_neg (fun q=>e7 q.1)]
   simp only [↓wR,RA,simprocAttr,TF,ae,h7]
   rw [c6];refine ⟨fun ⟨h10,e10⟩=>?_,fun ⟨h10,e10⟩=>?_⟩
   ·have hv:M5 t d=true:=if_neg e10
    rw [hv]
    simp only [↓wR,RA,simprocAttr,TF,ae,h10]
   ·obtain ⟨c,hc⟩:∃ c,d.texts[0]? = some c:=⟨_,List.getElem?_eq_getElem (hp e10)⟩
    have hh:d.texts.headD ⟨#[]⟩=c:=by
     cases ht:d.texts with
     |nil=>rw [ht] at hc;cases hc
     |cons a l=>rw [ht] at hc;simpa using hc
    have hv:M5 t d=sj c:=by unfold M5;rw [if_pos e10,hh]
    rw [hv]
    simp only [↓wR,RA,simprocAttr,TF,ae,h10,hc,Tu,hd.text c (List.mem_of_getElem? hc)]
noncomputable def Kc (x:UInt16 × Shape × bo × Unit):Option AV:=if cq x.2.2.1∧Re x.2.1 x.1 then some ((r1 bd).E true (Db x.2.1 x.1 x.2.2.1)) else none
set_option maxRecDepth 2000000 in
theorem aki (x:UInt16 × Shape × bo × Unit) (r:AV) (h:Kc x=some r):bb PP 172 ((aC cy (aC m6 (aC ba a0))).E x) r:=by
 by_cases hc:cq x.2.2.1∧Re x.2.1 x.1
 case neg=>simp only [Kc,if_neg hc] at h;cases h
 simp only [Kc,if_pos hc] at h
 cases h
 exact ar (an.cons (ak ajq) (an.cons (ak aoq) (an.nil PP))) Tryz.func172 (by kernel_rfl) (by kernel_rfl) (by kernel_rfl) (Nat.le_of_ble_eq_true (by kernel_rfl)) (r1 bd) true (Db x.2.1 x.1 x.2.2.1) (asc x.2.1 x.1 x.2.2.1 hc.1 hc.2)
noncomputable abbrev azv:Nat × Bool × (List AV→M AV):=(172,true,cg (aC cy (aC m6 (aC ba a0))) Kc)
def xj (l:List Name):Nat:=(l.map bq).sum
def xp (t:UInt16):Nat→List ByteArray→Nat
 |_,[]=>0
 |i,x::r=>x.size+(if (t.toNat:Int)=16∨i=0 then 1 else 0)+xp t (i+1) r
theorem auw (l:List Name):xj l≤ko bq l:=by
 induction l with
 |nil=>exact Nat.le_refl _
 |cons a l ih=>simp only [xj,List.map_cons,List.sum_cons,ko,List.foldr_cons] at ih ⊢;omega
theorem awn (t:UInt16) (l:List ByteArray):∀ i,xp t i l≤ko ByteArray.size l:=by
 induction l with
 |nil=>intro i;exact Nat.le_refl _
 |cons a l ih=>
  intro i
  have:=ih (i+1)
  simp only [xp,ko,List.foldr_cons] at this ⊢
  split<;>omega
def Gy (s:Shape) (t:UInt16) (d:bo):Int:=d.raw.length+d.nums.length * s.size+xj d.names+xp t 0 d.texts
theorem awk {l:List Name} {i:Nat} {c:Name} (h:l.drop i=c::l.drop (i+1)):xj (l.drop i)=bq c+xj (l.drop (i+1)):=by rw [h];simp [xj]
theorem awd {t:UInt16} {l:List ByteArray} {i:Nat} {c:ByteArray} (h:l.drop i=c::l.drop (i+1)):xp t i (l.drop i)=c.size+(if (t.toNat:Int)=16∨i=0 then 1 else 0)+xp t (i+1) (l.drop (i+1)):=by rw [h];rfl
set_option maxHeartbeats 4000000 in
theorem apo (s:Shape) (t:UInt16) (d:bo) (hd:cq d) (hs : 0≤s.size∧s.size≤4):wl PP [aqo] 0 (Tryz.f173.body.getD .skip) (ct PP Tryz.f173.results.toList (fun r st=>(r1 (au .i64)).get true st.h r=some (Gy s t d))) (bp 0 [cy.val false t,m6.val false s,ba.val false d]) (bf []):=by
 obtain ⟨l1,l2,l3,l4⟩:=hd.lens
 have hn:=auw d.names
 have ht:=awn t d.texts 0
 have hw:ko bq d.names+ko ByteArray.size d.texts≤16777216:=by unfold cq B7 at hd;omega
 have hm0 : 0≤(d.nums.length:Int) * s.size:=Int.mul_nonneg (by omega) hs.1
 have hm1:(d.nums.length:Int) * s.size≤d.nums.length * 4:=Int.mul_le_mul_of_nonneg_left hs.2 (by omega)
 have hz:Gy s t d=d.raw.length+d.nums.length * s.size+xj d.names+xp t 0 d.texts:=rfl
 obtain ⟨A,hA⟩:∃ A:Int,A=d.raw.length+d.nums.length * s.size:=⟨_,rfl⟩
 rw [hz,← hA]
 have hA0 : 0≤A∧A≤134217728:=by omega
 unfold Tryz.f173
 simp only [tw,gh,bn]
 simp only [↓wR,RA,simprocAttr,TF,ae]
 simp (disch:=omega) only [ah,bw,bz,bu,bt]
 rw [← hA]
 refine dg [0,5,7,8] (fun (i:Nat)=>[.sc (.int .u16 t.toNat),.ptr 0 0,.sc (.int .i64 (A+(xj d.names - xj (d.names.drop i):Nat))),.sc (.int .i64 (i))]) (fun _=>[some (.row [.vl false 1 (d.names.map (ai.val false)),.vl false 1 (d.nums.map (cf.val false)),.vl false 1 (d.texts.map (ag.val false)),.vl false 1 (d.raw.map (bk.val false))] 0 2 116)]) (fun i=>i≤d.names.length∧xj (d.names.drop i)≤xj d.names) (fun i=>d.names.length - i) 0 ⟨Nat.zero_le _,Nat.le_refl _⟩ (by simp only [↓wR,RA,simprocAttr,TF,ae]<;>first|rfl|(rw [List.drop_zero,Nat.sub_self,Int.add_zero])) (by simp only [↓wR,RA,simprocAttr,TF,ae]<;>rfl) ?_
 rintro i ⟨hi,hx⟩
 simp only [↓wR,RA,simprocAttr,TF,ae]
 rw [be];refine ⟨fun h=>?_,fun h=>?_⟩
 ·obtain ⟨c,hc,hd1,hlt⟩:=dq (decide_eq_true h)
  have e1:=awk hd1
  have hnc:=hd.name c (List.mem_of_getElem? hc)
  simp only [↓wR,RA,simprocAttr,TF,ae,h,hc,Aw,hnc.fit];repeat (simp (disch:=omega) only [ah,bw,bz,bu,bt];try simp only [↓wR,RA,simprocAttr,TF,ae,h,hc,Aw,hnc.fit])
  exact ⟨i+1,⟨hlt,by omega⟩,by omega,by (first|rfl|trivial|omega|((try (simp (disch:=omega) only [ah]));(try (simp only [FB]));first|done|rfl|omega))⟩
 rw [en (decide_eq_false h)]
 have e0:xj []=0:=rfl
 rw [e0,Nat.sub_zero]
 simp only [↓wR,RA,simprocAttr,TF,ae,h]
 refine dg [0,5,7,9] (fun (i:Nat)=>[.sc (.int .u16 t.toNat),.ptr 0 0,.sc (.int .i64 (A+xj d.names+(xp t 0 d.texts - xp t i (d.texts.drop i):Nat))),.sc (.int .i64 (i))]) (fun _=>[some (.row [.vl false 1 (d.names.map (ai.val false)),.vl false 1 (d.nums.map (cf.val false)),.vl false 1 (d.texts.map (ag.val false)),.vl false 1 (d.raw.map (bk.val false))] 0 2 116)]) (fun i=>i≤d.texts.length∧xp t i (d.texts.drop i)≤xp t 0 d.texts) (fun i=>d.texts.length - i) 0 ⟨Nat.zero_le _,Nat.le_refl _⟩ (by simp only [↓wR,RA,simprocAttr,TF,ae]<;>first|rfl|(rw [List.drop_zero,Nat.sub_self,Int.add_zero])) (by simp only [↓wR,RA,simprocAttr,TF,ae]<;>rfl) ?_
 rintro i ⟨hi,hx⟩
 simp only [↓wR,RA,simprocAttr,TF,ae]
 rw [be];refine ⟨fun h2=>?_,fun h2=>?_⟩
 ·obtain ⟨c,hc,hd1,hlt⟩:=dq (decide_eq_true h2)
  have e1:=awd (t:=t) hd1
  simp only [↓wR,RA,simprocAttr,TF,ae,h2,hc];repeat (simp (disch:=omega) only [ah,bw,bz,bu,bt];try simp only [↓wR,RA,simprocAttr,TF,ae,h2,hc])
  rw [b9];refine ⟨fun ⟨h3,e3⟩=>?_,fun ⟨h3,e3⟩=>?_⟩
  ·rw [if_pos (.inl e3)] at e1
   simp only [↓wR,RA,simprocAttr,TF,ae,h3];repeat (simp (disch:=omega) only [ah,bw,bz,bu,bt];try simp only [↓wR,RA,simprocAttr,TF,ae,h3])
   exact ⟨i+1,⟨hlt,by omega⟩,by omega,by (first|rfl|trivial|omega|((try (simp (disch:=omega) only [ah]));(try (simp only [FB]));first|done|rfl|omega))⟩
  ·simp only [↓wR,RA,simprocAttr,TF,ae,h3]
   rw [b9];refine ⟨fun ⟨h4,e4⟩=>?_,fun ⟨h4,e4⟩=>?_⟩
   ·rw [if_pos (.inr (by omega))] at e1
    simp only [↓wR,RA,simprocAttr,TF,ae,h4];repeat (simp (disch:=omega) only [ah,bw,bz,bu,bt];try simp only [↓wR,RA,simprocAttr,TF,ae,h4])
    exact ⟨i+1,⟨hlt,by omega⟩,by omega,by (first|rfl|trivial|omega|((try (simp (disch:=omega) only [ah]));(try (simp only [FB]));first|done|rfl|omega))⟩
   ·rw [if_neg (by omega)] at e1
    simp only [↓wR,RA,simprocAttr,TF,ae,h4];repeat (simp (disch:=omega) only [ah,bw,bz,bu,bt];try simp only [↓wR,RA,simprocAttr,TF,ae,h4])
    exact ⟨i+1,⟨hlt,by omega⟩,by omega,by (first|rfl|trivial|omega|((try (simp (disch:=omega) only [ah]));(try (simp only [FB]));first|done|rfl|omega))⟩
 rw [en (decide_eq_false h2)]
 have e1:xp t i []=0:=by cases i<;>rfl
 rw [e1,Nat.sub_zero]
 simp only [↓wR,RA,simprocAttr,TF,ae,h2]
noncomputable def Hi (x:UInt16 × Shape × bo × Unit):Option AV:=if cq x.2.2.1∧(0≤x.2.1.size∧x.2.1.size≤4) then some ((r1 (au .i64)).E true (Gy x.2.1 x.1 x.2.2.1)) else none
set_option maxRecDepth 2000000 in
theorem agm (x:UInt16 × Shape × bo × Unit) (r:AV) (h:Hi x=some r):bb PP 173 ((aC cy (aC m6 (aC ba a0))).E x) r:=by
 by_cases hc:cq x.2.2.1∧(0≤x.2.1.size∧x.2.1.size≤4)
 case neg=>simp only [Hi,if_neg hc] at h;cases h
 simp only [Hi,if_pos hc] at h
 cases h
 exact ar (an.cons (ak Pe) (an.nil PP)) Tryz.func173 (by kernel_rfl) (by kernel_rfl) (by kernel_rfl) (Nat.le_of_ble_eq_true (by kernel_rfl)) (r1 (au .i64)) true (Gy x.2.1 x.1 x.2.2.1) (apo x.2.1 x.1 x.2.2.1 hc.1 hc.2)
noncomputable abbrev ayv:Nat × Bool × (List AV→M AV):=(173,true,cg (aC cy (aC m6 (aC ba a0))) Hi)
theorem Xs (s:Shape):(⟨s.names,s.nums,s.size,s.texts,s.raw⟩:Shape)=s:=rfl
theorem Bv (t:UInt16):((t.toNat:Int)=16∧(cr t).texts = -1∧(cr t).nums=0∧(cr t).size=0∧(cr t).raw=0)∨((t.toNat:Int)=257∧(cr t).texts=2∧(cr t).nums=1∧(cr t).size=1∧(cr t).raw=0) ∨
 ((t.toNat:Int)≠16∧(t.toNat:Int)≠257∧(cr t).texts=0∧(((cr t).size=0∧(cr t).nums=0)∨(cr t).size=2∨(cr t).size=4)∧((t.toNat:Int)=6→(cr t).raw=0)):=by
 unfold cr
 split
 ·exact .inr (.inr ⟨by omega,by omega,rfl,.inl ⟨rfl,rfl⟩,by omega⟩)
 split
 ·exact .inr (.inr ⟨by omega,by omega,rfl,.inl ⟨rfl,rfl⟩,by omega⟩)
 split
 ·exact .inr (.inr ⟨by omega,by omega,rfl,.inl ⟨rfl,rfl⟩,by omega⟩)
 split
 ·exact .inr (.inr ⟨by omega,by omega,rfl,.inl ⟨rfl,rfl⟩,by omega⟩)
 split
 ·exact .inr (.inr ⟨by omega,by omega,rfl,.inl ⟨rfl,rfl⟩,by omega⟩)
 split
 ·exact .inr (.inr ⟨by omega,by omega,rfl,.inr (.inr rfl),fun _=>rfl⟩)
 split
 ·exact .inr (.inr ⟨by omega,by omega,rfl,.inr (.inl rfl),by omega⟩)
 split
 ·exact .inr (.inr ⟨by omega,by omega,rfl,.inr (.inl rfl),by omega⟩)
 split
 ·exact .inl ⟨by assumption,rfl,rfl,rfl,rfl⟩
 split
 ·exact .inr (.inl ⟨by assumption,rfl,rfl,rfl,rfl⟩)
 ·exact .inr (.inr ⟨by omega,by omega,rfl,.inl ⟨rfl,rfl⟩,by omega⟩)
theorem H8 {α:Type} {p q : α→Bool}:∀ {l:List α},(∀ x ∈ l,p x=q x)→l.any p=l.any q
 | [],_=>rfl
 |a::l,h=>by rw [List.any_cons,List.any_cons,h a (by simp),H8 (fun x hx=>h x (by simp [hx]))]
theorem ava (s:Shape) (hs:s.size=0∨s.size=1∨s.size=2∨s.size=4) (l:List UInt32) (h0:s.size=0→l=[]):(s.size<4∧(l.any fun n=>decide (zh s≤(n.toNat:Int)))=true)↔(l.any fun n=>decide ((wz s.size).toNat<n.toNat))=true:=by
 have hb:∀ n:UInt32,n.toNat<4294967296:=fun n=>n.toNat_lt
 rcases hs with h|h|h|h
 ·rw [h0 h];simp
 ·have e1:zh s=256:=by unfold zh;rw [h];rfl
  have e2:(wz s.size).toNat=255:=by rw [h];rfl
  rw [e1,e2,H8 (q:=fun n=>decide (255<n.toNat)) (fun n _=>by rw [decide_eq_decide];omega)]
  exact ⟨fun q=>q.2,fun q=>⟨by omega,q⟩⟩
 ·have e1:zh s=65536:=by unfold zh;rw [h];rfl
  have e2:(wz s.size).toNat=65535:=by rw [h];rfl
  rw [e1,e2,H8 (q:=fun n=>decide (65535<n.toNat)) (fun n _=>by rw [decide_eq_decide];omega)]
  exact ⟨fun q=>q.2,fun q=>⟨by omega,q⟩⟩
 ·have e2:(wz s.size).toNat=4294967295:=by rw [h];rfl
  rw [e2]
  refine ⟨fun q=>by omega,fun q=>?_⟩
  obtain ⟨n,_,hn⟩:=List.any_eq_true.1 q
  have:=hb n
  simp at hn;omega
theorem Vy (t:UInt16) (d:bo):Db (cr t) t d=sf (cr t) t d:=by
 have hk:=Bv t
 unfold Db sf Z2 aji M5
 by_cases hb:(d.names.length:Int)≠(cr t).names∨(d.nums.length:Int)≠(cr t).nums∨(0≤(cr t).raw∧(d.raw.length:Int)≠(cr t).raw)
 ·rw [if_pos hb,if_pos (by unfold od;omega)]
 rw [if_neg hb]
 have hm:=ava (cr t) (by omega) d.nums (fun e=>List.eq_nil_of_length_eq_zero (by omega))
 by_cases hm1:(d.nums.any fun n=>decide ((wz (cr t).size).toNat<n.toNat))=true
 ·rw [if_pos (hm.2 hm1),if_pos hm1,ite_self]
 rw [if_neg (fun q=>hm1 (hm.1 q)),if_neg hm1]
 rcases hk with ⟨k1,k2,_⟩|⟨k1,k2,_⟩|⟨k1,k2,k3,_⟩
 ·rw [if_neg (show ¬ (t.toNat:Int)=257 by omega),if_neg (show ¬ (t.toNat:Int)=257 by omega),if_neg (show ¬ (cr t).texts=0 by omega)]
  by_cases hl:d.texts.length=0
  ·rw [if_pos (by unfold od;omega),decide_eq_false (by omega),Bool.false_and]
  ·rw [if_neg (by unfold od;omega),decide_eq_true (by omega),Bool.true_and]
   cases ha:(d.texts.any fun x=>decide (255<x.size)) with
   |true=>rw [if_pos ⟨k1,rfl⟩];rfl
   |false=>rw [if_neg (by rintro ⟨_,q⟩;cases q)];rfl
 ·rw [if_pos k1,if_pos k1]
  by_cases hl:d.texts.length=2
  ·rw [if_neg (show ¬ od (cr t) d by unfold od;omega),decide_eq_true hl,Bool.true_and,if_neg (fun q=>by have:=q.1;omega)]
  ·rw [if_pos (show od (cr t) d by unfold od;omega),decide_eq_false hl,Bool.false_and]
 ·rw [if_neg k2,if_neg k2,if_pos k3]
  by_cases hl:d.texts.length=0
  ·rw [if_neg (show ¬ od (cr t) d by unfold od;omega),decide_eq_true hl,if_neg (fun q=>by have:=q.1;omega)]
  ·rw [if_pos (show od (cr t) d by unfold od;omega),decide_eq_false hl]
theorem Up:∀ {l:List Name},kb l=0→(l.flatMap kg).length=xj l
 | [],_=>rfl
 |n::l,h=>by
  unfold kb at h
  split at h
  ·exact absurd h (by assumption)
  ·rename_i h1
   have h2:da n=0:=by omega
   have h3:=tt n
   rw [List.flatMap_cons,List.length_append,Up h]
   simp only [kg,h2,ne_eq,not_true,if_false,nameBytes,List.length_append,List.length_singleton,xj,List.map_cons,List.sum_cons]
   omega
theorem Tw (t:UInt16):∀ (l:List ByteArray) (i:Nat),(nv t i l).length=xp t i l
 | [],i=>rfl
 |x::l,i=>by
  have:=Tw t l (i+1)
  have hx:x.data.toList.length=x.size:=by simp
  simp only [nv,xp,List.length_append,this,hx]
  split<;>simp<;>omega
theorem Tz (t:UInt16) (hs : 0≤(cr t).size∧(cr t).size≤4):∀ l:List UInt32,((l.flatMap (zw t)).length:Int)=l.length * (cr t).size
 | []=>by simp
 |n::l=>by
  have:=Tz t hs l
  have h1:((zw t n).length:Int)=(cr t).size:=by unfold zw;rw [List.length_drop,E9];omega
  rw [List.flatMap_cons,List.length_append,List.length_cons,Int.natCast_add,this,h1,Int.natCast_add,Int.add_mul]
  omega
theorem as6 (t:UInt16) (d:bo) (hf:sf (cr t) t d=true) (hn:kb d.names=0):Gy (cr t) t d=((mf t d).length:Int):=by
 have hk:=Bv t
 have h1:=Tz t (zv t) d.nums
 have h2:=Up hn
 have h3:=Tw t d.texts 0
 unfold Gy mf
 change ((um t d).length:Int)=_ at h1
 change (qx d).length=_ at h2
 change (px t d).length=_ at h3
 split
 ·rename_i h6
  rw [← Vy] at hf
  unfold Db at hf
  split at hf
  ·cases hf
  ·rename_i hb
   unfold od at hb
   have e1:d.texts=[]:=List.eq_nil_of_length_eq_zero (by omega)
   rw [e1]
   rw [List.length_append]
   have:xp t 0 []=0:=rfl
   omega
 ·simp only [List.length_append]
  omega
set_option maxHeartbeats 4000000 in
theorem Zk (t:UInt16) (d:bo) (hd:cq d):wl PP [rOf,azv,Mh,ayv] 0 (Tryz.f123.body.getD .skip) (ct PP Tryz.f123.results.toList (fun r st=>(r1 (au .i64)).get true st.h r=some (du t d))) (bp 0 [cy.val false t,ba.val false d]) (bf []):=by
 have hs:=zv t
 have hl:=hd.lens
 have h257:Re (cr t) t:=fun e=>by have:=Bv t;omega
 have hsz:=as6 t d
 unfold Tryz.f123
 simp only [gh,bn]
 simp only [↓wR,RA,simprocAttr,TF,ae,aek,tw]
 unfold du
 rw [ca];refine ⟨fun hb=>?_,fun hb=>?_⟩
 ·have hb':mg t=true:=by simpa using hb
  rw [if_pos hb']
  simp only [↓wR,RA,simprocAttr,TF,ae,hb]
 have hb':mg t=false:=by simpa using hb
 rw [if_neg (by rw [hb'];decide)]
 simp only [↓wR,RA,simprocAttr,TF,ae,hb,gw,Xs,Kc,hd,h257,Vy]
 rw [ca];refine ⟨fun hf=>?_,fun hf=>?_⟩
 ·rw [if_pos (by simpa using hf)]
  simp only [↓wR,RA,simprocAttr,TF,ae,hf]
 have hf':sf (cr t) t d=true:=by simpa using hf
 rw [if_neg (by rw [hf'];decide)]
 simp only [↓wR,RA,simprocAttr,TF,ae,hf]
 refine dg [0,3,5,7] (fun (i:Nat)=>[.sc (.int .u16 t.toNat),.ptr 0 0,.ptr 1 0,.sc (.int .i64 (i))]) (fun _=>[some (.row [.vl false 1 (d.names.map (ai.val false)),.vl false 1 (d.nums.map (cf.val false)),.vl false 1 (d.texts.map (ag.val false)),.vl false 1 (d.raw.map (bk.val false))] 0 2 116),some (.row [.sc (.int .i64 (cr t).names),.sc (.int .i64 (cr t).nums),.sc (.int .i64 (cr t).texts),.sc (.int .i64 (cr t).raw),.sc (.int .i64 (cr t).size)] 0 2 209)]) (fun i=>i≤d.names.length∧kb d.names=kb (d.names.drop i)) (fun i=>d.names.length - i) 0 ⟨Nat.zero_le _,rfl⟩ (by simp only [↓wR,RA,simprocAttr,TF,ae]<;>rfl) (by simp only [↓wR,RA,simprocAttr,TF,ae]<;>rfl) ?_
 rintro i ⟨hi,hx⟩
 simp only [↓wR,RA,simprocAttr,TF,ae]
 rw [be];refine ⟨fun h=>?_,fun h=>?_⟩
 ·obtain ⟨c,hc,hd1,hlt⟩:=dq (decide_eq_true h)
  rw [Pr hd1] at hx
  simp only [↓wR,RA,simprocAttr,TF,ae,h,hc,vd,(hd.name c (List.mem_of_getElem? hc)).fit]
  rw [ca];refine ⟨fun h1=>?_,fun h1=>?_⟩
  ·have he:da c≠0:=by simpa using h1
   rw [if_pos he] at hx
   rw [if_pos (by rw [hx];exact he),hx]
   simp only [↓wR,RA,simprocAttr,TF,ae,h1]
  ·have he:da c=0:=by simpa using h1
   rw [if_neg (by omega)] at hx
   simp only [↓wR,RA,simprocAttr,TF,ae,h1];repeat (simp (disch:=omega) only [ah,bw,bz,bu,bt];try simp only [↓wR,RA,simprocAttr,TF,ae,h1])
   exact ⟨i+1,⟨hlt,hx⟩,by omega,by (first|rfl|trivial|omega|((try (simp (disch:=omega) only [ah]));(try (simp only [FB]));first|done|rfl|omega))⟩
 rw [en (decide_eq_false h)] at hx
 have hx0:kb d.names=0:=hx
 rw [if_neg (by rw [hx];decide)]
 simp only [↓wR,RA,simprocAttr,TF,ae,h,gw,Xs,Hi,hd,hs,hsz hf' hx0]
 rw [be];refine ⟨fun h2=>?_,fun h2=>?_⟩
 ·rw [if_pos (by omega)]
  simp only [↓wR,RA,simprocAttr,TF,ae,h2]
 ·rw [if_neg (by omega)]
  simp only [↓wR,RA,simprocAttr,TF,ae,h2]
noncomputable def nq (x:UInt16 × bo × Unit):Option AV:=if cq x.2.1 then some ((r1 (au .i64)).E true (du x.1 x.2.1)) else none
set_option maxRecDepth 2000000 in
theorem zb (x:UInt16 × bo × Unit) (r:AV) (h:nq x=some r):bb PP 123 ((aC cy (aC ba a0)).E x) r:=by
 by_cases hc:cq x.2.1
 case neg=>simp only [nq,if_neg hc] at h;cases h
 simp only [nq,if_pos hc] at h
 cases h
 exact ar (an.cons (ak P4) (an.cons (ak aki) (an.cons (ak wa) (an.cons (ak agm) (an.nil PP))))) Tryz.func123 (by kernel_rfl) (by kernel_rfl) (by kernel_rfl) (Nat.le_of_ble_eq_true (by kernel_rfl)) (r1 (au .i64)) true (du x.1 x.2.1) (Zk x.1 x.2.1 hc)
noncomputable abbrev Ie:Nat × Bool × (List AV→M AV):=(123,true,cg (aC cy (aC ba a0)) nq)
theorem Y9 (n:Name) (hn:aw n):wl PP [Mh] 0 (Tryz.f204.body.getD .skip) (ct PP Tryz.f204.results.toList (fun r st=>(r2 (cj bk) (au .i64)).get true st.h r=some (kg n,da n))) (bp 0 [ai.val false n]) (bf []):=by
 unfold Tryz.f204
 simp only [bn]
 have hln:=hn.lt
 simp only [↓wR,RA,simprocAttr,TF,ae,vd,hn.fit]
 rw [ca];refine ⟨fun h=>?_,fun h=>?_⟩
 ·have he:da n≠0:=by simpa using h
  have hb:kg n=[]:=if_pos he
  simp only [↓wR,RA,simprocAttr,TF,ae,h,hb]
 have he:da n=0:=by simpa using h
 have hb:kg n=nameBytes n:=if_neg (by omega)
 rw [hb,he]
 simp only [↓wR,RA,simprocAttr,TF,ae,h]
 refine gz [0,6,5] (fun (x:Nat × List UInt8)=>[.vl false 1 (n.map (ag.val false)),.sc (.int .i64 x.1),.sl 0 0 x.2.length 1]) (fun x=>[some (.row (x.2.map (bk.val false)) 0 0 5)]) (fun x=>x.2++(n.drop x.1).flatMap gu=n.flatMap gu∧x.1≤n.length) (fun x=>n.length - x.1) (0,[]) ⟨rfl,Nat.zero_le _⟩ (by simp only [↓wR,RA,simprocAttr,TF,ae];(refine jo.lax [] (by first|exact Nat.le_of_ble_eq_true rfl|(simp [di];omega)) ?_ ?_<;>repeat' first|exact er.nil|exact cp.nil|exact ft.same _|exact ft.nil _ _ _|exact ft.oi _ _|exact cp.refl _ _|apply er.cons|apply cp.ghost|apply cp.same|apply cp.row)) ?_
 rintro ⟨i,x⟩ ⟨hR,hx⟩
 simp only at hR hx
 have hnb:=tt n
 have hsm:=C3 he
 simp only [↓wR,RA,simprocAttr,TF,ae]
 rw [be];refine ⟨fun h2=>?_,fun h2=>?_⟩
 ·obtain ⟨c,hc,hd,hlt⟩:=dq (decide_eq_true h2)
  rw [hd,List.flatMap_cons] at hR
  have hl:x.length+(gu c).length≤(n.flatMap gu).length:=by rw [← hR];simp
  rw [A7] at hl
  simp only [↓wR,RA,simprocAttr,TF,ae,h2,hc];repeat (simp (disch:=omega) only [ah,bw,bz,bu,bt];try simp only [↓wR,RA,simprocAttr,TF,ae,h2,hc])
  refine ⟨(i+1,x++gu c),⟨by rw [← hR];simp,hlt⟩,by simp;omega,?_,by simp only [gu,List.map_append,List.map_cons,List.append_assoc,List.singleton_append,Cb]⟩
  simp only [List.cons.injEq,and_true,true_and,AV.sc.injEq,Value.int.injEq,AV.sl.injEq,gu,List.length_append,List.length_cons]
  refine ⟨by (try simp (disch:=omega) only [ah,bw,bz,bu,bt]);simp,by simp;omega⟩
 ·rw [en (decide_eq_false h2)] at hR
  obtain rfl:x=n.flatMap gu:=by simpa using hR
  have hcl:(n.flatMap gu).length≤16777216:=by unfold aw at hn;omega
  simp only [↓wR,RA,simprocAttr,TF,ae,h2];repeat (simp (disch:=omega) only [ah,bw,bz,bu,bt];try simp only [↓wR,RA,simprocAttr,TF,ae,h2])
  rfl
noncomputable def ph (x:Name × Unit):Option AV:=if aw x.1 then some ((r2 (cj bk) (au .i64)).E true ((kg x.1,da x.1))) else none
set_option maxRecDepth 2000000 in
theorem Ul (x:Name × Unit) (r:AV) (h:ph x=some r):bb PP 204 ((aC ai a0).E x) r:=by
 by_cases hc:aw x.1
 case neg=>simp only [ph,if_neg hc] at h;cases h
 simp only [ph,if_pos hc] at h
 cases h
 exact ar (an.cons (ak wa) (an.nil PP)) Tryz.func204 (by kernel_rfl) (by kernel_rfl) (by kernel_rfl) (Nat.le_of_ble_eq_true (by kernel_rfl)) (r2 (cj bk) (au .i64)) true ((kg x.1,da x.1)) (Y9 x.1 hc)
noncomputable abbrev ajf:Nat × Bool × (List AV→M AV):=(204,true,cg (aC ai a0) ph)
theorem aw3 {t:UInt16} {d:bo} (h:du t d=0):(t.toNat:Int)=6→d.names.length=2∧d.texts=[]∧d.raw=[]:=by
 intro h6
 unfold du at h
 split at h
 ·cases h
 split at h
 ·cases h
 rename_i hf
 have hf':sf (cr t) t d=true:=by cases hx:sf (cr t) t d with|true=>rfl|false=>exact absurd hx hf
 rw [← Vy] at hf'
 have hk:=Bv t
 have hn:(cr t).names=2:=by unfold cr;rw [if_neg (by omega),if_neg (by omega),if_neg (by omega),if_neg (by omega),if_neg (by omega),if_pos h6]
 unfold Db at hf'
 split at hf'
 ·cases hf'
 ·rename_i hb
  unfold od at hb
  exact ⟨by omega,List.eq_nil_of_length_eq_zero (by omega),List.eq_nil_of_length_eq_zero (by omega)⟩
noncomputable def La (t:UInt16) (d:bo):List UInt8:=if (t.toNat:Int)=6 then qx d else []
noncomputable def aej (t:UInt16) (d:bo):List UInt8:=if (t.toNat:Int)=6 then [] else qx d
theorem asy {t:UInt16} {d:bo} (h:(t.toNat:Int)=6→d.texts=[]∧d.raw=[]):mf t d=La t d++um t d++aej t d++px t d++d.raw:=by
 unfold mf La aej
 split
 ·rename_i h6
  obtain ⟨e1,e2⟩:=h h6
  have:px t d=[]:=by unfold px;rw [e1];rfl
  rw [this,e2];simp
 ·simp
set_option maxHeartbeats 8000000 in
theorem amw (t:UInt16) (d:bo) (hd:cq d) (h0:du t d=0):wl PP [rOf,ajf,avu] 0 (Tryz.f183.body.getD .skip) (ct PP Tryz.f183.results.toList (fun r st=>(r1 (cj bk)).get true st.h r=some (mf t d))) (bp 0 [cy.val false t,ba.val false d]) (bf []):=by
 have hsoa:=aw3 h0
 have hl:=hd.lens
 have hk:=hd.written t
 have hs:=zv t
 have hpl:(La t d).length≤16777216:=by unfold La;split;exact hk.2.1;simp
 have hml:(aej t d).length≤16777216:=by unfold aej;split;simp;exact hk.2.1
 rw [asy (fun e=>(hsoa e).2)]
 unfold Tryz.f183
 simp only [gh,bn]
 simp only [↓wR,RA,simprocAttr,TF,ae,aek,tw]
 rw [b9];refine ⟨fun ⟨h6,e6⟩=>?_,fun ⟨h6,e6⟩=>?_⟩
 simp only [↓wR,RA,simprocAttr,TF,ae,h6]
 have hn2:=(hsoa e6).1
 refine gz [0,3,5,8,7] (fun (x:Nat × List UInt8)=>[.sc (.int .u16 t.toNat),.ptr 0 0,.ptr 1 0,.sc (.int .i64 (x.1)),.sl 2 0 x.2.length 1]) (fun x=>[some (.row [.vl false 1 (d.names.map (ai.val false)),.vl false 1 (d.nums.map (cf.val false)),.vl false 1 (d.texts.map (ag.val false)),.vl false 1 (d.raw.map (bk.val false))] 0 2 116),some (.row [.sc (.int .i64 (cr t).names),.sc (.int .i64 (cr t).nums),.sc (.int .i64 (cr t).texts),.sc (.int .i64 (cr t).raw),.sc (.int .i64 (cr t).size)] 0 2 209),some (.row (x.2.map (bk.val false)) 0 0 5)]) (fun x=>x.1≤2∧x.2++(d.names.drop x.1).flatMap kg=qx d) (fun x=>2 - x.1) (0,[]) ⟨Nat.zero_le _,rfl⟩ (by simp only [↓wR,RA,simprocAttr,TF,ae];(refine jo.lax [] (by first|exact Nat.le_of_ble_eq_true rfl|(simp [di];omega)) ?_ ?_<;>repeat' first|exact er.nil|exact cp.nil|exact ft.same _|exact ft.nil _ _ _|exact ft.oi _ _|exact cp.refl _ _|apply er.cons|apply cp.ghost|apply cp.same|apply cp.row)) ?_
 rintro ⟨i,x⟩ ⟨hi,hx⟩
 simp only at hi hx
 simp only [↓wR,RA,simprocAttr,TF,ae]
 rw [be];refine ⟨fun h=>?_,fun h=>?_⟩
 ·obtain ⟨c,hc⟩:∃ c,d.names[i]? = some c:=⟨_,List.getElem?_eq_getElem (by omega)⟩
  have hd1:=Bn hc
  rw [z8 _ hd1] at hx
  have hxl:x.length+(kg c).length≤(qx d).length:=by rw [← hx];simp
  simp only [↓wR,RA,simprocAttr,TF,ae,h,hc,ph,hd.name c (List.mem_of_getElem? hc)];repeat (simp (disch:=omega) only [ah,bw,bz,bu,bt];try simp only [↓wR,RA,simprocAttr,TF,ae,h,hc,ph,hd.name c (List.mem_of_getElem? hc)])
  exact ⟨(i+1,x++kg c),⟨by omega,by rw [List.append_assoc];exact hx⟩,by simp;omega,by (first|rfl|trivial|omega|((try (simp (disch:=omega) only [ah]));(try (simp only [FB]));first|done|rfl|omega)),by (first|rfl|trivial|omega|((try (simp (disch:=omega) only [ah]));(try (simp only [FB]));first|done|rfl|omega))⟩
 have hi2:d.names.drop i=[]:=List.drop_eq_nil_of_le (by omega)
 rw [hi2] at hx
 have hxe:La t d=x:=by unfold La;rw [if_pos e6];simpa using hx.symm
 obtain ⟨y1,hy1⟩:∃ y1,y1=x++um t d:=⟨_,rfl⟩
 rw [hxe] at hpl ⊢
 rw [← hy1]
 have hyl:y1.length≤83886080:=by rw [hy1,List.length_append];omega
 simp only [↓wR,RA,simprocAttr,TF,ae,h]
 refine gz [0,3,5,11,7] (fun (x:Nat × List UInt8)=>[.sc (.int .u16 t.toNat),.ptr 0 0,.ptr 1 0,.sc (.int .i64 (x.1)),.sl 2 0 x.2.length 1]) (fun x=>[some (.row [.vl false 1 (d.names.map (ai.val false)),.vl false 1 (d.nums.map (cf.val false)),.vl false 1 (d.texts.map (ag.val false)),.vl false 1 (d.raw.map (bk.val false))] 0 2 116),some (.row [.sc (.int .i64 (cr t).names),.sc (.int .i64 (cr t).nums),.sc (.int .i64 (cr t).texts),.sc (.int .i64 (cr t).raw),.sc (.int .i64 (cr t).size)] 0 2 209),some (.row (x.2.map (bk.val false)) 0 0 5)]) (fun x=>x.1≤d.nums.length∧x.2++(d.nums.drop x.1).flatMap (zw t)=y1) (fun x=>d.nums.length - x.1) (0,x) ⟨Nat.zero_le _,hy1.symm⟩ (by simp only [↓wR,RA,simprocAttr,TF,ae];(refine jo.lax [] (by first|exact Nat.le_of_ble_eq_true rfl|(simp [di];omega)) ?_ ?_<;>repeat' first|exact er.nil|exact cp.nil|exact ft.same _|exact ft.nil _ _ _|exact ft.oi _ _|exact cp.refl _ _|apply er.cons|apply cp.ghost|apply cp.same|apply cp.row)) ?_
 clear hx h hi hi2 h6 hxe
 rotate_left
 simp only [↓wR,RA,simprocAttr,TF,ae,h6]
 have hxe:La t d=[]:=by unfold La;rw [if_neg e6]
 obtain ⟨y1,hy1⟩:∃ y1,y1=[]++um t d:=⟨_,rfl⟩
 rw [hxe,← hy1]
 have hyl:y1.length≤83886080:=by rw [hy1,List.nil_append];omega
 refine gz [0,3,5,11,7] (fun (x:Nat × List UInt8)=>[.sc (.int .u16 t.toNat),.ptr 0 0,.ptr 1 0,.sc (.int .i64 (x.1)),.sl 2 0 x.2.length 1]) (fun x=>[some (.row [.vl false 1 (d.names.map (ai.val false)),.vl false 1 (d.nums.map (cf.val false)),.vl false 1 (d.texts.map (ag.val false)),.vl false 1 (d.raw.map (bk.val false))] 0 2 116),some (.row [.sc (.int .i64 (cr t).names),.sc (.int .i64 (cr t).nums),.sc (.int .i64 (cr t).texts),.sc (.int .i64 (cr t).raw),.sc (.int .i64 (cr t).size)] 0 2 209),some (.row (x.2.map (bk.val false)) 0 0 5)]) (fun x=>x.1≤d.nums.length∧x.2++(d.nums.drop x.1).flatMap (zw t)=y1) (fun x=>d.nums.length - x.1) (0,[]) ⟨Nat.zero_le _,hy1.symm⟩ (by simp only [↓wR,RA,simprocAttr,TF,ae];(refine jo.lax [] (by first|exact Nat.le_of_ble_eq_true rfl|(simp [di];omega)) ?_ ?_<;>repeat' first|exact er.nil|exact cp.nil|exact ft.same _|exact ft.nil _ _ _|exact ft.oi _ _|exact cp.refl _ _|apply er.cons|apply cp.ghost|apply cp.same|apply cp.row)) ?_
 clear h6 hxe
 all_goals
  clear hy1 hpl
  rintro ⟨i,x⟩ ⟨hi,hx⟩
  simp only at hi hx
  simp only [↓wR,RA,simprocAttr,TF,ae]
  rw [be];refine ⟨fun h=>?_,fun h=>?_⟩
  ·obtain ⟨c,hc,hd1,hlt⟩:=dq (decide_eq_true h)
   rw [z8 _ hd1] at hx
   have hxl:x.length+(zw t c).length≤y1.length:=by rw [← hx];simp
   simp only [↓wR,RA,simprocAttr,TF,ae,h]
   refine ⟨by kernel_rfl,.inl ?_⟩
   simp only [↓wR,RA,simprocAttr,TF,ae,hc,Bd,hs,Nl];repeat (simp (disch:=omega) only [ah,bw,bz,bu,bt];try simp only [↓wR,RA,simprocAttr,TF,ae,hc,Bd,hs,Nl])
   refine ⟨by kernel_rfl,?_⟩
   exact ⟨(i+1,x++zw t c),⟨hlt,by rw [List.append_assoc];exact hx⟩,by simp;omega,by (first|rfl|trivial|omega|((try (simp (disch:=omega) only [ah]));(try (simp only [FB]));first|done|rfl|omega)),by (first|rfl|trivial|omega|((try (simp (disch:=omega) only [ah]));(try (simp only [FB]));first|done|rfl|omega))⟩
  rw [en (decide_eq_false h)] at hx
  obtain rfl:x=y1:=by simpa using hx
  clear hx
  simp only [↓wR,RA,simprocAttr,TF,ae,h]
  clear h hi
  obtain ⟨y2,hy2⟩:∃ y2,y2=x++aej t d:=⟨_,rfl⟩
  have hyl2:y2.length≤100663296:=by rw [hy2,List.length_append];omega
  rw [← hy2]
  refine gz [0,3,12,7] (fun (x:Nat × List UInt8)=>[.sc (.int .u16 t.toNat),.ptr 0 0,.sc (.int .i64 (x.1)),.sl 1 0 x.2.length 1]) (fun x=>[some (.row [.vl false 1 (d.names.map (ai.val false)),.vl false 1 (d.nums.map (cf.val false)),.vl false 1 (d.texts.map (ag.val false)),.vl false 1 (d.raw.map (bk.val false))] 0 2 116),some (.row (x.2.map (bk.val false)) 0 0 5)]) (fun p=>p.1≤d.names.length∧p.2++(if (t.toNat:Int)=6 then [] else (d.names.drop p.1).flatMap kg)=y2) (fun p=>d.names.length - p.1) (0,x) ⟨Nat.zero_le _,hy2.symm⟩ (by simp only [↓wR,RA,simprocAttr,TF,ae];(refine jo.lax [] (by first|exact Nat.le_of_ble_eq_true rfl|(simp [di];omega)) ?_ ?_<;>repeat' first|exact er.nil|exact cp.nil|exact ft.same _|exact ft.nil _ _ _|exact ft.oi _ _|exact cp.refl _ _|apply er.cons|apply cp.ghost|apply cp.same|apply cp.row)) ?_
  clear hy2 hyl
  rintro ⟨i,z⟩ ⟨hi,hz⟩
  simp only at hi hz
  simp only [↓wR,RA,simprocAttr,TF,ae]
  rw [c6];refine ⟨fun ⟨h7,e7⟩=>?_,fun ⟨h7,e7⟩=>?_⟩
  all_goals try exact absurd e6 e7
  all_goals try exact absurd e7 e6
  first
   |(
    rw [if_pos e7] at hz
    obtain rfl:z=y2:=by simpa using hz
    simp only [↓wR,RA,simprocAttr,TF,ae,h7])
   |(
    rw [if_neg e7] at hz
    simp only [↓wR,RA,simprocAttr,TF,ae,h7]
    rw [be];refine ⟨fun h8=>?_,fun h8=>?_⟩
    ·obtain ⟨c,hc,hd1,hlt⟩:=dq (decide_eq_true h8)
     rw [z8 _ hd1] at hz
     have hxl:z.length+(kg c).length≤y2.length:=by rw [← hz];simp
     simp only [↓wR,RA,simprocAttr,TF,ae,h8,hc,ph,hd.name c (List.mem_of_getElem? hc)];repeat (simp (disch:=omega) only [ah,bw,bz,bu,bt];try simp only [↓wR,RA,simprocAttr,TF,ae,h8,hc,ph,hd.name c (List.mem_of_getElem? hc)])
     exact ⟨(i+1,z++kg c),⟨hlt,by rw [if_neg e7,List.append_assoc];exact hz⟩,by simp;omega,by (first|rfl|trivial|omega|((try (simp (disch:=omega) only [ah]));(try (simp only [FB]));first|done|rfl|omega)),by (first|rfl|trivial|omega|((try (simp (disch:=omega) only [ah]));(try (simp only [FB]));first|done|rfl|omega))⟩
    rw [en (decide_eq_false h8)] at hz
    obtain rfl:z=y2:=by simpa using hz
    simp only [↓wR,RA,simprocAttr,TF,ae,h8])
  clear hz hi
  obtain ⟨y3,hy3⟩:∃ y3,y3=z++px t d:=⟨_,rfl⟩
  have hyl3:y3.length≤117440512:=by rw [hy3,List.length_append];omega
  rw [← hy3]
  refine gz [0,3,15,7] (fun (x:Nat × List UInt8)=>[.sc (.int .u16 t.toNat),.ptr 0 0,.sc (.int .i64 (x.1)),.sl 1 0 x.2.length 1]) (fun x=>[some (.row [.vl false 1 (d.names.map (ai.val false)),.vl false 1 (d.nums.map (cf.val false)),.vl false 1 (d.texts.map (ag.val false)),.vl false 1 (d.raw.map (bk.val false))] 0 2 116),some (.row (x.2.map (bk.val false)) 0 0 5)]) (fun p=>p.1≤d.texts.length∧p.2++nv t p.1 (d.texts.drop p.1)=y3) (fun p=>d.texts.length - p.1) (0,z) ⟨Nat.zero_le _,hy3.symm⟩ (by simp only [↓wR,RA,simprocAttr,TF,ae];(refine jo.lax [] (by first|exact Nat.le_of_ble_eq_true rfl|(simp [di];omega)) ?_ ?_<;>repeat' first|exact er.nil|exact cp.nil|exact ft.same _|exact ft.nil _ _ _|exact ft.oi _ _|exact cp.refl _ _|apply er.cons|apply cp.ghost|apply cp.same|apply cp.row)) ?_
  clear hy3 hyl2
  rintro ⟨i,x⟩ ⟨hi,hx⟩
  simp only at hi hx
  simp only [↓wR,RA,simprocAttr,TF,ae]
  rw [be];refine ⟨fun h=>?_,fun h=>?_⟩
  ·obtain ⟨c,hc,hd1,hlt⟩:=dq (decide_eq_true h)
   rw [Wo _ hd1] at hx
   have hxl:x.length+((if (t.toNat:Int)=16∨i=0 then [UInt8.ofNat c.size] else []).length+c.size)≤y3.length:=by rw [← hx];simp
   have hcs:c.data.toList.length=c.size:=by simp
   have fin:∀ b:List UInt8,x++(b++c.data.toList++nv t (i+1) (d.texts.drop (i+1)))=y3→x++b++c.data.toList++nv t (i+1) (d.texts.drop (i+1))=y3:=fun b hb=>by rw [← hb];simp
   simp only [↓wR,RA,simprocAttr,TF,ae,h,hc];repeat (simp (disch:=omega) only [ah,bw,bz,bu,bt];try simp only [↓wR,RA,simprocAttr,TF,ae,h,hc])
   rw [b9];refine ⟨fun ⟨h16,e16⟩=>?_,fun ⟨h16,e16⟩=>?_⟩
   ·rw [if_pos (.inl e16)] at hx hxl
    simp only [List.length_cons,List.length_nil] at hxl
    simp only [↓wR,RA,simprocAttr,TF,ae,h16,hc];repeat (simp (disch:=omega) only [ah,bw,bz,bu,bt];try simp only [↓wR,RA,simprocAttr,TF,ae,h16,hc])
    exact ⟨(i+1,x++[UInt8.ofNat c.size]++c.data.toList),⟨hlt,fin _ hx⟩,by simp;omega,by (first|rfl|trivial|omega|((try (simp (disch:=omega) only [ah]));(try (simp only [FB]));first|done|rfl|omega)),by (first|rfl|trivial|omega|((try (simp (disch:=omega) only [ah]));(try (simp only [FB]));first|done|rfl|omega))⟩
   ·simp only [↓wR,RA,simprocAttr,TF,ae,h16];repeat (simp (disch:=omega) only [ah,bw,bz,bu,bt];try simp only [↓wR,RA,simprocAttr,TF,ae,h16])
    rw [b9];refine ⟨fun ⟨h0,e0⟩=>?_,fun ⟨h0,e0⟩=>?_⟩
    ·rw [if_pos (.inr (by omega))] at hx hxl
     simp only [List.length_cons,List.length_nil] at hxl
     simp only [↓wR,RA,simprocAttr,TF,ae,h0,hc];repeat (simp (disch:=omega) only [ah,bw,bz,bu,bt];try simp only [↓wR,RA,simprocAttr,TF,ae,h0,hc])
     exact ⟨(i+1,x++[UInt8.ofNat c.size]++c.data.toList),⟨hlt,fin _ hx⟩,by simp;omega,by (first|rfl|trivial|omega|((try (simp (disch:=omega) only [ah]));(try (simp only [FB]));first|done|rfl|omega)),by (first|rfl|trivial|omega|((try (simp (disch:=omega) only [ah]));(try (simp only [FB]));first|done|rfl|omega))⟩
    ·rw [if_neg (by omega)] at hx hxl
     simp only [List.length_nil] at hxl
     simp only [↓wR,RA,simprocAttr,TF,ae,h0,hc];repeat (simp (disch:=omega) only [ah,bw,bz,bu,bt];try simp only [↓wR,RA,simprocAttr,TF,ae,h0,hc])
     exact ⟨(i+1,x++c.data.toList),⟨hlt,by have:=fin _ hx;simpa using this⟩,by simp;omega,by (first|rfl|trivial|omega|((try (simp (disch:=omega) only [ah]));(try (simp only [FB]));first|done|rfl|omega)),by (first|rfl|trivial|omega|((try (simp (disch:=omega) only [ah]));(try (simp only [FB]));first|done|rfl|omega))⟩
  rw [en (decide_eq_false h)] at hx
  obtain rfl:x=y3:=by simpa [nv] using hx
  clear hx
  simp only [↓wR,RA,simprocAttr,TF,ae,h];repeat (simp (disch:=omega) only [ah,bw,bz,bu,bt];try simp only [↓wR,RA,simprocAttr,TF,ae,h])
noncomputable def H5 (x:UInt16 × bo × Unit):Option AV:=if cq x.2.1∧du x.1 x.2.1=0 then some ((r1 (cj bk)).E true (mf x.1 x.2.1)) else none
set_option maxRecDepth 2000000 in
theorem aga (x:UInt16 × bo × Unit) (r:AV) (h:H5 x=some r):bb PP 183 ((aC cy (aC ba a0)).E x) r:=by
 by_cases hc:cq x.2.1∧du x.1 x.2.1=0
 case neg=>simp only [H5,if_neg hc] at h;cases h
 simp only [H5,if_pos hc] at h
 cases h
 exact ar (an.cons (ak P4) (an.cons (ak Ul) (an.cons (ak adt) (an.nil PP)))) Tryz.func183 (by kernel_rfl) (by kernel_rfl) (by kernel_rfl) (Nat.le_of_ble_eq_true (by kernel_rfl)) (r1 (cj bk)) true (mf x.1 x.2.1) (amw x.1 x.2.1 hc.1 hc.2)
noncomputable abbrev ax3:Nat × Bool × (List AV→M AV):=(183,true,cg (aC cy (aC ba a0)) H5)
noncomputable def ltD (t:UInt16) (a b:bo):Bool:=decide (A8 t a b<0)
theorem Zt (s:ByteArray):ij (fold s)=ij s:=by unfold ij;rw [Fh]
theorem Jr (n:Name):da (dz n)=da n:=by
 have h:ql (dz n)=ql n:=by
  unfold ql dz
  rw [List.any_map]
  congr 1
  funext s
  simp only [Function.comp,Zt]
 unfold da
 rw [h,Ae]
theorem Zs (l:List Name):kb (l.map dz)=kb l:=by
 induction l with
 |nil=>rfl
 |cons a l ih=>simp only [List.map_cons,kb,Jr,ih]
theorem ac7 (n:Name) (h:da n=0):(kg n).length=bq n:=by
 unfold kg
 rw [if_neg (by omega)]
 unfold nameBytes
 rw [List.length_append,List.length_singleton,tt]
theorem J0:∀ {l:List Name},kb l=0→∀ n ∈ l,da n=0
 | [],_,n,h=>by cases h
 |a::l,e,n,h=>by
  rw [kb] at e
  split at e
  ·contradiction
  ·rename_i q
   rcases List.mem_cons.1 h with rfl|h
   ·omega
   ·exact J0 e n h
theorem arj {l:List Name} (h:∀ n ∈ l,da n=0):((l.map dz).flatMap kg).length=(l.flatMap kg).length:=by
 induction l with
 |nil=>rfl
 |cons a l ih=>
  have ha:=h a List.mem_cons_self
  rw [List.map_cons,List.flatMap_cons,List.flatMap_cons,List.length_append,List.length_append,ih fun n hn=>h n (List.mem_cons_of_mem _ hn),ac7 _ (by rw [Jr];exact ha),ac7 _ ha,Ae]
theorem Lx {t:UInt16} {d:bo} (h:du t d=0):du t (k8 t d)=0:=by
 unfold k8
 split
 case isFalse=>exact h
 unfold du at h ⊢
 split at h
 ·cases h
 rename_i h1
 split at h
 ·cases h
 rename_i h2
 split at h
 ·contradiction
 rename_i h3
 have h4:=J0 (Decidable.not_not.1 h3)
 rw [if_neg h1,if_neg (by
  unfold sf at h2 ⊢
  simpa only [List.length_map] using h2),if_neg (by rw [Zs];exact h3)]
 have h5:(mf t { d with names:=d.names.map dz }).length=(mf t d).length:=by
  unfold mf qx um px
  split<;>simp only [List.length_append,arj h4]
 rw [h5];exact h
def Vl (l:List bj):Bool:=l.all fun s=>!decide ((20:Int)<s.data.length)
def Mi (z:ay):Bool:=Vl z.aj && decide ((z.aj.length:Int)≤40)
theorem ax4 (z:ay) (hz:bg z):wl PP [] 0 (Tryz.f7.body.getD .skip) (ct PP Tryz.f7.results.toList (fun r st=>(r1 bd).get true st.h r=some (Mi z))) (bp 0 [bc.val false z]) (bf []):=by
 have hl:=hz.len
 unfold Tryz.f7
 simp only [dr]
 simp only [↓wR,RA,simprocAttr,TF,ae]
 refine dg [1,3] (fun (i:Nat)=>[.ptr 0 0,.sc (.int .i64 (i))]) (fun _=>[some (.row [.vl false 1 (z.origin.map (ag.val false)),.vl false 5 (z.aj.map (aq.val false))] 0 2 26)]) (fun i=>i≤z.aj.length∧Vl z.aj=Vl (z.aj.drop i)) (fun i=>z.aj.length - i) 0 ⟨Nat.zero_le _,rfl⟩ (by simp only [↓wR,RA,simprocAttr,TF,ae]<;>rfl) (by simp only [↓wR,RA,simprocAttr,TF,ae]<;>rfl) ?_
 rintro i ⟨hi,hx⟩
 simp only [↓wR,RA,simprocAttr,TF,ae]
 rw [be];refine ⟨fun h=>?_,fun h=>?_⟩
 ·obtain ⟨c,hc,hd1,hlt⟩:=dq (decide_eq_true h)
  have hx':Vl z.aj=(!decide ((20:Int)<c.data.length) && Vl (z.aj.drop (i+1))):=by rw [hx,hd1];rfl
  simp only [↓wR,RA,simprocAttr,TF,ae,h,hc];repeat (simp (disch:=omega) only [ah,bw,bz,bu,bt];try simp only [↓wR,RA,simprocAttr,TF,ae,h,hc])
  rw [be];refine ⟨fun h2=>?_,fun h2=>?_⟩
  ·rw [decide_eq_true h2,Bool.not_true,Bool.false_and] at hx'
   simp only [↓wR,RA,simprocAttr,TF,ae,h2];repeat (simp (disch:=omega) only [ah,bw,bz,bu,bt];try simp only [↓wR,RA,simprocAttr,TF,ae,h2])
   rw [Mi,hx'];rfl
  ·rw [decide_eq_false h2,Bool.not_false,Bool.true_and] at hx'
   simp only [↓wR,RA,simprocAttr,TF,ae,h2];repeat (simp (disch:=omega) only [ah,bw,bz,bu,bt];try simp only [↓wR,RA,simprocAttr,TF,ae,h2])
   exact ⟨i+1,⟨hlt,hx'⟩,by omega,by (first|rfl|trivial|omega|((try (simp (disch:=omega) only [ah]));(try (simp only [FB]));first|done|rfl|omega))⟩
 ·rw [en (decide_eq_false h)] at hx
  simp only [↓wR,RA,simprocAttr,TF,ae,h]
  rw [Mi,hx];rfl
noncomputable def Tt (x:ay × Unit):Option AV:=if bg x.1 then some ((r1 bd).E true (Mi x.1)) else none
set_option maxRecDepth 2000000 in
theorem apm (x:ay × Unit) (r:AV) (h:Tt x=some r):bb PP 7 ((aC bc a0).E x) r:=by
 by_cases hc:bg x.1
 case neg=>simp only [Tt,if_neg hc] at h;cases h
 simp only [Tt,if_pos hc] at h
 cases h
 exact ar (an.nil PP) Tryz.func7 (by kernel_rfl) (by kernel_rfl) (by kernel_rfl) (Nat.le_of_ble_eq_true (by kernel_rfl)) (r1 bd) true (Mi x.1) (ax4 x.1 hc)
noncomputable abbrev ay2:Nat × Bool × (List AV→M AV):=(7,true,cg (aC bc a0) Tt)
noncomputable def fe (z:ay) (n:Name):Int:=if ng z≠0 then ng z else if da n≠0 then da n else if c7 n z.origin=false then 2 else 0
theorem ar9 (z:ay) (n:Name) (hz:bg z) (hn:aw n):wl PP [ax7,eu,yg] 0 (Tryz.f41.body.getD .skip) (ct PP Tryz.f41.results.toList (fun r st=>(r1 (au .i64)).get true st.h r=some (fe z n))) (bp 0 [bc.val false z,ai.val false n]) (bf []):=by
 unfold Tryz.f41
 simp only [dr,bn]
 simp only [↓wR,RA,simprocAttr,TF,ae,G8,hz]
 unfold fe
 rw [ca];refine ⟨fun h=>?_,fun h=>?_⟩
 ·have he:ng z≠0:=by simpa using h
  rw [if_pos he]
  simp only [↓wR,RA,simprocAttr,TF,ae,h]
 have he:ng z=0:=by simpa using h
 rw [if_neg (by omega)]
 simp only [↓wR,RA,simprocAttr,TF,ae,h,o0,hn.fit]
 rw [ca];refine ⟨fun h2=>?_,fun h2=>?_⟩
 ·have he:da n≠0:=by simpa using h2
  rw [if_pos he]
  simp only [↓wR,RA,simprocAttr,TF,ae,h2]
 have he2:da n=0:=by simpa using h2
 rw [if_neg (by omega)]
 simp only [↓wR,RA,simprocAttr,TF,ae,h2,nn,hn,hz.origin]
 rw [ca];refine ⟨fun h3=>?_,fun h3=>?_⟩
 ·have h3':c7 n z.origin=false:=by simpa only [Bool.not_eq_true'] using h3
  rw [if_pos h3']
  simp only [↓wR,RA,simprocAttr,TF,ae,h3]
 ·have h3':c7 n z.origin=true:=by simpa only [Bool.not_eq_false'] using h3
  rw [if_neg (by rw [h3'];decide)]
  simp only [↓wR,RA,simprocAttr,TF,ae,h3]
noncomputable def Bc (x:ay × Name × Unit):Option AV:=if bg x.1∧aw x.2.1 then some ((r1 (au .i64)).E true (fe x.1 x.2.1)) else none
set_option maxRecDepth 2000000 in
theorem Gm (x:ay × Name × Unit) (r:AV) (h:Bc x=some r):bb PP 41 ((aC bc (aC ai a0)).E x) r:=by
 by_cases hc:bg x.1∧aw x.2.1
 case neg=>simp only [Bc,if_neg hc] at h;cases h
 simp only [Bc,if_pos hc] at h
 cases h
 exact ar (an.cons (ak afj) (an.cons (ak pj) (an.cons (ak pn) (an.nil PP)))) Tryz.func41 (by kernel_rfl) (by kernel_rfl) (by kernel_rfl) (Nat.le_of_ble_eq_true (by kernel_rfl)) (r1 (au .i64)) true (fe x.1 x.2.1) (ar9 x.1 x.2.1 hc.1 hc.2)
noncomputable abbrev ad8:Nat × Bool × (List AV→M AV):=(41,true,cg (aC bc (aC ai a0)) Bc)
def c9 (z:ay):Name→Name
 | []=>[]
 |a::r=>if mi z (a::r)=true then a::r else c9 z r
theorem Di {z:ay} {m:Name} (hu:c7 m z.origin=true) (hh:mi z m=false):∃ a r,m=a::r∧c7 r z.origin=true∧c9 z m=c9 z r:=by
 have hs:eg m z.origin=false:=by
  unfold mi at hh
  rw [hu,Bool.true_and] at hh
  cases h:eg m z.origin with
  |false=>rfl
  |true=>rw [h] at hh;cases hh
 have hu':dz z.origin <:+ dz m:=by simpa [c7] using hu
 have hs':dz m≠dz z.origin:=by simpa [eg] using hs
 cases m with
 |nil=>exact (hs' (List.suffix_nil.1 (by simpa only [dz,List.map_nil] using hu')).symm).elim
 |cons a r=>
  refine ⟨a,r,rfl,?_,by rw [c9,if_neg (by rw [hh];decide)]⟩
  have h2:dz z.origin <:+ fold a::dz r:=hu'
  rcases List.suffix_cons_iff.1 h2 with h3|h3
  ·exact (hs' h3.symm).elim
  ·simpa [c7] using h3
theorem wq {z:ay} {m:Name} (hh:mi z m=true):c9 z m=m:=by
 cases m with
 |nil=>rfl
 |cons a r=>rw [c9,if_pos hh]
theorem akl (z:ay) (n:Name) (hz:bg z) (hn:aw n) (hu:c7 n z.origin=true):wl PP [axx,A2] 0 (Tryz.f43.body.getD .skip) (ct PP Tryz.f43.results.toList (fun r st=>(r1 ai).get true st.h r=some (c9 z n))) (bp 0 [bc.val false z,ai.val false n]) (bf []):=by
 unfold Tryz.f43
 simp only [dr,bn]
 simp only [↓wR,RA,simprocAttr,TF,ae]
 refine dg [1,2] (fun (m:Name)=>[.vl false 1 (m.map (ag.val false)),.ptr 0 0]) (fun _=>[some (.row [.vl false 1 (z.origin.map (ag.val false)),.vl false 5 (z.aj.map (aq.val false))] 0 2 26)]) (fun m=>aw m∧c7 m z.origin=true∧c9 z n=c9 z m) (fun m=>m.length) n ⟨hn,hu,rfl⟩ (by simp only [↓wR,RA,simprocAttr,TF,ae]<;>rfl) (by simp only [↓wR,RA,simprocAttr,TF,ae]<;>rfl) ?_
 rintro m ⟨hm,hmu,hx⟩
 simp only [↓wR,RA,simprocAttr,TF,ae,Nb,hz,hm]
 rw [ca];refine ⟨fun h=>?_,fun h=>?_⟩
 ·simp only [↓wR,RA,simprocAttr,TF,ae,h,pd,hm]
  rw [hx,wq h]
 ·obtain ⟨a,r,rfl,hru,hcr⟩:=Di hmu h
  have hr:aw r:=hm.drop 1
  rw [hcr] at hx
  simp only [↓wR,RA,simprocAttr,TF,ae,h]
  exact ⟨r,⟨hr,hru,hx⟩,by simp,rfl⟩
noncomputable def uv (x:ay × Name × Unit):Option AV:=if (bg x.1∧aw x.2.1)∧c7 x.2.1 x.1.origin=true then some ((r1 ai).E true (c9 x.1 x.2.1)) else none
set_option maxRecDepth 2000000 in
theorem C0 (x:ay × Name × Unit) (r:AV) (h:uv x=some r):bb PP 43 ((aC bc (aC ai a0)).E x) r:=by
 by_cases hc:(bg x.1∧aw x.2.1)∧c7 x.2.1 x.1.origin=true
 case neg=>simp only [uv,if_neg hc] at h;cases h
 simp only [uv,if_pos hc] at h
 cases h
 exact ar (an.cons (ak W4) (an.cons (ak qj) (an.nil PP))) Tryz.func43 (by kernel_rfl) (by kernel_rfl) (by kernel_rfl) (Nat.le_of_ble_eq_true (by kernel_rfl)) (r1 ai) true (c9 x.1 x.2.1) (akl x.1 x.2.1 hc.1.1 hc.1.2 hc.2)
noncomputable abbrev Qk:Nat × Bool × (List AV→M AV):=(43,true,cg (aC bc (aC ai a0)) uv)
theorem ve (z:ay) (n:Name):∃ k,c9 z n=n.drop k:=by
 induction n with
 |nil=>exact ⟨0,rfl⟩
 |cons a r ih=>
  unfold c9
  split
  ·exact ⟨0,rfl⟩
  ·obtain ⟨k,hk⟩:=ih;exact ⟨k+1,by rw [hk];rfl⟩
theorem xa {z:ay} {n:Name} (hn:aw n):aw (c9 z n):=by
 obtain ⟨k,hk⟩:=ve z n
 rw [hk];exact hn.drop k
theorem ato (n:Name) (hn:aw n):wl PP [] 0 (Tryz.f47.body.getD .skip) (ct PP Tryz.f47.results.toList (fun r st=>(r1 ai).get true st.h r=some (nm::n))) (bp 0 [ai.val false n]) (bf []):=by
 have hl:=hn.lt
 have hlim:(n.length+1) * 16≤140737488355328:=by omega
 unfold Tryz.f47
 simp only [bn]
 simp only [↓wR,RA,simprocAttr,TF,ae,hlim,Nat.add_comm 1 n.length]
 rfl
noncomputable def G2 (x:Name × Unit):Option AV:=if aw x.1 then some ((r1 ai).E true (nm::x.1)) else none
set_option maxRecDepth 2000000 in
theorem alh (x:Name × Unit) (r:AV) (h:G2 x=some r):bb PP 47 ((aC ai a0).E x) r:=by
 by_cases hc:aw x.1
 case neg=>simp only [G2,if_neg hc] at h;cases h
 simp only [G2,if_pos hc] at h
 cases h
 exact ar (an.nil PP) Tryz.func47 (by kernel_rfl) (by kernel_rfl) (by kernel_rfl) (Nat.le_of_ble_eq_true (by kernel_rfl)) (r1 ai) true (nm::x.1) (ato x.1 hc)
noncomputable abbrev aAb:Nat × Bool × (List AV→M AV):=(47,true,cg (aC ai a0) G2)
theorem Zo (n:Name) (k:Nat):bq (n.drop k)≤bq n:=by
 have:=lj (n.take k) (n.drop k)
 rw [List.take_append_drop] at this
 have h1:=(iq (n.take k) 0).2
 omega
theorem Iq {z:ay} {n:Name} (h:da n=0):aw (nm::c9 z n):=by
 obtain ⟨k,hk⟩:=ve z n
 have h1:=Zo n k
 have h2:=C3 h
 have h3:=lj [nm] (c9 z n)
 have h4:bq [nm]=3:=rfl
 rw [hk] at h3 ⊢
 simp only [List.singleton_append] at h3
 unfold aw
 omega
theorem Be {z:ay} {n:Name} (h:fe z n=0):ng z=0∧da n=0∧c7 n z.origin=true:=by
 unfold fe at h
 split at h
 ·contradiction
 split at h
 ·contradiction
 split at h
 ·cases h
 ·rename_i h1 h2 h3
  exact ⟨by omega,by omega,by simpa using h3⟩
noncomputable def fy (z:ay) (n:Name):qd × Int:=
 if fe z n≠0 then (vy 0 [] [],fe z n)
 else match k6 z n with
  |some c=>(vy 4 c [],0)
  |none=>
   if 0<(wc z n).length then (vy 1 n (c9 z n),0)
   else if (c9 z n).length=n.length then (vy 2 [] (c9 z n),0)
   else if mi z (nm::c9 z n)=true then (vy 3 (nm::c9 z n) (c9 z n),0)
   else (vy 0 [] (c9 z n),0)
theorem avs (z:ay) (n:Name) (hz:bg z) (hn:aw n):wl PP [ad8,axz,Qk,zAt,A2,aAb,axx] 0 (Tryz.f10.body.getD .skip) (ct PP Tryz.f10.results.toList (fun r st=>(r2 dk (au .i64)).get true st.h r=some (fy z n))) (bp 0 [bc.val false z,ai.val false n]) (bf []):=by
 unfold Tryz.f10
 simp only [dr,bn]
 simp only [↓wR,RA,simprocAttr,TF,ae,Bc,hz,hn]
 unfold fy
 rw [ca];refine ⟨fun h=>?_,fun h=>?_⟩
 ·have he:fe z n≠0:=by simpa using h
  rw [if_pos he]
  simp only [↓wR,RA,simprocAttr,TF,ae,h]
 have he:fe z n=0:=by simpa using h
 obtain ⟨a1,a2,a3⟩:=Be he
 rw [if_neg (by omega)]
 have hcs:=xa (z:=z) hn
 have hst:=Iq (z:=z) a2
 cases hc:k6 z n with
 |some c=>
  simp only [↓wR,RA,simprocAttr,TF,ae,h,Ff,hz,hn,hc]
 |none=>
  simp only [↓wR,RA,simprocAttr,TF,ae,h,Ff,hz,hn,hc,Option.isSome_none,uv,a3,aah]
  rw [be];refine ⟨fun h1=>?_,fun h1=>?_⟩
  ·rw [if_pos (by omega)]
   simp only [↓wR,RA,simprocAttr,TF,ae,h1,pd,hn]
  rw [if_neg (by omega)]
  simp only [↓wR,RA,simprocAttr,TF,ae,h1]
  rw [b9];refine ⟨fun ⟨h2,e2⟩=>?_,fun ⟨h2,e2⟩=>?_⟩
  ·rw [if_pos (by omega)]
   simp only [↓wR,RA,simprocAttr,TF,ae,h2]
  rw [if_neg (by omega)]
  simp only [↓wR,RA,simprocAttr,TF,ae,h2]
  refine ⟨by kernel_rfl,.inl ?_⟩
  simp only [↓wR,RA,simprocAttr,TF,ae,G2,hcs,Nb,hz,hst]
  refine ⟨by kernel_rfl,?_⟩
  rw [ca];refine ⟨fun h3=>?_,fun h3=>?_⟩
  ·rw [if_pos h3]
   simp only [↓wR,RA,simprocAttr,TF,ae,h3,G2,hcs]
  ·rw [if_neg (by rw [h3];decide)]
   simp only [↓wR,RA,simprocAttr,TF,ae,h3]
noncomputable def Hb (x:ay × Name × Unit):Option AV:=if bg x.1∧aw x.2.1 then some ((r2 dk (au .i64)).E true (fy x.1 x.2.1)) else none
set_option maxRecDepth 2000000 in
theorem Ti (x:ay × Name × Unit) (r:AV) (h:Hb x=some r):bb PP 10 ((aC bc (aC ai a0)).E x) r:=by
 by_cases hc:bg x.1∧aw x.2.1
 case neg=>simp only [Hb,if_neg hc] at h;cases h
 simp only [Hb,if_pos hc] at h
 cases h
 exact ar (an.cons (ak Gm) (an.cons (ak W6) (an.cons (ak C0) (an.cons (ak asf) (an.cons (ak qj) (an.cons (ak alh) (an.cons (ak W4) (an.nil PP)))))))) Tryz.func10 (by kernel_rfl) (by kernel_rfl) (by kernel_rfl) (Nat.le_of_ble_eq_true (by kernel_rfl)) (r2 dk (au .i64)) true (fy x.1 x.2.1) (avs x.1 x.2.1 hc.1 hc.2)
noncomputable abbrev Zv:Nat × Bool × (List AV→M AV):=(10,true,cg (aC bc (aC ai a0)) Hb)
noncomputable def gk (z:ay) (n:Name):Name × Int:=if fe z n≠0 then ([],fe z n) else (c9 z n,0)
theorem agn (z:ay) (n:Name) (hz:bg z) (hn:aw n):wl PP [ad8,Qk] 0 (Tryz.f12.body.getD .skip) (ct PP Tryz.f12.results.toList (fun r st=>(r2 ai (au .i64)).get true st.h r=some (gk z n))) (bp 0 [bc.val false z,ai.val false n]) (bf []):=by
 unfold Tryz.f12
 simp only [dr,bn]
 simp only [↓wR,RA,simprocAttr,TF,ae,Bc,hz,hn]
 unfold gk
 rw [ca];refine ⟨fun h=>?_,fun h=>?_⟩
 ·have he:fe z n≠0:=by simpa using h
  rw [if_pos he]
  simp only [↓wR,RA,simprocAttr,TF,ae,h]
 have he:fe z n=0:=by simpa using h
 obtain ⟨a1,a2,a3⟩:=Be he
 rw [if_neg (by omega)]
 simp only [↓wR,RA,simprocAttr,TF,ae,h,uv,hz,hn,a3]
noncomputable def zk (x:ay × Name × Unit):Option AV:=if bg x.1∧aw x.2.1 then some ((r2 ai (au .i64)).E true (gk x.1 x.2.1)) else none
set_option maxRecDepth 2000000 in
theorem V4 (x:ay × Name × Unit) (r:AV) (h:zk x=some r):bb PP 12 ((aC bc (aC ai a0)).E x) r:=by
 by_cases hc:bg x.1∧aw x.2.1
 case neg=>simp only [zk,if_neg hc] at h;cases h
 simp only [zk,if_pos hc] at h
 cases h
 exact ar (an.cons (ak Gm) (an.cons (ak C0) (an.nil PP))) Tryz.func12 (by kernel_rfl) (by kernel_rfl) (by kernel_rfl) (Nat.le_of_ble_eq_true (by kernel_rfl)) (r2 ai (au .i64)) true (gk x.1 x.2.1) (agn x.1 x.2.1 hc.1 hc.2)
noncomputable abbrev Yh:Nat × Bool × (List AV→M AV):=(12,true,cg (aC bc (aC ai a0)) zk)
end Go.Proofs.YtjagjbceegbaiaaGreat
end
section
namespace Go.Proofs.YtjagjbceegbaiaaGreat
open Go.Vm
theorem Sj (a:Name):c7 a a=true:=vi.2 (List.suffix_refl _)
theorem ajl (a:ByteArray) (n:Name):c7 (a::n) n=true:=vi.2 (List.suffix_cons _ _)
theorem Y2 {z:ay}:∀ {n:Name},c7 n z.origin=true→mi z (c9 z n)=true∧c7 n (c9 z n)=true:=by
 intro n
 induction n with
 |nil=>
  intro hu
  cases hh:mi z [] with
  |true=>exact ⟨hh,Sj _⟩
  |false=>obtain ⟨a,r,h,_⟩:=Di hu hh;cases h
 |cons a n ih=>
  intro hu
  cases hh:mi z (a::n) with
  |true=>rw [wq hh];exact ⟨hh,Sj _⟩
  |false=>
   obtain ⟨a',r,h,hr,hc⟩:=Di hu hh
   cases h
   rw [hc]
   obtain ⟨h1,h2⟩:=ih hr
   exact ⟨h1,afk (ajl a n) h2⟩
theorem alr {z:ay} {n:Name} (h:(c9 z n).length=n.length):c9 z n=n:=by
 obtain ⟨k,hk⟩:=ve z n
 rw [hk] at h ⊢
 rw [List.length_drop] at h
 cases n with
 |nil=>exact List.drop_nil
 |cons a n=>
  have:k=0:=by simp at h;omega
  rw [this];rfl
theorem ab9 {z:ay} {n:Name} (h:(c9 z n).length≠n.length):mi z n=false:=by
 cases hh:mi z n with
 |false=>rfl
 |true=>rw [wq hh] at h;exact (h rfl).elim
theorem ayn {z:ay} {n:Name} (hg:auo z) (hp : 0<(wc z n).length):mi z n=true:=by
 obtain ⟨s,hs⟩:=List.exists_mem_of_length_pos hp
 obtain ⟨hs1,hs2⟩:=List.mem_filter.1 hs
 have hi:=hg.inside s hs1
 unfold mi
 rw [← agx hs2,hi,Bool.true_and,Bool.or_eq_true]
 exact .inr (List.any_eq_true.2 ⟨s,hs1,ak4 hs2⟩)
inductive axw (z:ay) (n:Name):Prop
 |beyond (c:Name) (hc:k6 z n=some c) (h:fy z n=(vy 4 c [],0))
 |exact (hc:k6 z n=none) (hp : 0<(wc z n).length) (hh:mi z n=true) (h:fy z n=(vy 1 n n,0))
 |empty (hc:k6 z n=none) (hp:wc z n=[]) (hh:mi z n=true) (h:fy z n=(vy 2 [] n,0))
 |aAy (hc:k6 z n=none) (hp:wc z n=[]) (hh:mi z n=false) (hs:mi z (nm::c9 z n)=true) (h:fy z n=(vy 3 (nm::c9 z n) (c9 z n),0))
 |none (hc:k6 z n=none) (hp:wc z n=[]) (hh:mi z n=false) (hs:mi z (nm::c9 z n)=false) (h:fy z n=(vy 0 [] (c9 z n),0))
theorem avx {z:ay} {n:Name} (h:fe z n=0):axw z n:=by
 obtain ⟨h1,h2,h3⟩:=Be h
 have hg:=azt h1
 have hf:fy z n=match k6 z n with
  |some c=>(vy 4 c [],0)
  |none=>
   if 0<(wc z n).length then (vy 1 n (c9 z n),0)
   else if (c9 z n).length=n.length then (vy 2 [] (c9 z n),0)
   else if mi z (nm::c9 z n)=true then (vy 3 (nm::c9 z n) (c9 z n),0)
   else (vy 0 [] (c9 z n),0):=by unfold fy;rw [if_neg (by omega)]<;>rfl
 cases hc:k6 z n with
 |some c=>rw [hc] at hf;exact .beyond c hc hf
 |none=>
  rw [hc] at hf
  simp only at hf
  split at hf
  ·rename_i hp
   have hh:=ayn hg hp
   rw [wq hh] at hf
   exact .exact hc hp hh hf
  rename_i hp
  have hp:wc z n=[]:=List.eq_nil_of_length_eq_zero (by omega)
  split at hf
  ·rename_i hl
   have he:=alr hl
   have hh:=(Y2 h3).1
   rw [he] at hh hf
   exact .empty hc hp hh hf
  rename_i hl
  have hh:=ab9 hl
  split at hf
  ·rename_i hs;exact .aAy hc hp hh hs hf
  ·rename_i hs;exact .none hc hp hh (by simpa using hs) hf
theorem as0 {z:ay} {n:Name} (h:fe z n≠0):fy z n=(vy 0 [] [],fe z n):=by unfold fy;rw [if_pos h]
end Go.Proofs.YtjagjbceegbaiaaGreat
end
section
namespace Go.Proofs.YtjagjbceegbaiaaGreat
open Go.Vm
set_option maxRecDepth 2000000
def B5 (l:List bj):Prop:=ko v5 l≤16777216
instance (l:List bj):Decidable (B5 l):=inferInstanceAs (Decidable (_≤_))
theorem B5.mem {l:List bj} (h:B5 l):∀ s ∈ l,dc s:=fun s hs=>by
 have h1:v5 s<ko v5 l:=Gx hs
 unfold B5 at h;unfold dc;omega
theorem B5.len {l:List bj} (h:B5 l):l.length≤16777216:=Nat.le_trans (Du v5 l) h
theorem bg.aj {z:ay} (h:bg z):B5 z.aj:=by unfold bg Pj at h;unfold B5;omega
def Ew (l:List bj):Prop:=l.length≤281474976710656∧∀ s ∈ l,dc s
instance (l:List bj):Decidable (Ew l):=inferInstanceAs (Decidable (_∧_))
theorem bg.mid {z:ay} (h:bg z):Ew z.aj:=⟨Nat.le_trans h.aj.len (by decide),h.aj.mem⟩
def az4 (n:Name) (t:UInt16) (s:bj):Bool:=decide ((s.type.toNat:Int)=t.toNat) && (decide ((s.cls.toNat:Int)=1) && eg s.owner n)
def auu (l:List bj) (n:Name) (t:UInt16):Option bj:=l.find? (az4 n t)
def axy:bj:=mkS [] 0 0 0 []
theorem jo.ano {az:Nat} {vs vs':List AV} {os os':List (Option bh)} (hp:az≤1000) (hV:AV.dm.go (fun o=>idx (rh az vs os) o 0) vs=vs') (hO:j7 (bf os).h (fun o=>idx (rh az vs os) o 0) (rh az vs os)=os'):jo az vs os vs' os':=by
 subst hV hO;exact jo.canon hp
noncomputable def ams (z:ay) (n:Name) (t:UInt16):qd × Int:=
 if (fy z n).2=0∧((t.toNat:Int)=0∨(t.toNat:Int)=41) then (vy 0 [] [],6) else fy z n
theorem alc {s:bj} (h:ov s=0):∀ d ∈ s.data,du s.type d=0:=by
 have key:∀ (l pre:List bo),pw s.type pre l=0→∀ d ∈ l,du s.type d=0:=by
  intro l
  induction l with
  |nil=>intro pre _ d hd;cases hd
  |cons a l ih=>
   intro pre h d hd
   rw [pw] at h
   split at h
   ·contradiction
   split at h
   ·cases h
   rcases List.mem_cons.1 hd with rfl|hd
   ·omega
   ·exact ih _ h d hd
 unfold ov at h
 split at h
 ·contradiction
 split at h
 ·cases h
 split at h
 ·cases h
 exact key _ _ h
def aAt (n:Name) (s:bj):bj:=mkS n s.type s.cls s.j9 s.data
def azh (t:UInt16) (l:List bj):aks:=
 if (t.toNat:Int)=255∧0<l.length then mkT 0 l []
 else match l.find? (fun s=>decide ((s.type.toNat:Int)=t.toNat)) with
  |some x=>mkT 0 [x] []
  |none=>match l.find? (fun s=>decide ((s.type.toNat:Int)=5) && decide ((t.toNat:Int)≠255)) with
   |some x=>mkT 1 [x] (((x.data[0]?).bind fun d=>d.names[0]?).getD [])
   |none=>mkT 2 [] []
noncomputable def azz (z:ay) (n:Name) (t:UInt16) (s:qd):aks:=
 if s.kind=4 then mkT 4 [(auu z.aj s.node 2).getD axy] []
 else if s.kind=0 then mkT 3 [] []
 else if s.kind=2 then mkT 2 [] []
 else azh t (if s.kind=3 then (wc z s.node).map (aAt n) else wc z s.node)
theorem aok {z:ay} {n:Name} (hz:bg z) (hn:aw n):aw (fy z n).1.node:=by
 by_cases h:fe z n=0
 ·rcases avx h with ⟨c,hc,e⟩|⟨hc,_,_,e⟩|⟨hc,_,_,e⟩|⟨hc,_,_,_,e⟩|⟨hc,_,_,_,e⟩<;>rw [e]
  ·exact J6 hz z.aj none (fun _ h=>h) (fun m hm=>by cases hm) c hc
  ·exact hn
  ·show bq []≤_;decide
  ·exact Iq (Be h).2.1
  ·show bq []≤_;decide
 ·rw [as0 h];show bq []≤_;decide
def aAq (a b:UInt32):UInt32:=if (a.toNat:Int)≤b.toNat then a else b
def ai5 (z:ay):bj:=
 let s:=(auu z.aj z.origin 6).getD axy
 mkS s.owner s.type s.cls (aAq s.j9 (((s.data[0]?).bind fun d=>d.nums[4]?).getD 0)) s.data
def azk (n:Name) (s:bj):Bool:=(decide ((s.type.toNat:Int)=1) || decide ((s.type.toNat:Int)=28)) && eg s.owner n
def att (z:ay):List Name→List Name→List bj
 |_,[]=>[]
 |pre,n::r=>(if pre.any (fun m=>eg m n)=true then [] else z.aj.filter (azk n))++att z (pre++[n]) r
def aAd (z:ay) (l:List Name):List bj:=att z [] l
def av8 (l:List Name):Prop:=ko bq l≤16777216
instance (l:List Name):Decidable (av8 l):=inferInstanceAs (Decidable (_≤_))
def azx (s:bj):Bool:=decide ((s.type.toNat:Int)=2) || (decide ((s.type.toNat:Int)=15) || decide ((s.type.toNat:Int)=33))
def aol (l:List bo):List Name:=l.flatMap fun d=>d.names
def as4 (s:bj):List Name:=if azx s=true then aol s.data else []
def awi (l:List bj):List Name:=l.flatMap as4
def az0 (ans:List bj) (s:bj):Bool:=ans.any fun x=>decide ((x.type.toNat:Int)=s.type.toNat) && eg x.owner s.owner
def aue (z:ay) (ans l:List bj):List bj:=(aAd z (awi l)).filter fun s=>!az0 ans s
def aAx (l:List Name) (n:Name):Bool:=l.any fun m=>eg m n
noncomputable def amr (z:ay) (t:UInt16):Nat→Name→List Name→List bj→Kl
 |0,_,_,ans=>Xu 0 true ans [] []
 |k+1,n,seen,ans=>
  let x:=azz z n t (fy z n).1
  if x.turn=0 then Xu 0 true (ans++x.aj) [] (aue z (ans++x.aj) x.aj)
  else if x.turn=3 then Xu 3 true ans [ai5 z] []
  else if x.turn=2 then Xu 0 true ans [ai5 z] []
  else if x.turn=4 then Xu 0 (decide (0<ans.length)) ans x.aj (aue z ans x.aj)
  else if c7 x.to z.origin=false then Xu 0 true (ans++x.aj) [] []
  else if aAx (seen++[n]) x.to=true then Xu 0 true (ans++x.aj) [] []
  else amr z t k x.to (seen++[n]) (ans++x.aj)
noncomputable def ofV (z:ay) (n:Name) (t:UInt16):Kl × Int:=
 if (ams z n t).2≠0 then (Xu 0 false [] [] [],(ams z n t).2) else (amr z t 16 n [] [],0)
def wtW (w:aa5):Nat:=ko Pj w.akp+(ko (fun h:auh=>h.akp.length) w.azr+w.hints.length)
def ayo (w:aa5):Prop:=wtW w≤5242880
instance (w:aa5):Decidable (ayo w):=inferInstanceAs (Decidable (_≤_))
theorem ad9 (l:Name) (hl:l.length≤16777216):wl PP [] 0 (Tryz.f74.body.getD .skip) (ct PP Tryz.f74.results.toList (fun r st=>(r1 ai).get true st.h r=some l)) (bp 0 [ai.val false l]) (bf []):=by
 have hlim:l.length * 16≤140737488355328:=by omega
 unfold Tryz.f74
 simp only [bn]
 simp only [↓wR,RA,simprocAttr,TF,ae,hlim]
noncomputable def vt (x:Name × Unit):Option AV:=if x.1.length≤16777216 then some ((r1 ai).E true (x.1)) else none
set_option maxRecDepth 2000000 in
theorem Hy (x:Name × Unit) (r:AV) (h:vt x=some r):bb PP 74 ((aC ai a0).E x) r:=by
 by_cases hc:x.1.length≤16777216
 case neg=>simp only [vt,if_neg hc] at h;cases h
 simp only [vt,if_pos hc] at h
 cases h
 exact ar (an.nil PP) Tryz.func74 (by kernel_rfl) (by kernel_rfl) (by kernel_rfl) (Nat.le_of_ble_eq_true (by kernel_rfl)) (r1 ai) true (x.1) (ad9 x.1 hc)
noncomputable abbrev Xl:Nat × Bool × (List AV→M AV):=(74,true,cg (aC ai a0) vt)
theorem af9 (l:Name) (hl:l.length≤16777216):wl PP [Xl] 0 (Tryz.f38.body.getD .skip) (ct PP Tryz.f38.results.toList (fun r st=>(r1 ai).get true st.h r=some l)) (bp 0 [ai.val false l]) (bf []):=by
 unfold Tryz.f38
 simp only [bn]
 simp only [↓wR,RA,simprocAttr,TF,ae,vt,hl]
noncomputable def m5 (x:Name × Unit):Option AV:=if x.1.length≤16777216 then some ((r1 ai).E true (x.1)) else none
set_option maxRecDepth 2000000 in
theorem qm (x:Name × Unit) (r:AV) (h:m5 x=some r):bb PP 38 ((aC ai a0).E x) r:=by
 by_cases hc:x.1.length≤16777216
 case neg=>simp only [m5,if_neg hc] at h;cases h
 simp only [m5,if_pos hc] at h
 cases h
 exact ar (an.cons (ak Hy) (an.nil PP)) Tryz.func38 (by kernel_rfl) (by kernel_rfl) (by kernel_rfl) (Nat.le_of_ble_eq_true (by kernel_rfl)) (r1 ai) true (x.1) (af9 x.1 hc)
noncomputable abbrev A0:Nat × Bool × (List AV→M AV):=(38,true,cg (aC ai a0) m5)
theorem ad7 (l:List UInt8) (hl:l.length≤16777216):wl PP [] 0 (Tryz.f148.body.getD .skip) (ct PP Tryz.f148.results.toList (fun r st=>(r1 (cj bk)).get true st.h r=some l)) (bp 0 [(cj bk).val false l]) (bf []):=by
 have hlim:l.length≤140737488355328:=by omega
 unfold Tryz.f148
 simp only [nh]
 simp only [↓wR,RA,simprocAttr,TF,ae,hlim]
noncomputable def yu (x:List UInt8 × Unit):Option AV:=if x.1.length≤16777216 then some ((r1 (cj bk)).E true (x.1)) else none
set_option maxRecDepth 2000000 in
theorem U5 (x:List UInt8 × Unit) (r:AV) (h:yu x=some r):bb PP 148 ((aC (cj bk) a0).E x) r:=by
 by_cases hc:x.1.length≤16777216
 case neg=>simp only [yu,if_neg hc] at h;cases h
 simp only [yu,if_pos hc] at h
 cases h
 exact ar (an.nil PP) Tryz.func148 (by kernel_rfl) (by kernel_rfl) (by kernel_rfl) (Nat.le_of_ble_eq_true (by kernel_rfl)) (r1 (cj bk)) true (x.1) (ad7 x.1 hc)
noncomputable abbrev amn:Nat × Bool × (List AV→M AV):=(148,true,cg (aC (cj bk) a0) yu)
theorem afx (d:bo) (hd:cq d):wl PP [Xl,A0,amn] 0 (Tryz.f116.body.getD .skip) (ct PP Tryz.f116.results.toList (fun r st=>(r1 ba).get true st.h r=some d)) (bp 0 [ba.val false d]) (bf []):=by
 have hls:=hd.lens
 have hq:∀ a b c d,iz a b c=d→iz a b c=d:=fun _ _ _ _ h=>h
 unfold Tryz.f116
 simp only [gh]
 have hnl:=hls.1
 have hlim:d.nums.length * 4≤140737488355328:=by omega
 simp only [↓wR,RA,simprocAttr,TF,ae]
 refine ⟨by kernel_rfl,.inl ?_⟩
 simp only [↓wR,RA,simprocAttr,TF,ae,hlim,vt,yu,hls.2.2.1,hls.2.2.2]
 refine ⟨by apply hq;kernel_rfl,?_⟩
 refine gz [1,2,4,3] (fun (x:List Name)=>[.ptr 0 0,.ptr 1 0,.sc (.int .i64 (x.length)),.ptr 2 0]) (fun x=>[some (.row [.vl false 1 (d.names.map (ai.val false)),.vl false 1 (d.nums.map (cf.val false)),.vl false 1 (d.texts.map (ag.val false)),.vl false 1 (d.raw.map (bk.val false))] 0 2 116),some (.row [.sc (.slice none 0 0),.sc (.slice none 0 0),.sc (.slice none 0 0),.sc (.slice none 0 0)] 0 2 116),some (.row [.sl 3 0 x.length 1,.vl true 1 (d.nums.map (cf.val true)),.vl true 1 (d.texts.map (ag.val true)),.vl true 1 (d.raw.map (bk.val true))] 0 2 116),some (.row (x.map (ai.val true)) 0 0 23)]) (fun x=>x.length≤d.names.length∧x++d.names.drop x.length=d.names) (fun x=>d.names.length - x.length) [] ⟨Nat.zero_le _,rfl⟩ (by
  simp only [↓wR,RA,simprocAttr,TF,ae]
  refine .trans (vs':=[.ptr 0 0,.ptr 1 0,.sc (.int .i64 (0)),.ptr 2 0]) (os':=[some (.row [.vl false 1 (d.names.map (ai.val false)),.vl false 1 (d.nums.map (cf.val false)),.vl false 1 (d.texts.map (ag.val false)),.vl false 1 (d.raw.map (bk.val false))] 0 2 116),some (.row [.sc (.slice none 0 0),.sc (.slice none 0 0),.sc (.slice none 0 0),.sc (.slice none 0 0)] 0 2 116),some (.row [.sc (.slice none 0 0),.vl true 1 (d.nums.map (cf.val true)),.vl true 1 (d.texts.map (ag.val true)),.vl true 1 (d.raw.map (bk.val true))] 0 2 116),none]) (jo.lax [3] (Nat.le_of_ble_eq_true rfl) (er.refl _ _) (.same (.same (.row (.cons (.same _) (.cons (.data (cj cf) true d.nums _ ?_) (.cons (.same _) (.cons (.same _) .nil)))) (cp.refl _ _))))) (.trans (vs':=[.ptr 0 0,.ptr 1 0,.sc (.int .i64 (0)),.ptr 2 0]) (os':=[some (.row [.vl false 1 (d.names.map (ai.val false)),.vl false 1 (d.nums.map (cf.val false)),.vl false 1 (d.texts.map (ag.val false)),.vl false 1 (d.raw.map (bk.val false))] 0 2 116),some (.row [.sc (.slice none 0 0),.sc (.slice none 0 0),.sc (.slice none 0 0),.sc (.slice none 0 0)] 0 2 116),some (.row [.sc (.slice none 0 0),.vl true 1 (d.nums.map (cf.val true)),.vl true 1 (d.texts.map (ag.val true)),.vl true 1 (d.raw.map (bk.val true))] 0 2 116)]) (jo.ano (by decide) ?_ ?_) (by (refine jo.lax [] (by first|exact Nat.le_of_ble_eq_true rfl|(simp [di];omega)) ?_ ?_<;>repeat' first|exact er.nil|exact cp.nil|exact ft.same _|exact ft.nil _ _ _|exact ft.oi _ _|exact cp.refl _ _|apply er.cons|apply cp.ghost|apply cp.same|apply cp.row)))<;>simp only [↓wR,RA,simprocAttr,TF,ae,wy,yt,Bg,rh]) ?_
 rintro x ⟨hi,hx⟩
 simp only [↓wR,RA,simprocAttr,TF,ae]
 rw [be];refine ⟨fun h=>?_,fun h=>?_⟩
 ·obtain ⟨c,hc,hd1,hlt⟩:=dq (decide_eq_true h)
  rw [hd1] at hx
  have hlim2:(x.length+1) * 24≤140737488355328:=by omega
  have hcl:c.length≤16777216:=by have:=(hd.name c (List.mem_of_getElem? hc));have:=(iq c 0).2;unfold aw at *;omega
  simp only [↓wR,RA,simprocAttr,TF,ae,h]
  refine ⟨by kernel_rfl,.inl ?_⟩
  simp only [↓wR,RA,simprocAttr,TF,ae,hc,m5,hcl,hlim2];repeat (simp (disch:=omega) only [ah,bw,bz,bu,bt];try simp only [↓wR,RA,simprocAttr,TF,ae,hc,m5,hcl,hlim2])
  exact ⟨by apply hq;kernel_rfl,x++[c],⟨by simp;omega,by simpa using hx⟩,by simp;omega,by (first|rfl|trivial|omega|((try (simp (disch:=omega) only [ah]));(try (simp only [FB]));first|done|rfl|omega)),by (first|rfl|trivial|omega|((try (simp (disch:=omega) only [ah]));(try (simp only [FB]));first|done|rfl|omega))⟩
 ·rw [en (decide_eq_false h),List.append_nil] at hx
  subst hx
  simp only [↓wR,RA,simprocAttr,TF,ae,h]
noncomputable def yc (x:bo × Unit):Option AV:=if cq x.1 then some ((r1 ba).E true (x.1)) else none
set_option maxRecDepth 2000000 in
theorem Y0 (x:bo × Unit) (r:AV) (h:yc x=some r):bb PP 116 ((aC ba a0).E x) r:=by
 by_cases hc:cq x.1
 case neg=>simp only [yc,if_neg hc] at h;cases h
 simp only [yc,if_pos hc] at h
 cases h
 exact ar (an.cons (ak Hy) (an.cons (ak qm) (an.cons (ak U5) (an.nil PP)))) Tryz.func116 (by kernel_rfl) (by kernel_rfl) (by kernel_rfl) (Nat.le_of_ble_eq_true (by kernel_rfl)) (r1 ba) true (x.1) (afx x.1 hc)
noncomputable abbrev ath:Nat × Bool × (List AV→M AV):=(116,true,cg (aC ba a0) yc)
theorem iw {n:Name} (h:aw n):n.length≤16777216:=by have:=(iq n 0).2;unfold aw at h;omega
theorem akv (s:bj) (hs:dc s):wl PP [A0,ath] 0 (Tryz.f75.body.getD .skip) (ct PP Tryz.f75.results.toList (fun r st=>(r1 aq).get true st.h r=some s)) (bp 0 [aq.val false s]) (bf []):=by
 have hol:=iw hs.owner
 have hd:=hs.data
 have hn:=hd.len
 have hq:∀ a b c d,iz a b c=d→iz a b c=d:=fun _ _ _ _ h=>h
 unfold Tryz.f75
 simp only [jb]
 simp only [↓wR,RA,simprocAttr,TF,ae]
 refine ⟨by kernel_rfl,.inl ?_⟩
 simp only [↓wR,RA,simprocAttr,TF,ae,m5,hol]
 refine ⟨by apply hq;kernel_rfl,?_⟩
 refine gz [1,2,4,3] (fun (x:List bo)=>[.ptr 0 0,.ptr 1 0,.sc (.int .i64 (x.length)),.ptr 2 0]) (fun x=>[some (.row [.vl false 1 (s.owner.map (ag.val false)),.sc (.int .u16 s.type.toNat),.sc (.int .u16 s.cls.toNat),.sc (.int .u32 s.j9.toNat),.vl false 4 (s.data.map (ba.val false))] 0 2 63),some (.row [.sc (.slice none 0 0),.sc (.int .u16 0),.sc (.int .u16 0),.sc (.int .u32 0),.sc (.slice none 0 0)] 0 2 63),some (.row [ai.val true s.owner,.sc (.int .u16 s.type.toNat),.sc (.int .u16 s.cls.toNat),.sc (.int .u32 s.j9.toNat),.sl 3 0 x.length 4] 0 2 63),some (.row (cellsOf ba true x) 0 0 116)]) (fun x=>x.length≤s.data.length∧x++s.data.drop x.length=s.data) (fun x=>s.data.length - x.length) [] ⟨Nat.zero_le _,rfl⟩ (by simp only [↓wR,RA,simprocAttr,TF,ae];(refine jo.lax [] (by first|exact Nat.le_of_ble_eq_true rfl|(simp [di];omega)) ?_ ?_<;>repeat' first|exact er.nil|exact cp.nil|exact ft.same _|exact ft.nil _ _ _|exact ft.oi _ _|exact cp.refl _ _|apply er.cons|apply cp.ghost|apply cp.same|apply cp.row)) ?_
 rintro x ⟨hi,hx⟩
 simp only [↓wR,RA,simprocAttr,TF,ae]
 rw [be];refine ⟨fun h=>?_,fun h=>?_⟩
 ·obtain ⟨c,hc,hd1,hlt⟩:=dq (decide_eq_true h)
  rw [hd1] at hx
  have hcs:=hd.mem c (List.mem_of_getElem? hc)
  have hlim:(x.length * 4+4) * 96≤140737488355328:=by omega
  simp only [↓wR,RA,simprocAttr,TF,ae,h]
  refine ⟨by kernel_rfl,.inl ?_⟩
  simp only [↓wR,RA,simprocAttr,TF,ae,hc,yc,hcs,hlim];repeat (simp (disch:=omega) only [ah,bw,bz,bu,bt];try simp only [↓wR,RA,simprocAttr,TF,ae,hc,yc,hcs,hlim])
  refine ⟨by apply hq;kernel_rfl,x++[c],⟨by simp;omega,by simpa using hx⟩,by simp;omega,by (first|rfl|trivial|omega|((try (simp (disch:=omega) only [ah]));(try (simp only [FB]));first|done|rfl|omega)),?_⟩
  rw [Jm,List.length_append];rfl
 ·rw [en (decide_eq_false h),List.append_nil] at hx
  subst hx
  simp only [↓wR,RA,simprocAttr,TF,ae,h]
noncomputable def ur (x:bj × Unit):Option AV:=if dc x.1 then some ((r1 aq).E true (x.1)) else none
set_option maxRecDepth 2000000 in
theorem J8 (x:bj × Unit) (r:AV) (h:ur x=some r):bb PP 75 ((aC aq a0).E x) r:=by
 by_cases hc:dc x.1
 case neg=>simp only [ur,if_neg hc] at h;cases h
 simp only [ur,if_pos hc] at h
 cases h
 exact ar (an.cons (ak qm) (an.cons (ak Y0) (an.nil PP))) Tryz.func75 (by kernel_rfl) (by kernel_rfl) (by kernel_rfl) (Nat.le_of_ble_eq_true (by kernel_rfl)) (r1 aq) true (x.1) (akv x.1 hc)
noncomputable abbrev ag9:Nat × Bool × (List AV→M AV):=(75,true,cg (aC aq a0) ur)
theorem ag4 (l:List bj) (hl:Ew l) (hl2:l.length≤16777216):wl PP [ag9] 0 (Tryz.f39.body.getD .skip) (ct PP Tryz.f39.results.toList (fun r st=>(r1 (cj aq)).get true st.h r=some l)) (bp 0 [(cj aq).val false l]) (bf []):=by
 unfold Tryz.f39
 simp only [nh]
 simp only [↓wR,RA,simprocAttr,TF,ae]
 refine gz [0,4,3] (fun (x:List bj)=>[.vl false 5 (l.map (aq.val false)),.sc (.int .i64 (x.length)),.sl 0 0 x.length 5]) (fun x=>[some (.row (cellsOf aq true (x)) 0 0 63)]) (fun x=>x.length≤l.length∧x++l.drop x.length=l) (fun x=>l.length - x.length) [] ⟨Nat.zero_le _,rfl⟩ (by simp only [↓wR,RA,simprocAttr,TF,ae];(refine jo.lax [] (by first|exact Nat.le_of_ble_eq_true rfl|(simp [di];omega)) ?_ ?_<;>repeat' first|exact er.nil|exact cp.nil|exact ft.same _|exact ft.nil _ _ _|exact ft.oi _ _|exact cp.refl _ _|apply er.cons|apply cp.ghost|apply cp.same|apply cp.row)) ?_
 rintro x ⟨hi,hx⟩
 simp only [↓wR,RA,simprocAttr,TF,ae]
 rw [be];refine ⟨fun h=>?_,fun h=>?_⟩
 ·obtain ⟨c,hc,hd1,hlt⟩:=dq (decide_eq_true h)
  rw [hd1] at hx
  have hcs:=hl.2 c (List.mem_of_getElem? hc)
  have hlim:(x.length * 5+5) * 64≤140737488355328:=by omega
  simp only [↓wR,RA,simprocAttr,TF,ae,h,hc,ur,hcs,hlim];repeat (simp (disch:=omega) only [ah,bw,bz,bu,bt];try simp only [↓wR,RA,simprocAttr,TF,ae,h,hc,ur,hcs,hlim])
  refine ⟨x++[c],⟨by simp;omega,by simpa using hx⟩,by simp;omega,by (first|rfl|trivial|omega|((try (simp (disch:=omega) only [ah]));(try (simp only [FB]));first|done|rfl|omega)),?_⟩
  rw [Ez]
 ·rw [en (decide_eq_false h),List.append_nil] at hx
  subst hx
  simp only [↓wR,RA,simprocAttr,TF,ae,h]
noncomputable def Cg (x:List bj × Unit):Option AV:=if Ew x.1∧x.1.length≤16777216 then some ((r1 (cj aq)).E true (x.1)) else none
set_option maxRecDepth 2000000 in
theorem Zf (x:List bj × Unit) (r:AV) (h:Cg x=some r):bb PP 39 ((aC (cj aq) a0).E x) r:=by
 by_cases hc:Ew x.1∧x.1.length≤16777216
 case neg=>simp only [Cg,if_neg hc] at h;cases h
 simp only [Cg,if_pos hc] at h
 cases h
 exact ar (an.cons (ak J8) (an.nil PP)) Tryz.func39 (by kernel_rfl) (by kernel_rfl) (by kernel_rfl) (Nat.le_of_ble_eq_true (by kernel_rfl)) (r1 (cj aq)) true (x.1) (ag4 x.1 hc.1 hc.2)
noncomputable abbrev ar5:Nat × Bool × (List AV→M AV):=(39,true,cg (aC (cj aq) a0) Cg)
theorem afo (z:ay) (hz:bg z):wl PP [A0,ar5] 0 (Tryz.f8.body.getD .skip) (ct PP Tryz.f8.results.toList (fun r st=>(r1 bc).get true st.h r=some z)) (bp 0 [bc.val false z]) (bf []):=by
 have hol:=iw hz.origin
 have hzl:=hz.len
 have hq:∀ a b c d,iz a b c=d→iz a b c=d:=fun _ _ _ _ h=>h
 unfold Tryz.f8
 simp only [dr]
 simp only [↓wR,RA,simprocAttr,TF,ae]
 refine ⟨by kernel_rfl,.inl ?_⟩
 simp only [↓wR,RA,simprocAttr,TF,ae,m5,hol,Cg,hz.mid,hzl]
 apply hq;kernel_rfl
noncomputable def Cu (x:ay × Unit):Option AV:=if bg x.1 then some ((r1 bc).E true (x.1)) else none
set_option maxRecDepth 2000000 in
theorem Y5 (x:ay × Unit) (r:AV) (h:Cu x=some r):bb PP 8 ((aC bc a0).E x) r:=by
 by_cases hc:bg x.1
 case neg=>simp only [Cu,if_neg hc] at h;cases h
 simp only [Cu,if_pos hc] at h
 cases h
 exact ar (an.cons (ak qm) (an.cons (ak Zf) (an.nil PP))) Tryz.func8 (by kernel_rfl) (by kernel_rfl) (by kernel_rfl) (Nat.le_of_ble_eq_true (by kernel_rfl)) (r1 bc) true (x.1) (afo x.1 hc)
noncomputable abbrev acf:Nat × Bool × (List AV→M AV):=(8,true,cg (aC bc a0) Cu)
theorem er.ayz {h:Tr bh}:∀ (a:List AV) {b c:List AV},er h b c→er h (a++b) (a++c)
 | [],_,_,q=>q
 |x::a,_,_,q=>.cons (.same x) (er.ayz a q)
theorem aot {t:UInt16} {d:bo} (h:mg t=true):k8 t d=d:=by
 have hk:(cr t).names=0:=by
  unfold mg at h
  unfold cr
  repeat' split
  all_goals first|rfl|(exfalso;simp at h;omega)
 unfold k8
 rw [hk,if_neg (by omega)]
theorem aaa (t:UInt16) : 0≤(cr t).names:=by
 unfold cr
 repeat' split
 all_goals decide
set_option maxHeartbeats 4000000 in
theorem ar8 (t:UInt16) (d:bo) (hd:cq d):wl PP [rOf,ab8] 0 (Tryz.f184.body.getD .skip) (ct PP Tryz.f184.results.toList (fun r st=>(r1 ba).get false st.h r=some (k8 t d))) (bp 0 [cy.val false t,ba.val false d]) (bf []):=by
 have hl:=hd.lens
 have hn0:=aaa t
 unfold Tryz.f184
 simp only [gh,bn]
 simp only [↓wR,RA,simprocAttr,TF,ae,aek,tw]
 rw [ca];refine ⟨fun hb=>?_,fun hb=>?_⟩
 ·have hb':mg t=true:=by simpa using hb
  rw [aot hb']
  simp only [↓wR,RA,simprocAttr,TF,ae,hb]
 simp only [↓wR,RA,simprocAttr,TF,ae,hb]
 unfold k8
 rw [b9];refine ⟨fun ⟨h0,e0⟩=>?_,fun ⟨h0,e0⟩=>?_⟩
 ·rw [if_neg (by omega)]
  simp only [↓wR,RA,simprocAttr,TF,ae,h0]
 rw [if_pos (by omega)]
 simp only [↓wR,RA,simprocAttr,TF,ae,h0]
 refine W9 [3,4,8,7] (fun (x:List Name)=>[.ptr 0 0,.ptr 1 0,.sc (.int .i64 (x.length)),.ptr 2 0]) (fun x=>[some (.row [.vl false 1 (d.names.map (ai.val false)),.vl false 1 (d.nums.map (cf.val false)),.vl false 1 (d.texts.map (ag.val false)),.vl false 1 (d.raw.map (bk.val false))] 0 2 116),some (.row [.sc (.slice none 0 0),.sc (.slice none 0 0),.sc (.slice none 0 0),.sc (.slice none 0 0)] 0 2 116),some (.row [.sl 3 0 x.length 1,.vl false 1 (d.nums.map (cf.val false)),.vl false 1 (d.texts.map (ag.val false)),.vl false 1 (d.raw.map (bk.val false))] 0 2 116),some (.row (x.map (ai.val true)) 0 0 23)]) (fun x=>x.length≤d.names.length∧x++(d.names.drop x.length).map dz=d.names.map dz) (fun x=>d.names.length - x.length) [] ⟨Nat.zero_le _,rfl⟩ (by simp only [↓wR,RA,simprocAttr,TF,ae];(refine jo.lax [] (by first|exact Nat.le_of_ble_eq_true rfl|(simp [di];omega)) ?_ ?_<;>repeat' first|exact er.nil|exact cp.nil|exact ft.same _|exact ft.nil _ _ _|exact ft.oi _ _|exact cp.refl _ _|apply er.cons|apply cp.ghost|apply cp.same|apply cp.row)) ?_
 rintro x ⟨hi,hx⟩
 simp only [↓wR,RA,simprocAttr,TF,ae]
 rw [be];refine ⟨fun h=>?_,fun h=>?_⟩
 ·obtain ⟨c,hc,hd1,hlt⟩:=dq (decide_eq_true h)
  rw [hd1,List.map_cons] at hx
  have hnc:=hd.name c (List.mem_of_getElem? hc)
  have hcl:=hnc.lt
  simp only [↓wR,RA,simprocAttr,TF,ae,h]
  refine gz [3,4,8,10,7,9] (fun (y:Name)=>[.ptr 0 0,.ptr 1 0,.sc (.int .i64 (x.length)),.sc (.int .i64 (y.length)),.ptr 2 0,.sl 4 0 y.length 1]) (fun y=>[some (.row [.vl false 1 (d.names.map (ai.val false)),.vl false 1 (d.nums.map (cf.val false)),.vl false 1 (d.texts.map (ag.val false)),.vl false 1 (d.raw.map (bk.val false))] 0 2 116),some (.row [.sc (.slice none 0 0),.sc (.slice none 0 0),.sc (.slice none 0 0),.sc (.slice none 0 0)] 0 2 116),some (.row [.sl 3 0 x.length 1,.vl false 1 (d.nums.map (cf.val false)),.vl false 1 (d.texts.map (ag.val false)),.vl false 1 (d.raw.map (bk.val false))] 0 2 116),some (.row (x.map (ai.val true)) 0 0 23),some (.row (y.map (ag.val false)) 0 0 9)]) (fun y=>y.length≤c.length∧y++(c.drop y.length).map fold=dz c) (fun y=>c.length - y.length) [] ⟨Nat.zero_le _,rfl⟩ (by simp only [↓wR,RA,simprocAttr,TF,ae];(refine jo.lax [] (by first|exact Nat.le_of_ble_eq_true rfl|(simp [di];omega)) ?_ ?_<;>repeat' first|exact er.nil|exact cp.nil|exact ft.same _|exact ft.nil _ _ _|exact ft.oi _ _|exact cp.refl _ _|apply er.cons|apply cp.ghost|apply cp.same|apply cp.row)) ?_
  rintro y ⟨hj,hy⟩
  simp only [↓wR,RA,simprocAttr,TF,ae,hc]
  rw [be];refine ⟨fun h2=>?_,fun h2=>?_⟩
  ·obtain ⟨s,hs,hd2,hlt2⟩:=dq (decide_eq_true h2)
   rw [hd2,List.map_cons] at hy
   have hss:=hnc.label s (List.mem_of_getElem? hs)
   simp only [↓wR,RA,simprocAttr,TF,ae,h2,hc,hs,vc,hss,bn];repeat (simp (disch:=omega) only [ah,bw,bz,bu,bt];try simp only [↓wR,RA,simprocAttr,TF,ae,h2,hc,hs,vc,hss,bn])
   exact ⟨y++[fold s],⟨by simp;omega,by simpa using hy⟩,by simp;omega,by (first|rfl|trivial|omega|((try (simp (disch:=omega) only [ah]));(try (simp only [FB]));first|done|rfl|omega)),by (first|rfl|trivial|omega|((try (simp (disch:=omega) only [ah]));(try (simp only [FB]));first|done|rfl|omega))⟩
  rw [en (decide_eq_false h2)] at hy
  obtain rfl:y=dz c:=by simpa using hy
  simp only [↓wR,RA,simprocAttr,TF,ae,h2];repeat (simp (disch:=omega) only [ah,bw,bz,bu,bt];try simp only [↓wR,RA,simprocAttr,TF,ae,h2])
  have hfl:(dz c).length=c.length:=by simp [dz]
  refine ⟨x++[dz c],⟨by simp;omega,by simpa using hx⟩,by simp;omega,?_⟩
  rw [show ((x++[dz c]).length:Int)=(x.length:Int)+1 by simp,List.map_append,List.length_append,List.length_singleton,List.map_cons,List.map_nil]
  refine .trans (vs':=[.ptr 0 0,.ptr 1 0,.sc (.int .i64 ((x.length:Int)+1)),.ptr 2 0]) (os':=[some (.row [.vl false 1 (d.names.map (ai.val false)),.vl false 1 (d.nums.map (cf.val false)),.vl false 1 (d.texts.map (ag.val false)),.vl false 1 (d.raw.map (bk.val false))] 0 2 116),some (.row [.sc (.slice none 0 0),.sc (.slice none 0 0),.sc (.slice none 0 0),.sc (.slice none 0 0)] 0 2 116),some (.row [.sl 3 0 (x.length+1) 1,.vl false 1 (d.nums.map (cf.val false)),.vl false 1 (d.texts.map (ag.val false)),.vl false 1 (d.raw.map (bk.val false))] 0 2 116),some (.row (x.map (ai.val true)++[ai.val true (dz c)]) 0 0 23),none]) (jo.lax [4] (Nat.le_of_ble_eq_true rfl) (er.refl _ _) (.same (.same (.same (.row (er.ayz _ (.cons (.data (cj ag) true (dz c) _ ?_) .nil)) (cp.refl _ _)))))) (jo.ano (by decide) ?_ ?_)<;>simp only [↓wR,RA,simprocAttr,TF,ae,wy,yt,Bg,rh]
 ·rw [en (decide_eq_false h)] at hx
  have hxe:x=d.names.map dz:=by simpa using hx
  have hln:d.names.length=x.length:=by rw [hxe,List.length_map]
  rw [← hxe]
  simp only [↓wR,RA,simprocAttr,TF,ae,h]
  rfl
noncomputable def Kz (x:UInt16 × bo × Unit):Option AV:=if cq x.2.1 then some ((r1 ba).E false (k8 x.1 x.2.1)) else none
set_option maxRecDepth 2000000 in
theorem ajo (x:UInt16 × bo × Unit) (r:AV) (h:Kz x=some r):bb PP 184 ((aC cy (aC ba a0)).E x) r:=by
 by_cases hc:cq x.2.1
 case neg=>simp only [Kz,if_neg hc] at h;cases h
 simp only [Kz,if_pos hc] at h
 cases h
 exact ar (an.cons (ak P4) (an.cons (ak Jw) (an.nil PP))) Tryz.func184 (by kernel_rfl) (by kernel_rfl) (by kernel_rfl) (Nat.le_of_ble_eq_true (by kernel_rfl)) (r1 ba) false (k8 x.1 x.2.1) (ar8 x.1 x.2.1 hc)
noncomputable abbrev azo:Nat × Bool × (List AV→M AV):=(184,true,cg (aC cy (aC ba a0)) Kz)
theorem P6:∀ l m:List UInt8,Op.bytesLess l m=decide (Lib.compareBytes l m<0)
 | [],[]=>rfl
 |_::_,[]=>rfl
 | [],_::_=>rfl
 |a::l,b::m=>by
  have ih:=P6 l m
  simp only [Op.bytesLess,Lib.compareBytes,ih]
  by_cases h1:a<b
  ·simp [h1]
  ·by_cases h2:b<a
   ·have:¬ a=b:=fun e=>by subst e;exact h1 h2
    simp [h1,h2,this]
   ·have:a=b:=by rw [UInt8.lt_iff_toNat_lt] at h1 h2;exact UInt8.toNat_inj.1 (by omega)
    subst this
    simp [h1]
theorem abm:∀ l m:List UInt8,Lib.compareBytes l m = -1∨Lib.compareBytes l m=0∨Lib.compareBytes l m=1
 | [],[]=>.inr (.inl rfl)
 |_::_,[]=>.inr (.inr rfl)
 | [],_::_=>.inl rfl
 |a::l,b::m=>by
  have ih:=abm l m
  simp only [Lib.compareBytes]
  split
  ·exact .inl rfl
  ·split
   ·exact .inr (.inr rfl)
   ·exact ih
theorem cmp_eq (l m:List UInt8):(l == m)=decide (Lib.compareBytes l m=0):=by
 rw [Bool.eq_iff_iff]
 simp only [beq_iff_eq,decide_eq_true_eq]
 exact ⟨fun e=>by rw [e];exact Uz _,fun e=>Wg _ _ e⟩
theorem ali {P:Program} {t:TypeId} (a b:ByteArray):ev P (binOp .lss t (.string a) (.string b))=some (.bool (decide (Lib.compareBytes a.data.toList b.data.toList<0))):=by
 rw [← P6,← ByteArray.toList_eq,← ByteArray.toList_eq];rfl
theorem akn {P:Program} {t:TypeId} (a b:ByteArray):ev P (binOp .gtr t (.string a) (.string b))=some (.bool (decide (0<Lib.compareBytes a.data.toList b.data.toList))):=by
 have h:(!(Op.bytesLess a.toList b.toList || (a.toList == b.toList)))=decide (0<Lib.compareBytes a.data.toList b.data.toList):=by
  rw [P6,cmp_eq,ByteArray.toList_eq,ByteArray.toList_eq,Bool.eq_iff_iff]
  simp
  omega
 rw [← h];rfl
theorem Sl (t:UInt16) (a b:bo) (ha:cq a) (hb:cq b):wl PP [Ie,azo,ax3] 0 (Tryz.f142.body.getD .skip) (ct PP Tryz.f142.results.toList (fun r st=>(r1 (au .i64)).get true st.h r=some (if du t a≠0∨du t b≠0 then 0 else A8 t a b))) (bp 0 [cy.val false t,ba.val false a,ba.val false b]) (bf []):=by
 unfold Tryz.f142
 simp only [gh,bn]
 simp only [↓wR,RA,simprocAttr,TF,ae,nq,ha,hb]
 rw [c6];refine ⟨fun ⟨h1,e1⟩=>?_,fun ⟨h1,e1⟩=>?_⟩
 ·rw [if_pos (.inl e1)]
  simp only [↓wR,RA,simprocAttr,TF,ae,h1]
 simp only [↓wR,RA,simprocAttr,TF,ae,h1,nq,ha,hb]
 rw [c6];refine ⟨fun ⟨h2,e2⟩=>?_,fun ⟨h2,e2⟩=>?_⟩
 ·rw [if_pos (.inr e2)]
  simp only [↓wR,RA,simprocAttr,TF,ae,h2]
 rw [if_neg (by omega)]
 simp only [↓wR,RA,simprocAttr,TF,ae,h2]
 refine ⟨by kernel_rfl,.inl ?_⟩
 have ea:=Lx e1
 have eb:=Lx e2
 have fa:=cq.fold ha t
 have fb:=cq.fold hb t
 simp only [↓wR,RA,simprocAttr,TF,ae,Kz,ha,hb,H5,ea,eb,fa,fb]
 refine ⟨by kernel_rfl,?_⟩
 have hv:A8 t a b=Lib.compareBytes (mf t (k8 t a)) (mf t (k8 t b)):=by
  unfold A8 Ep Wa
  rw [if_neg (by omega),if_neg (by omega),if_neg (by omega)]
 rw [hv]
 obtain ⟨x,hx⟩:∃ x,x=mf t (k8 t a):=⟨_,rfl⟩
 obtain ⟨y,hy⟩:∃ y,y=mf t (k8 t b):=⟨_,rfl⟩
 rw [← hx,← hy]
 have h3:=abm x y
 simp only [↓wR,RA,simprocAttr,TF,ae,ali]
 rw [be];refine ⟨fun h4=>?_,fun h4=>?_⟩
 ·have h5:Lib.compareBytes x y = -1:=by omega
  rw [h5]
  simp only [↓wR,RA,simprocAttr,TF,ae,h4]
 ·simp only [↓wR,RA,simprocAttr,TF,ae,h4,akn]
  rw [be];refine ⟨fun h6=>?_,fun h6=>?_⟩
  ·have h5:Lib.compareBytes x y=1:=by omega
   rw [h5]
   simp only [↓wR,RA,simprocAttr,TF,ae,h6]
  ·have h5:Lib.compareBytes x y=0:=by omega
   rw [h5]
   simp only [↓wR,RA,simprocAttr,TF,ae,h6]
noncomputable def lx (x:UInt16 × bo × bo × Unit):Option AV:=if cq x.2.1∧cq x.2.2.1 then some ((r1 (au .i64)).E true ((if du x.1 x.2.1≠0∨du x.1 x.2.2.1≠0 then 0 else A8 x.1 x.2.1 x.2.2.1))) else none
set_option maxRecDepth 2000000 in
theorem C9 (x:UInt16 × bo × bo × Unit) (r:AV) (h:lx x=some r):bb PP 142 ((aC cy (aC ba (aC ba a0))).E x) r:=by
 by_cases hc:cq x.2.1∧cq x.2.2.1
 case neg=>simp only [lx,if_neg hc] at h;cases h
 simp only [lx,if_pos hc] at h
 cases h
 exact ar (an.cons (ak zb) (an.cons (ak ajo) (an.cons (ak aga) (an.nil PP)))) Tryz.func142 (by kernel_rfl) (by kernel_rfl) (by kernel_rfl) (Nat.le_of_ble_eq_true (by kernel_rfl)) (r1 (au .i64)) true ((if du x.1 x.2.1≠0∨du x.1 x.2.2.1≠0 then 0 else A8 x.1 x.2.1 x.2.2.1)) (Sl x.1 x.2.1 x.2.2.1 hc.1 hc.2)
noncomputable abbrev Kt:Nat × Bool × (List AV→M AV):=(142,true,cg (aC cy (aC ba (aC ba a0))) lx)
theorem adi (t:UInt16) (a b:bo) (ha:cq a) (hb:cq b):wl PP [Ie,Kt] 0 (Tryz.f174.body.getD .skip) (ct PP Tryz.f174.results.toList (fun r st=>(r1 bd).get true st.h r=some (wx t a b))) (bp 0 [cy.val false t,ba.val false a,ba.val false b]) (bf []):=by
 unfold wx
 unfold Tryz.f174
 simp only [gh,bn]
 simp only [↓wR,RA,simprocAttr,TF,ae,nq,ha,hb]
 rw [b9];refine ⟨fun ⟨h1,e1⟩=>?_,fun ⟨h1,e1⟩=>?_⟩
 ·simp only [↓wR,RA,simprocAttr,TF,ae,h1,nq,ha,hb,e1]
  rw [b9];refine ⟨fun ⟨h2,e2⟩=>?_,fun ⟨h2,e2⟩=>?_⟩
  ·simp only [↓wR,RA,simprocAttr,TF,ae,h2,lx,ha,hb,e1,e2]
   rw [if_neg (by simp)]
   rfl
  ·simp only [↓wR,RA,simprocAttr,TF,ae,h2]
   simp [e2]
 ·simp only [↓wR,RA,simprocAttr,TF,ae,h1]
  simp [e1]
noncomputable def zu (x:UInt16 × bo × bo × Unit):Option AV:=if cq x.2.1∧cq x.2.2.1 then some ((r1 bd).E true (wx x.1 x.2.1 x.2.2.1)) else none
set_option maxRecDepth 2000000 in
theorem Vq (x:UInt16 × bo × bo × Unit) (r:AV) (h:zu x=some r):bb PP 174 ((aC cy (aC ba (aC ba a0))).E x) r:=by
 by_cases hc:cq x.2.1∧cq x.2.2.1
 case neg=>simp only [zu,if_neg hc] at h;cases h
 simp only [zu,if_pos hc] at h
 cases h
 exact ar (an.cons (ak zb) (an.cons (ak C9) (an.nil PP))) Tryz.func174 (by kernel_rfl) (by kernel_rfl) (by kernel_rfl) (Nat.le_of_ble_eq_true (by kernel_rfl)) (r1 bd) true (wx x.1 x.2.1 x.2.2.1) (adi x.1 x.2.1 x.2.2.1 hc.1 hc.2)
noncomputable abbrev aqf:Nat × Bool × (List AV→M AV):=(174,true,cg (aC cy (aC ba (aC ba a0))) zu)
theorem ax5 (t:UInt16) (l:List bo) (d:bo) (hl:m4 l) (hd:cq d):wl PP [aqf] 0 (Tryz.f125.body.getD .skip) (ct PP Tryz.f125.results.toList (fun r st=>(r1 bd).get true st.h r=some (Av t l d))) (bp 0 [cy.val false t,(cj ba).val false l,ba.val false d]) (bf []):=by
 have hll:=hl.len
 unfold Av
 unfold Tryz.f125
 simp only [gh,bn]
 simp only [↓wR,RA,simprocAttr,TF,ae]
 refine dg [0,1,5,7] (fun (i:Nat)=>[.sc (.int .u16 t.toNat),.vl false 4 (l.map (ba.val false)),.ptr 0 0,.sc (.int .i64 (i))]) (fun _=>[some (.row [.vl false 1 (d.names.map (ai.val false)),.vl false 1 (d.nums.map (cf.val false)),.vl false 1 (d.texts.map (ag.val false)),.vl false 1 (d.raw.map (bk.val false))] 0 2 116)]) (fun i=>i≤l.length∧(l.any fun x=>wx t x d)=((l.drop i).any fun x=>wx t x d)) (fun i=>l.length - i) 0 ⟨Nat.zero_le _,rfl⟩ (by simp only [↓wR,RA,simprocAttr,TF,ae]<;>rfl) (by simp only [↓wR,RA,simprocAttr,TF,ae]<;>rfl) ?_
 rintro i ⟨hi,hx⟩
 simp only [↓wR,RA,simprocAttr,TF,ae]
 rw [be];refine ⟨fun h=>?_,fun h=>?_⟩
 ·obtain ⟨c,hc,hd1,hlt⟩:=dq (decide_eq_true h)
  have hsc:=hl.mem c (List.mem_of_getElem? hc)
  rw [hd1,List.any_cons] at hx
  simp only [↓wR,RA,simprocAttr,TF,ae,h]
  refine ⟨by kernel_rfl,.inl ?_⟩
  simp only [↓wR,RA,simprocAttr,TF,ae,hc,zu,hsc,hd]
  refine ⟨by kernel_rfl,?_⟩
  rw [ca];refine ⟨fun h2=>?_,fun h2=>?_⟩
  ·rw [hx,h2]
   simp only [↓wR,RA,simprocAttr,TF,ae,h2]
  ·rw [h2,Bool.false_or] at hx
   simp only [↓wR,RA,simprocAttr,TF,ae,h2];repeat (simp (disch:=omega) only [ah,bw,bz,bu,bt];try simp only [↓wR,RA,simprocAttr,TF,ae,h2])
   exact ⟨i+1,⟨hlt,hx⟩,by omega,by (first|rfl|trivial|omega|((try (simp (disch:=omega) only [ah]));(try (simp only [FB]));first|done|rfl|omega))⟩
 ·rw [en (decide_eq_false h)] at hx
  rw [hx]
  simp only [↓wR,RA,simprocAttr,TF,ae,h]
  try rfl
noncomputable def aa9 (x:UInt16 × List bo × bo × Unit):Option AV:=if m4 x.2.1∧cq x.2.2.1 then some ((r1 bd).E true (Av x.1 x.2.1 x.2.2.1)) else none
set_option maxRecDepth 2000000 in
theorem asw (x:UInt16 × List bo × bo × Unit) (r:AV) (h:aa9 x=some r):bb PP 125 ((aC cy (aC (cj ba) (aC ba a0))).E x) r:=by
 by_cases hc:m4 x.2.1∧cq x.2.2.1
 case neg=>simp only [aa9,if_neg hc] at h;cases h
 simp only [aa9,if_pos hc] at h
 cases h
 exact ar (an.cons (ak Vq) (an.nil PP)) Tryz.func125 (by kernel_rfl) (by kernel_rfl) (by kernel_rfl) (Nat.le_of_ble_eq_true (by kernel_rfl)) (r1 bd) true (Av x.1 x.2.1 x.2.2.1) (ax5 x.1 x.2.1 x.2.2.1 hc.1 hc.2)
noncomputable abbrev rIn:Nat × Bool × (List AV→M AV):=(125,true,cg (aC cy (aC (cj ba) (aC ba a0))) aa9)
theorem ad6 (s:bj) (hs:dc s):wl PP [Mh,Ie,rIn] 0 (Tryz.f104.body.getD .skip) (ct PP Tryz.f104.results.toList (fun r st=>(r1 (au .i64)).get true st.h r=some (ov s))) (bp 0 [aq.val false s]) (bf []):=by
 have ho:=hs.owner
 have hd:=hs.data
 have hn:=hd.len
 unfold Tryz.f104
 simp only [jb]
 simp only [↓wR,RA,simprocAttr,TF,ae,vd,ho.fit]
 unfold ov
 rw [c6];refine ⟨fun ⟨h,he⟩=>?_,fun ⟨h,he⟩=>?_⟩
 ·rw [if_pos he]
  simp only [↓wR,RA,simprocAttr,TF,ae,h]
 rw [if_neg (by omega)]
 simp only [↓wR,RA,simprocAttr,TF,ae,h]
 rw [b9];refine ⟨fun ⟨h1,e1⟩=>?_,fun ⟨h1,e1⟩=>?_⟩
 ·rw [if_pos (by omega)]
  simp only [↓wR,RA,simprocAttr,TF,ae,h1]
 rw [if_neg (by omega)]
 simp only [↓wR,RA,simprocAttr,TF,ae,h1]
 rw [be];refine ⟨fun h2=>?_,fun h2=>?_⟩
 ·rw [if_pos (by omega)]
  simp only [↓wR,RA,simprocAttr,TF,ae,h2]
 rw [if_neg (by omega)]
 simp only [↓wR,RA,simprocAttr,TF,ae,h2]
 refine dg [1,4] (fun (i:Nat)=>[.ptr 0 0,.sc (.int .i64 (i))]) (fun _=>[some (.row [.vl false 1 (s.owner.map (ag.val false)),.sc (.int .u16 s.type.toNat),.sc (.int .u16 s.cls.toNat),.sc (.int .u32 s.j9.toNat),.vl false 4 (s.data.map (ba.val false))] 0 2 63)]) (fun i=>i≤s.data.length∧pw s.type [] s.data=pw s.type (s.data.take i) (s.data.drop i)) (fun i=>s.data.length - i) 0 ⟨Nat.zero_le _,rfl⟩ (by simp only [↓wR,RA,simprocAttr,TF,ae]<;>rfl) (by simp only [↓wR,RA,simprocAttr,TF,ae]<;>rfl) ?_
 rintro i ⟨hi,hx⟩
 simp only [↓wR,RA,simprocAttr,TF,ae]
 rw [be];refine ⟨fun h3=>?_,fun h3=>?_⟩
 ·obtain ⟨c,hc,hd1,hlt⟩:=dq (decide_eq_true h3)
  rw [Pp _ hc] at hx
  have hcs:=hd.mem c (List.mem_of_getElem? hc)
  simp only [↓wR,RA,simprocAttr,TF,ae,h3]
  refine ⟨by kernel_rfl,.inl ?_⟩
  simp only [↓wR,RA,simprocAttr,TF,ae,hc,nq,hcs]
  refine ⟨by kernel_rfl,?_⟩
  rw [c6];refine ⟨fun ⟨h4,he4⟩=>?_,fun ⟨h4,he4⟩=>?_⟩
  ·rw [if_pos he4] at hx
   rw [hx]
   simp only [↓wR,RA,simprocAttr,TF,ae,h4]
  ·rw [if_neg (by omega)] at hx
   simp only [↓wR,RA,simprocAttr,TF,ae,h4]
   refine ⟨by kernel_rfl,.inl ?_⟩
   simp only [↓wR,RA,simprocAttr,TF,ae,hi,hc,aa9,hd.take i,hcs]
   refine ⟨by kernel_rfl,?_⟩
   rw [ca];refine ⟨fun h5=>?_,fun h5=>?_⟩
   ·rw [if_pos h5] at hx
    rw [hx]
    simp only [↓wR,RA,simprocAttr,TF,ae,h5]
   ·rw [if_neg (by rw [h5];decide)] at hx
    simp only [↓wR,RA,simprocAttr,TF,ae,h5];repeat (simp (disch:=omega) only [ah,bw,bz,bu,bt];try simp only [↓wR,RA,simprocAttr,TF,ae,h5])
    exact ⟨i+1,⟨hlt,hx⟩,by omega,by (first|rfl|trivial|omega|((try (simp (disch:=omega) only [ah]));(try (simp only [FB]));first|done|rfl|omega))⟩
 ·rw [en (decide_eq_false h3)] at hx
  rw [hx]
  simp only [↓wR,RA,simprocAttr,TF,ae,h3]
  try rfl
noncomputable def zn (x:bj × Unit):Option AV:=if dc x.1 then some ((r1 (au .i64)).E true (ov x.1)) else none
set_option maxRecDepth 2000000 in
theorem V5 (x:bj × Unit) (r:AV) (h:zn x=some r):bb PP 104 ((aC aq a0).E x) r:=by
 by_cases hc:dc x.1
 case neg=>simp only [zn,if_neg hc] at h;cases h
 simp only [zn,if_pos hc] at h
 cases h
 exact ar (an.cons (ak wa) (an.cons (ak zb) (an.cons (ak asw) (an.nil PP)))) Tryz.func104 (by kernel_rfl) (by kernel_rfl) (by kernel_rfl) (Nat.le_of_ble_eq_true (by kernel_rfl)) (r1 (au .i64)) true (ov x.1) (ad6 x.1 hc)
noncomputable abbrev apr:Nat × Bool × (List AV→M AV):=(104,true,cg (aC aq a0) zn)
noncomputable def gv (s:bj):bj:=if s.data.all (fun d=>decide (du s.type d=0))=true then mkS s.owner s.type s.cls s.j9 (alq (ltD s.type) s.data) else s
theorem aqk (a b:bj) (ha:dc a) (hb:dc b):wl PP [aq5] 0 (Tryz.f141.body.getD .skip) (ct PP Tryz.f141.results.toList (fun r st=>(r1 bd).get true st.h r=some (decide (xy a b<0)))) (bp 0 [aq.val false a,aq.val false b]) (bf []):=by
 have hna:=ha.owner
 have hnb:=hb.owner
 unfold xy Lc Lc Lc
 unfold Tryz.f141
 simp only [jb]
 simp only [↓wR,RA,simprocAttr,TF,ae,Cn,hna,hnb]
 rw [c6];refine ⟨fun ⟨h1,e1⟩=>?_,fun ⟨h1,e1⟩=>?_⟩
 ·rw [if_pos e1]
  simp only [↓wR,RA,simprocAttr,TF,ae,h1]
 rw [if_neg (by omega)]
 simp only [↓wR,RA,simprocAttr,TF,ae,h1]
 congr 1
 rw [decide_eq_decide]
 unfold Vd
 repeat' split
 all_goals omega
noncomputable def Dn (x:bj × bj × Unit):Option AV:=if dc x.1∧dc x.2.1 then some ((r1 bd).E true (decide (xy x.1 x.2.1<0))) else none
set_option maxRecDepth 2000000 in
theorem afl (x:bj × bj × Unit) (r:AV) (h:Dn x=some r):bb PP 141 ((aC aq (aC aq a0)).E x) r:=by
 by_cases hc:dc x.1∧dc x.2.1
 case neg=>simp only [Dn,if_neg hc] at h;cases h
 simp only [Dn,if_pos hc] at h
 cases h
 exact ar (an.cons (ak Zc) (an.nil PP)) Tryz.func141 (by kernel_rfl) (by kernel_rfl) (by kernel_rfl) (Nat.le_of_ble_eq_true (by kernel_rfl)) (r1 bd) true (decide (xy x.1 x.2.1<0)) (aqk x.1 x.2.1 hc.1 hc.2)
noncomputable abbrev ay5:Nat × Bool × (List AV→M AV):=(141,true,cg (aC aq (aC aq a0)) Dn)
theorem atm (z:ay) (n:Name) (hz:bg z) (hn:aw n):wl PP [nl,ag9] 0 (Tryz.f87.body.getD .skip) (ct PP Tryz.f87.results.toList (fun r st=>(r1 (cj aq)).get true st.h r=some (wc z n))) (bp 0 [bc.val false z,ai.val false n]) (bf []):=by
 have hlen:=hz.len
 unfold Tryz.f87
 simp only [dr,bn]
 simp only [↓wR,RA,simprocAttr,TF,ae]
 refine gz [1,2,6,5] (fun (x:Nat × List bj)=>[.vl false 1 (n.map (ag.val false)),.ptr 0 0,.sc (.int .i64 (x.1)),.sl 1 0 x.2.length 5]) (fun x=>[some (.row [.vl false 1 (z.origin.map (ag.val false)),.vl false 5 (z.aj.map (aq.val false))] 0 2 26),some (.row (cellsOf aq true (x.2)) 0 0 63)]) (fun x=>x.1≤z.aj.length∧x.2++(z.aj.drop x.1).filter (fun s=>eg s.owner n)=wc z n∧x.2.length≤x.1) (fun x=>z.aj.length - x.1) (0,[]) ⟨Nat.zero_le _,rfl,Nat.le_refl _⟩ (by simp only [↓wR,RA,simprocAttr,TF,ae];(refine jo.lax [] (by first|exact Nat.le_of_ble_eq_true rfl|(simp [di];omega)) ?_ ?_<;>repeat' first|exact er.nil|exact cp.nil|exact ft.same _|exact ft.nil _ _ _|exact ft.oi _ _|exact cp.refl _ _|apply er.cons|apply cp.ghost|apply cp.same|apply cp.row)) ?_
 rintro ⟨i,x⟩ ⟨hi,hx,hxl⟩
 simp only at hi hx hxl
 simp only [↓wR,RA,simprocAttr,TF,ae]
 rw [be];refine ⟨fun h=>?_,fun h=>?_⟩
 ·obtain ⟨c,hc,hd1,hlt⟩:=dq (decide_eq_true h)
  have hcs:=hz.aj.mem c (List.mem_of_getElem? hc)
  rw [hd1,List.filter_cons] at hx
  have hlim:(x.length * 5+5) * 56≤140737488355328:=by omega
  simp only [↓wR,RA,simprocAttr,TF,ae,h,hc,v9,hcs.owner,hn]
  rw [ca];refine ⟨fun h2=>?_,fun h2=>?_⟩
  ·rw [if_pos h2] at hx
   simp only [↓wR,RA,simprocAttr,TF,ae,h2,hc,ur,hcs,hlim];repeat (simp (disch:=omega) only [ah,bw,bz,bu,bt];try simp only [↓wR,RA,simprocAttr,TF,ae,h2,hc,ur,hcs,hlim])
   refine ⟨(i+1,x++[c]),⟨hlt,by simpa using hx,by simp;omega⟩,by simp;omega,by (first|rfl|trivial|omega|((try (simp (disch:=omega) only [ah]));(try (simp only [FB]));first|done|rfl|omega)),?_⟩
   rw [Ez]
  ·rw [if_neg (by rw [h2];decide)] at hx
   simp only [↓wR,RA,simprocAttr,TF,ae,h2];repeat (simp (disch:=omega) only [ah,bw,bz,bu,bt];try simp only [↓wR,RA,simprocAttr,TF,ae,h2])
   exact ⟨(i+1,x),⟨hlt,hx,by show x.length≤i+1;omega⟩,by simp;omega,by (first|rfl|trivial|omega|((try (simp (disch:=omega) only [ah]));(try (simp only [FB]));first|done|rfl|omega)),rfl⟩
 ·rw [en (decide_eq_false h),List.filter_nil,List.append_nil] at hx
  have hd:∀ fr h k st et,F7 fr st 5 aq.kd et=true→mr aq fr h 0 x.length (.row (cellsOf aq true x) k st et)=some x:=fun fr h k st et hro=>Dw aq fr h true x k st et x.length rfl (by cases fr<;>rfl) hro
  rw [← hx]
  simp only [↓wR,RA,simprocAttr,TF,ae,h,hd]
noncomputable def Ho (x:ay × Name × Unit):Option AV:=if bg x.1∧aw x.2.1 then some ((r1 (cj aq)).E true (wc x.1 x.2.1)) else none
set_option maxRecDepth 2000000 in
theorem Ue (x:ay × Name × Unit) (r:AV) (h:Ho x=some r):bb PP 87 ((aC bc (aC ai a0)).E x) r:=by
 by_cases hc:bg x.1∧aw x.2.1
 case neg=>simp only [Ho,if_neg hc] at h;cases h
 simp only [Ho,if_pos hc] at h
 cases h
 exact ar (an.cons (ak vj) (an.cons (ak J8) (an.nil PP))) Tryz.func87 (by kernel_rfl) (by kernel_rfl) (by kernel_rfl) (Nat.le_of_ble_eq_true (by kernel_rfl)) (r1 (cj aq)) true (wc x.1 x.2.1) (atm x.1 x.2.1 hc.1 hc.2)
noncomputable abbrev aun:Nat × Bool × (List AV→M AV):=(87,true,cg (aC bc (aC ai a0)) Ho)
def xg (z:ay) (s:bj):Bool:=decide ((s.type.toNat:Int)=2) && (c7 s.owner z.origin && !eg s.owner z.origin)
def zd (z:ay):List Name:=(z.aj.filter (xg z)).map (·.owner)
theorem awy {z:ay} {l:List bj} {i:Nat} {c:bj} (h:l.drop i=c::l.drop (i+1)):((l.drop i).filter (xg z)).map (·.owner)=(if xg z c=true then [c.owner] else [])++((l.drop (i+1)).filter (xg z)).map (·.owner):=by
 rw [h,List.filter_cons];split<;>rfl
theorem aq1 (z:ay) (hz:bg z):wl PP [ma,nl,A0] 0 (Tryz.f136.body.getD .skip) (ct PP Tryz.f136.results.toList (fun r st=>(r1 (cj ai)).get true st.h r=some (zd z))) (bp 0 [bc.val false z]) (bf []):=by
 have hlen:=hz.len
 have hzo:=hz.origin
 unfold Tryz.f136
 simp only [dr]
 simp only [↓wR,RA,simprocAttr,TF,ae]
 refine gz [1,4,3] (fun (x:Nat × List Name)=>[.ptr 0 0,.sc (.int .i64 (x.1)),.sl 1 0 x.2.length 1]) (fun x=>[some (.row [.vl false 1 (z.origin.map (ag.val false)),.vl false 5 (z.aj.map (aq.val false))] 0 2 26),some (.row (x.2.map (ai.val true)) 0 0 23)]) (fun x=>x.1≤z.aj.length∧x.2++((z.aj.drop x.1).filter (xg z)).map (·.owner)=zd z∧x.2.length≤x.1) (fun x=>z.aj.length - x.1) (0,[]) ⟨Nat.zero_le _,rfl,Nat.le_refl _⟩ (by simp only [↓wR,RA,simprocAttr,TF,ae];(refine jo.lax [] (by first|exact Nat.le_of_ble_eq_true rfl|(simp [di];omega)) ?_ ?_<;>repeat' first|exact er.nil|exact cp.nil|exact ft.same _|exact ft.nil _ _ _|exact ft.oi _ _|exact cp.refl _ _|apply er.cons|apply cp.ghost|apply cp.same|apply cp.row)) ?_
 rintro ⟨i,x⟩ ⟨hi,hx,hxl⟩
 simp only at hi hx hxl
 simp only [↓wR,RA,simprocAttr,TF,ae]
 rw [be];refine ⟨fun h=>?_,fun h=>?_⟩
 ·obtain ⟨c,hc,hd1,hlt⟩:=dq (decide_eq_true h)
  have hcs:=hz.aj.mem c (List.mem_of_getElem? hc)
  have hol:=iw hcs.owner
  rw [awy hd1] at hx
  have hlim:(x.length+1) * 24≤140737488355328:=by omega
  have hlim2:(x.length+1) * 16≤140737488355328:=by omega
  simp only [↓wR,RA,simprocAttr,TF,ae,h,hc]
  rw [b9];refine ⟨fun ⟨h1,e1⟩=>?_,fun ⟨h1,e1⟩=>?_⟩
  ·simp only [↓wR,RA,simprocAttr,TF,ae,h1,ud,hcs.owner,hzo]
   rw [ca];refine ⟨fun h2=>?_,fun h2=>?_⟩
   ·simp only [↓wR,RA,simprocAttr,TF,ae,h2,v9,hcs.owner,hzo]
    rw [ca];refine ⟨fun h3=>?_,fun h3=>?_⟩
    ·have h3':eg c.owner z.origin=false:=by simpa using h3
     have hp:xg z c=true:=by simp [xg,e1,h2,h3']
     rw [if_pos hp] at hx
     simp only [↓wR,RA,simprocAttr,TF,ae,h3,m5,hol,hlim,hlim2];repeat (simp (disch:=omega) only [ah,bw,bz,bu,bt];try simp only [↓wR,RA,simprocAttr,TF,ae,h3,m5,hol,hlim,hlim2])
     refine ⟨(i+1,x++[c.owner]),⟨hlt,by simpa using hx,by simp;omega⟩,by simp;omega,by (first|rfl|trivial|omega|((try (simp (disch:=omega) only [ah]));(try (simp only [FB]));first|done|rfl|omega)),by (first|rfl|trivial|omega|((try (simp (disch:=omega) only [ah]));(try (simp only [FB]));first|done|rfl|omega))⟩
    ·have h3':eg c.owner z.origin=true:=by simpa using h3
     have hp:xg z c=false:=by simp [xg,h3']
     rw [hp,if_neg (by decide),List.nil_append] at hx
     simp only [↓wR,RA,simprocAttr,TF,ae,h3];repeat (simp (disch:=omega) only [ah,bw,bz,bu,bt];try simp only [↓wR,RA,simprocAttr,TF,ae,h3])
     exact ⟨(i+1,x),⟨hlt,hx,by show x.length≤i+1;omega⟩,by simp;omega,by (first|rfl|trivial|omega|((try (simp (disch:=omega) only [ah]));(try (simp only [FB]));first|done|rfl|omega)),rfl⟩
   ·have hp:xg z c=false:=by simp [xg,h2]
    rw [hp,if_neg (by decide),List.nil_append] at hx
    simp only [↓wR,RA,simprocAttr,TF,ae,h2];repeat (simp (disch:=omega) only [ah,bw,bz,bu,bt];try simp only [↓wR,RA,simprocAttr,TF,ae,h2])
    exact ⟨(i+1,x),⟨hlt,hx,by show x.length≤i+1;omega⟩,by simp;omega,by (first|rfl|trivial|omega|((try (simp (disch:=omega) only [ah]));(try (simp only [FB]));first|done|rfl|omega)),rfl⟩
  ·have hp:xg z c=false:=by simp [xg,e1]
   rw [hp,if_neg (by decide),List.nil_append] at hx
   simp only [↓wR,RA,simprocAttr,TF,ae,h1];repeat (simp (disch:=omega) only [ah,bw,bz,bu,bt];try simp only [↓wR,RA,simprocAttr,TF,ae,h1])
   exact ⟨(i+1,x),⟨hlt,hx,by show x.length≤i+1;omega⟩,by simp;omega,by (first|rfl|trivial|omega|((try (simp (disch:=omega) only [ah]));(try (simp only [FB]));first|done|rfl|omega)),rfl⟩
 ·rw [en (decide_eq_false h)] at hx
  have hx':x=zd z:=by simpa using hx
  rw [← hx']
  simp only [↓wR,RA,simprocAttr,TF,ae,h]
noncomputable def Mp (x:ay × Unit):Option AV:=if bg x.1 then some ((r1 (cj ai)).E true (zd x.1)) else none
set_option maxRecDepth 2000000 in
theorem aku (x:ay × Unit) (r:AV) (h:Mp x=some r):bb PP 136 ((aC bc a0).E x) r:=by
 by_cases hc:bg x.1
 case neg=>simp only [Mp,if_neg hc] at h;cases h
 simp only [Mp,if_pos hc] at h
 cases h
 exact ar (an.cons (ak wj) (an.cons (ak vj) (an.cons (ak qm) (an.nil PP)))) Tryz.func136 (by kernel_rfl) (by kernel_rfl) (by kernel_rfl) (Nat.le_of_ble_eq_true (by kernel_rfl)) (r1 (cj ai)) true (zd x.1) (aq1 x.1 hc)
noncomputable abbrev azw:Nat × Bool × (List AV→M AV):=(136,true,cg (aC bc a0) Mp)
def Bi (n:Name) (best:Option Name) (m:Name):Option Name:=if (c7 n m && Ar m best)=true then some m else best
theorem anj (n top:Name):Bh n top=(c7 n top && !eg n top):=by
 have e1:(dz top).length=top.length:=by simp [dz]
 have e2:(dz n).length=n.length:=by simp [dz]
 unfold Bh c7 eg
 by_cases hs:dz top <:+ dz n
 ·have hl:=hs.length_le
  rw [decide_eq_true hs,Bool.and_true,Bool.true_and,Bool.eq_iff_iff]
  simp only [decide_eq_true_eq,Bool.not_eq_true',decide_eq_false_iff_not]
  refine ⟨fun h q=>?_,fun h=>?_⟩
  ·have:=congrArg List.length q;omega
  ·rcases Nat.lt_or_ge top.length n.length with q|q
   ·exact q
   ·exact absurd (hs.eq_of_length (by omega)).symm h
 ·rw [decide_eq_false hs,Bool.and_false,Bool.false_and]
theorem as8 (z:ay) (n:Name) (best:Option Name) (s:bj):j6 z n best s=if xg z s=true then Bi n best s.owner else best:=by
 unfold j6 xg Bi
 rw [anj]
 cases decide ((s.type.toNat:Int)=2)<;>cases c7 s.owner z.origin<;>cases eg s.owner z.origin<;>simp
theorem asb (z:ay) (n:Name):k6 z n=(zd z).foldl (Bi n) none:=by
 unfold k6 zd
 generalize (none:Option Name)=b
 induction z.aj generalizing b with
 |nil=>rfl
 |cons s l ih=>
  rw [List.foldl_cons,as8,List.filter_cons]
  split
  ·rw [List.map_cons,List.foldl_cons];exact ih _
  ·exact ih _
def Nd:Option Nat→Int
 |none=>-1
 |some k=>k
theorem ale {z:ay} (hz:bg z):(zd z).length≤16777216∧∀ m ∈ zd z,aw m:=by
 unfold zd
 refine ⟨by rw [List.length_map];exact Nat.le_trans (List.length_filter_le _ _) hz.len,fun m hm=>?_⟩
 obtain ⟨s,hs,rfl⟩:=List.mem_map.1 hm
 exact (hz.aj.mem s (List.mem_filter.1 hs).1).owner
theorem an9 {α β:Type} (f : β → α → β) (b : β) {l:List α} {i:Nat} {c : α} (h:l[i]? = some c):(l.take (i+1)).foldl f b=f ((l.take i).foldl f b) c:=by
 obtain ⟨hi,rfl⟩:=List.getElem?_eq_some_iff.1 h
 rw [List.take_succ_eq_append_getElem hi,List.foldl_append];rfl
theorem awe (z:ay) (n:Name) (hz:bg z) (hn:aw n):wl PP [azw,ma] 0 (Tryz.f86.body.getD .skip) (ct PP Tryz.f86.results.toList (fun r st=>(r2 ai bd).get true st.h r=some ((k6 z n).getD [],(k6 z n).isSome))) (bp 0 [bc.val false z,ai.val false n]) (bf []):=by
 obtain ⟨hL1,hL2⟩:=ale hz
 rw [asb]
 obtain ⟨L,hL⟩:∃ L,L=zd z:=⟨_,rfl⟩
 rw [← hL] at hL1 hL2 ⊢
 unfold Tryz.f86
 simp only [dr,bn]
 simp only [↓wR,RA,simprocAttr,TF,ae,Mp,hz,← hL]
 refine dg [1,6,7,8] (fun (x:Nat × Option Nat)=>[.vl false 1 (n.map (ag.val false)),.vl true 1 (L.map (ai.val true)),.sc (.int .i64 (Nd x.2)),.sc (.int .i64 (x.1))]) (fun _=>[]) (fun x=>x.1≤L.length∧(L.take x.1).foldl (Bi n) none=x.2.bind (fun k=>L[k]?)∧∀ k,x.2=some k→k<L.length) (fun x=>L.length - x.1) (0,none) ⟨Nat.zero_le _,rfl,fun k h=>by cases h⟩ (by simp only [↓wR,RA,simprocAttr,TF,ae]<;>rfl) (by simp only [↓wR,RA,simprocAttr,TF,ae]<;>rfl) ?_
 rintro ⟨i,b⟩ ⟨hi,hx,hb⟩
 simp only at hi hx hb
 simp only [↓wR,RA,simprocAttr,TF,ae]
 rw [be];refine ⟨fun h=>?_,fun h=>?_⟩
 ·obtain ⟨c,hc,hd1,hlt⟩:=dq (decide_eq_true h)
  have hcs:=hL2 c (List.mem_of_getElem? hc)
  have hf:=an9 (Bi n) none hc
  rw [hx] at hf
  simp only [↓wR,RA,simprocAttr,TF,ae,h]
  refine ⟨by kernel_rfl,.inl ?_⟩
  simp only [↓wR,RA,simprocAttr,TF,ae,hc,ud,hn,hcs,bn]
  rw [ca];refine ⟨fun h2=>?_,fun h2=>?_⟩
  ·cases b with
   |none=>
    have hv:(L.take (i+1)).foldl (Bi n) none=(some i).bind (fun k=>L[k]?):=by
     rw [hf]
     show Bi n none c=L[i]?
     unfold Bi Ar
     rw [h2,hc];rfl
    simp only [↓wR,RA,simprocAttr,TF,ae,h2,Nd];repeat (simp (disch:=omega) only [ah,bw,bz,bu,bt];try simp only [↓wR,RA,simprocAttr,TF,ae,h2,Nd])
    exact ⟨by kernel_rfl,(i+1,some i),⟨hlt,hv,fun k e=>by cases e;exact hlt⟩,by simp;omega,by (first|rfl|trivial|omega|((try (simp (disch:=omega) only [ah]));(try (simp only [FB]));first|done|rfl|omega))⟩
   |some k=>
    have hk:=hb k rfl
    obtain ⟨m,hm⟩:∃ m,L[k]? = some m:=⟨_,List.getElem?_eq_getElem hk⟩
    have hf':(L.take (i+1)).foldl (Bi n) none=if c.length<m.length then some c else some m:=by
     rw [hf]
     show Bi n (L[k]?) c=_
     rw [hm]
     unfold Bi Ar
     simp only [h2,Bool.true_and,decide_eq_true_eq]
    have h0:¬ (k:Int)<0:=by omega
    rw [show Nd (some k)=(k:Int) from rfl]
    simp only [↓wR,RA,simprocAttr,TF,ae,h2,hc,hm,bn,h0];repeat (simp (disch:=omega) only [ah,bw,bz,bu,bt];try simp only [↓wR,RA,simprocAttr,TF,ae,h2,hc,hm,bn,h0])
    refine ⟨by kernel_rfl,?_⟩
    rw [be];refine ⟨fun h3=>?_,fun h3=>?_⟩
    ·rw [if_pos (by omega)] at hf'
     simp only [↓wR,RA,simprocAttr,TF,ae,h3];repeat (simp (disch:=omega) only [ah,bw,bz,bu,bt];try simp only [↓wR,RA,simprocAttr,TF,ae,h3])
     exact ⟨(i+1,some i),⟨hlt,by rw [hf'];exact hc.symm,fun k e=>by cases e;exact hlt⟩,by simp;omega,by (first|rfl|trivial|omega|((try (simp (disch:=omega) only [ah]));(try (simp only [FB]));first|done|rfl|omega))⟩
    ·rw [if_neg (by omega)] at hf'
     simp only [↓wR,RA,simprocAttr,TF,ae,h3];repeat (simp (disch:=omega) only [ah,bw,bz,bu,bt];try simp only [↓wR,RA,simprocAttr,TF,ae,h3])
     exact ⟨(i+1,some k),⟨hlt,by rw [hf'];exact hm.symm,hb⟩,by simp;omega,by (first|rfl|trivial|omega|((try (simp (disch:=omega) only [ah]));(try (simp only [FB]));first|done|rfl|omega))⟩
  ·have hv:(L.take (i+1)).foldl (Bi n) none=b.bind (fun k=>L[k]?):=by
    rw [hf];unfold Bi;rw [h2,Bool.false_and,if_neg (by decide)]
   simp only [↓wR,RA,simprocAttr,TF,ae,h2];repeat (simp (disch:=omega) only [ah,bw,bz,bu,bt];try simp only [↓wR,RA,simprocAttr,TF,ae,h2])
   exact ⟨by kernel_rfl,(i+1,b),⟨hlt,hv,hb⟩,by simp;omega,by (first|rfl|trivial|omega|((try (simp (disch:=omega) only [ah]));(try (simp only [FB]));first|done|rfl|omega))⟩
 ·have hil:L.take i=L:=List.take_of_length_le (by omega)
  rw [hil] at hx
  rw [hx]
  simp only [↓wR,RA,simprocAttr,TF,ae,h]
  cases b with
  |none=>
   simp only [↓wR,RA,simprocAttr,TF,ae,Nd]
   try rfl
  |some k=>
   have hk:=hb k rfl
   obtain ⟨m,hm⟩:∃ m,L[k]? = some m:=⟨_,List.getElem?_eq_getElem hk⟩
   rw [show Nd (some k)=(k:Int) from rfl]
   simp only [↓wR,RA,simprocAttr,TF,ae,hm]
   rw [be];refine ⟨fun h3=>?_,fun h3=>?_⟩
   ·exfalso;omega
   simp only [↓wR,RA,simprocAttr,TF,ae,h3,hm,bn]
   try rfl
noncomputable def Ia (x:ay × Name × Unit):Option AV:=if bg x.1∧aw x.2.1 then some ((r2 ai bd).E true (((k6 x.1 x.2.1).getD [],(k6 x.1 x.2.1).isSome))) else none
set_option maxRecDepth 2000000 in
theorem Ya (x:ay × Name × Unit) (r:AV) (h:Ia x=some r):bb PP 86 ((aC bc (aC ai a0)).E x) r:=by
 by_cases hc:bg x.1∧aw x.2.1
 case neg=>simp only [Ia,if_neg hc] at h;cases h
 simp only [Ia,if_pos hc] at h
 cases h
 exact ar (an.cons (ak aku) (an.cons (ak wj) (an.nil PP))) Tryz.func86 (by kernel_rfl) (by kernel_rfl) (by kernel_rfl) (Nat.le_of_ble_eq_true (by kernel_rfl)) (r2 ai bd) true (((k6 x.1 x.2.1).getD [],(k6 x.1 x.2.1).isSome)) (awe x.1 x.2.1 hc.1 hc.2)
noncomputable abbrev ay7:Nat × Bool × (List AV→M AV):=(86,true,cg (aC bc (aC ai a0)) Ia)
theorem awh (z:ay) (n:Name) (hz:bg z) (hn:aw n):wl PP [ma,nl] 0 (Tryz.f88.body.getD .skip) (ct PP Tryz.f88.results.toList (fun r st=>(r1 bd).get true st.h r=some (mi z n))) (bp 0 [bc.val false z,ai.val false n]) (bf []):=by
 have hlen:=hz.len
 have hzo:=hz.origin
 unfold mi
 unfold Tryz.f88
 simp only [dr,bn]
 simp only [↓wR,RA,simprocAttr,TF,ae,ud,hn,hzo]
 rw [ca];refine ⟨fun h1=>?_,fun h1=>?_⟩
 ·have h1':c7 n z.origin=false:=by simpa using h1
  rw [h1']
  simp only [↓wR,RA,simprocAttr,TF,ae,h1]
  try rfl
 have h1':c7 n z.origin=true:=by simpa using h1
 rw [h1',Bool.true_and]
 simp only [↓wR,RA,simprocAttr,TF,ae,h1,v9,hn,hzo]
 rw [ca];refine ⟨fun h2=>?_,fun h2=>?_⟩
 ·rw [h2]
  simp only [↓wR,RA,simprocAttr,TF,ae,h2]
  try rfl
 rw [h2,Bool.false_or]
 simp only [↓wR,RA,simprocAttr,TF,ae,h2]
 refine dg [1,2,5] (fun (i:Nat)=>[.vl false 1 (n.map (ag.val false)),.ptr 0 0,.sc (.int .i64 (i))]) (fun _=>[some (.row [.vl false 1 (z.origin.map (ag.val false)),.vl false 5 (z.aj.map (aq.val false))] 0 2 26)]) (fun i=>i≤z.aj.length∧(z.aj.any fun s=>c7 s.owner n)=((z.aj.drop i).any fun s=>c7 s.owner n)) (fun i=>z.aj.length - i) 0 ⟨Nat.zero_le _,rfl⟩ (by simp only [↓wR,RA,simprocAttr,TF,ae]<;>rfl) (by simp only [↓wR,RA,simprocAttr,TF,ae]<;>rfl) ?_
 rintro i ⟨hi,hx⟩
 simp only [↓wR,RA,simprocAttr,TF,ae]
 rw [be];refine ⟨fun h=>?_,fun h=>?_⟩
 ·obtain ⟨c,hc,hd1,hlt⟩:=dq (decide_eq_true h)
  have hcs:=hz.aj.mem c (List.mem_of_getElem? hc)
  rw [hd1,List.any_cons] at hx
  simp only [↓wR,RA,simprocAttr,TF,ae,h,hc,ud,hcs.owner,hn]
  rw [ca];refine ⟨fun h3=>?_,fun h3=>?_⟩
  ·rw [hx,h3]
   simp only [↓wR,RA,simprocAttr,TF,ae,h3]
   try rfl
  ·rw [h3,Bool.false_or] at hx
   simp only [↓wR,RA,simprocAttr,TF,ae,h3];repeat (simp (disch:=omega) only [ah,bw,bz,bu,bt];try simp only [↓wR,RA,simprocAttr,TF,ae,h3])
   exact ⟨i+1,⟨hlt,hx⟩,by omega,by (first|rfl|trivial|omega|((try (simp (disch:=omega) only [ah]));(try (simp only [FB]));first|done|rfl|omega))⟩
 ·rw [en (decide_eq_false h)] at hx
  rw [hx]
  simp only [↓wR,RA,simprocAttr,TF,ae,h]
  try rfl
noncomputable def Ir (x:ay × Name × Unit):Option AV:=if bg x.1∧aw x.2.1 then some ((r1 bd).E true (mi x.1 x.2.1)) else none
set_option maxRecDepth 2000000 in
theorem Xc (x:ay × Name × Unit) (r:AV) (h:Ir x=some r):bb PP 88 ((aC bc (aC ai a0)).E x) r:=by
 by_cases hc:bg x.1∧aw x.2.1
 case neg=>simp only [Ir,if_neg hc] at h;cases h
 simp only [Ir,if_pos hc] at h
 cases h
 exact ar (an.cons (ak wj) (an.cons (ak vj) (an.nil PP))) Tryz.func88 (by kernel_rfl) (by kernel_rfl) (by kernel_rfl) (Nat.le_of_ble_eq_true (by kernel_rfl)) (r1 bd) true (mi x.1 x.2.1) (awh x.1 x.2.1 hc.1 hc.2)
noncomputable abbrev aw7:Nat × Bool × (List AV→M AV):=(88,true,cg (aC bc (aC ai a0)) Ir)
end Go.Proofs.YtjagjbceegbaiaaGreat
end
