/- A piece of the proof. Proved: where the arguments are together of bulk at most 1048576, the law ZoneTells returns true (what is at a name, what beyond a cut), and what it was given reads afterwards as it did before. No other conditions. -/
import Derived.WalkKit
import Derived.CallsIn
import Derived.RangeFuncIn
import Derived.RangeFuncLeaves
import Derived.Orders
import Derived.OrdersIn
import Derived.Scope
import Derived.RangeFuncOwn
import Derived.Stop.SameAnswer
import Derived.Laws.Externs
import Derived.Lib.Bytealg
import Derived.ProofKit
import Derived.OpenShut
import Derived.ReadAgain
import Derived.Deep.Slices
import Derived.ChangeSame
import Derived.Test.YtgencolcibpcaaaGreatProg
import Derived.KernelRfl
import Derived.Test.YtgencolcibpcaaaGreatRows
import Derived.Maps.RangeRun
import Derived.JoinedCond
import Derived.Test.YtgencolcibpcaaaGreatL3
set_option linter.unusedSimpArgs false
set_option linter.unusedVariables false
set_option linter.unusedSectionVars false
section
namespace Go.Proofs.YtgencolcibpcaaaGreat
open Go.Vm
set_option maxRecDepth 2000000
def c9 (b:Bool) (err e:Int):Int:=if e=0∧b=false then err else e
def fm (err:Int) (p:Nat→bf→Bool):Nat→List bf→Int→Int
 |_,[],e=>e
 |i,s::r,e=>if e≠0 then e else fm err p (i+1) r (c9 (p i s) err e)
def jv (l:List bf):Nat:=l.foldl (fun n s=>n+s.data.length) 0
noncomputable def mo:List bf→Int→Int
 | [],e=>e
 |s::r,e=>mo r (if e=0 then jr s else e)
noncomputable def ni (z:be):Int:=if dm z.origin≠0 then dm z.origin else mo z.ah (c9 (decide (jv z.ah≤2048)) 3 0)
def Gw (z:be) (l:List bf):Bool:=l.any fun s=>decide ((s.type.toNat:Int)=2) && fg s.owner z.origin
def gq (z:be):Bool:=Gw z z.ah
theorem adw {z:be} {l:List bf} {i:Nat} {c:bf} (h:l.drop i=c::l.drop (i+1)):Gw z (l.drop i)=((decide ((c.type.toNat:Int)=2) && fg c.owner z.origin) || Gw z (l.drop (i+1))):=by rw [h];rfl
noncomputable def vn (z:be):Int:=fm 260 (fu z) 0 z.ah (ni z)
noncomputable def De (z:be):Int:=fm 261 (fun _ s=>ji s) 0 z.ah (vn z)
noncomputable def np (z:be):Int:=fm 262 (fun _ s=>eg s.owner z.origin) 0 z.ah (De z)
noncomputable def kf (z:be):Int:=c9 (decide ((fp z).1=1) && decide ((fp z).2=1)) 263 (np z)
noncomputable def vu (z:be):Int:=c9 (gq z) 264 (kf z)
noncomputable def vr (z:be):Int:=fm 265 (i5 z) 0 z.ah (vu z)
noncomputable def Bu (z:be):Int:=fm 266 (fun _ s=>iz s) 0 z.ah (vr z)
noncomputable def Rx (z:be):Int:=fm 267 (fun _ s=>ki z s) 0 z.ah (Bu z)
noncomputable def lj (z:be):Int:=if ni z≠0 then ni z else Rx z
theorem Ku (l:List bf) (i:Nat) (c:bf) (h:l[i]? = some c):jv (l.take (i+1))=jv (l.take i)+c.data.length:=by
 obtain ⟨hk,rfl⟩:=List.getElem?_eq_some_iff.1 h
 rw [List.take_succ_eq_append_getElem hk];simp only [jv,List.foldl_append,List.foldl_cons,List.foldl_nil]
theorem Yw (l:List bf):∀ k,l.foldl (fun n s=>n+s.data.length) k≤k+ik nl l:=by
 induction l with
 |nil=>intro k;exact Nat.le_refl _
 |cons a l ih=>
  intro k
  have h1:=ih (k+a.data.length)
  have h2:=zt xw a.data
  simp only [ik,List.foldr_cons,List.foldl_cons,nl] at h1 ⊢
  unfold ik at h2
  omega
theorem H7 (l:List bf):jv l≤ik nl l:=by have:=Yw l 0;unfold jv;omega
theorem acr {l:List bf} {i:Nat} {c:bf} (h:l.drop i=c::l.drop (i+1)) (e:Int):mo (l.drop i) e=mo (l.drop (i+1)) (if e=0 then jr c else e):=by rw [h];rfl
theorem ru {l:List bf} {i:Nat} {c:bf} (h:l.drop i=c::l.drop (i+1)) (err:Int) (p:Nat→bf→Bool) (e:Int):fm err p i (l.drop i) e=if e≠0 then e else fm err p (i+1) (l.drop (i+1)) (c9 (p i c) err e):=by rw [h];rfl
set_option maxHeartbeats 4000000 in
theorem aas (z:be) (hz:bq z):wl PP [ew,fc,fw,jj,jl,jg,ig,kl,nm,ko] 0 (Tryz.f27.body.getD .skip) (db PP Tryz.f27.results.toList (fun r st=>(r1 (ba .i64)).get true st.h r=some (lj z))) (cd 0 [ca.val false z]) (bk []):=by
 have hl:=hz.len
 have ok:ak PP [ew,fc,fw,jj,jl,jg,ig,kl,nm,ko]:=ak.cons (aj rh) (ak.cons (aj n6) (ak.cons (aj B2) (ak.cons (aj M2) (ak.cons (aj M6) (ak.cons (aj Nr) (ak.cons (aj Jd) (ak.cons (aj Sp) (ak.cons (aj Wh) (ak.cons (aj Py) (ak.nil PP))))))))))
 unfold Tryz.f27
 simp only [fi]
 simp only [↓wR,RA,simprocAttr,TF,ae]
 refine er (fun r st'=>r = .ga []∧st'=bk [some (.row [.vl false 1 (z.origin.map (ai.val false)),.vl false 5 (z.ah.map (ar.val false))] 0 2 41),some (.row [.vl false 1 (z.origin.map (ai.val false)),.vl false 5 (z.ah.map (ar.val false)),.sc (.int .i64 (ni z))] 0 2 111)]) rfl ?_ ?_
 ·refine c8 (T:=[ew,fc,fw,jj,jl,jg,ig,kl,nm,ko]) ok mixed Tryz.func75 rfl (by kernel_rfl) (by kernel_rfl) (by kernel_rfl) (by kernel_rfl) ?_;unfold Tryz.f75
  simp only [↓wR,RA,simprocAttr,TF,ae,pq,hz.origin.fit]
  unfold ni
  rw [cy];refine ⟨fun h=>?_,fun h=>?_⟩
  ·have he:dm z.origin≠0:=by simpa using h
   rw [if_pos he]
   simp only [↓wR,RA,simprocAttr,TF,ae,h,jf,jb,iq]
  have he:dm z.origin=0:=by simpa using h
  rw [if_neg (by omega)]
  simp only [↓wR,RA,simprocAttr,TF,ae,h,he]
  refine dp [0,2,25,26,27] (fun (i:Nat)=>[.ptr 1 0,.sc (.int .i64 (jv (z.ah.take i))),.vl false 5 (z.ah.map (ar.val false)),.sc (.int .i64 (z.ah.length)),.sc (.int .i64 (i))]) (fun _=>[some (.row [.vl false 1 (z.origin.map (ai.val false)),.vl false 5 (z.ah.map (ar.val false))] 0 2 41),some (.row [.vl false 1 (z.origin.map (ai.val false)),.vl false 5 (z.ah.map (ar.val false)),.sc (.int .i64 (0))] 0 2 111)]) (fun i=>i≤z.ah.length) (fun i=>z.ah.length - i) 0 (Nat.zero_le _) (by simp only [↓wR,RA,simprocAttr,TF,ae]<;>rfl) (by simp only [↓wR,RA,simprocAttr,TF,ae]<;>rfl) ?_
  clear h
  intro i hi
  have hsum:=H7 (z.ah.take i)
  have hsum2:=Pe nl z.ah i
  have hzz:ik nl z.ah≤16777216:=by unfold bq Ig at hz;omega
  simp only [↓wR,RA,simprocAttr,TF,ae]
  rw [bb];refine ⟨fun h=>?_,fun h=>?_⟩
  ·obtain ⟨c,hc,hd1,hlt⟩:=dq (decide_eq_true h)
   have hst:=Ku z.ah i c hc
   have hcl:=(hz.set c (List.mem_of_getElem? hc)).data.len
   simp only [↓wR,RA,simprocAttr,TF,ae,h,hc];repeat (simp (disch:=omega) only [ag,bz,b9,bu,bw];try simp only [↓wR,RA,simprocAttr,TF,ae,h,hc])
   exact ⟨i+1,hlt,by omega,by rw [hst];(first|rfl|trivial|omega|((try (simp (disch:=omega) only [ag]));(try (simp only [FB]));first|done|rfl|omega))⟩
  have hin:i=z.ah.length:=by omega
  rw [hin,List.take_length] at hsum ⊢
  simp only [↓wR,RA,simprocAttr,TF,ae,h]
  have hd:decide ((jv z.ah:Int)≤2048)=decide (jv z.ah≤2048):=by rw [decide_eq_decide];omega
  rw [hd]
  refine er (fun r st'=>r = .ga []∧st'=bk [some (.row [.vl false 1 (z.origin.map (ai.val false)),.vl false 5 (z.ah.map (ar.val false))] 0 2 41),some (.row [.vl false 1 (z.origin.map (ai.val false)),.vl false 5 (z.ah.map (ar.val false)),.sc (.int .i64 (c9 (decide (jv z.ah≤2048)) 3 (0)))] 0 2 111)]) rfl ?_ ?_
  ·refine c8 (T:=[ew,fc,fw,jj,jl,jg,ig,kl,nm,ko]) ok mixed Tryz.func81 rfl (by kernel_rfl) (by kernel_rfl) (by kernel_rfl) (by kernel_rfl) ?_;unfold Tryz.f81
   simp only [↓wR,RA,simprocAttr,TF,ae]
   rw [cy];refine ⟨fun hn2=>?_,fun hn2=>?_⟩
   ·have hb:(decide (jv z.ah≤2048))=false:=by simpa only [Bool.not_eq_true'] using hn2
    have hv:c9 (decide (jv z.ah≤2048)) 3 (0)=3:=by unfold c9;rw [if_pos ⟨rfl,hb⟩]
    simp only [↓wR,RA,simprocAttr,TF,ae,hn2,jf,jb,iq]
    try rw [hv]
   ·have hb:(decide (jv z.ah≤2048))=true:=by simpa only [Bool.not_eq_false'] using hn2
    have hv:c9 (decide (jv z.ah≤2048)) 3 (0)=0:=by unfold c9;rw [if_neg (fun q=>by rw [hb] at q;cases q.2)]
    simp only [↓wR,RA,simprocAttr,TF,ae,hn2,jf,jb,iq]
    try rw [hv]
  rintro _ _ ⟨rfl,rfl⟩
  simp only [↓wR,RA,simprocAttr,TF,ae,il]
  refine dp [0,45,46,47] (fun (x:Nat × Int)=>[.ptr 1 0,.vl false 5 (z.ah.map (ar.val false)),.sc (.int .i64 (z.ah.length)),.sc (.int .i64 (x.1))]) (fun x=>[some (.row [.vl false 1 (z.origin.map (ai.val false)),.vl false 5 (z.ah.map (ar.val false))] 0 2 41),some (.row [.vl false 1 (z.origin.map (ai.val false)),.vl false 5 (z.ah.map (ar.val false)),.sc (.int .i64 (x.2))] 0 2 111)]) (fun x=>x.1≤z.ah.length∧mo z.ah (c9 (decide (jv z.ah≤2048)) 3 0)=mo (z.ah.drop x.1) x.2) (fun x=>z.ah.length - x.1) (0,c9 (decide (jv z.ah≤2048)) 3 0) ⟨Nat.zero_le _,rfl⟩ (by simp only [↓wR,RA,simprocAttr,TF,ae]<;>rfl) (by simp only [↓wR,RA,simprocAttr,TF,ae]<;>rfl) ?_
  clear h hi hin hd
  rintro ⟨i,e⟩ ⟨hi,hx⟩
  simp only at hi hx
  simp only [↓wR,RA,simprocAttr,TF,ae]
  rw [bb];refine ⟨fun h=>?_,fun h=>?_⟩
  ·obtain ⟨c,hc,hd1,hlt⟩:=dq (decide_eq_true h)
   rw [acr hd1] at hx
   have hcs:=hz.set c (List.mem_of_getElem? hc)
   simp only [↓wR,RA,simprocAttr,TF,ae,h,hc]
   rw [cj];refine ⟨fun ⟨h1,e1⟩=>?_,fun ⟨h1,e1⟩=>?_⟩
   ·rw [if_pos e1] at hx
    simp only [↓wR,RA,simprocAttr,TF,ae,h1,tp,hcs];repeat (simp (disch:=omega) only [ag,bz,b9,bu,bw];try simp only [↓wR,RA,simprocAttr,TF,ae,h1,tp,hcs])
    exact ⟨(i+1,jr c),⟨hlt,hx⟩,by simp;omega,by (first|rfl|trivial|omega|((try (simp (disch:=omega) only [ag]));(try (simp only [FB]));first|done|rfl|omega)),by (first|rfl|trivial|omega|((try (simp (disch:=omega) only [ag]));(try (simp only [FB]));first|done|rfl|omega))⟩
   ·rw [if_neg e1] at hx
    simp only [↓wR,RA,simprocAttr,TF,ae,h1];repeat (simp (disch:=omega) only [ag,bz,b9,bu,bw];try simp only [↓wR,RA,simprocAttr,TF,ae,h1])
    exact ⟨(i+1,e),⟨hlt,hx⟩,by simp;omega,by (first|rfl|trivial|omega|((try (simp (disch:=omega) only [ag]));(try (simp only [FB]));first|done|rfl|omega)),by (first|rfl|trivial|omega|((try (simp (disch:=omega) only [ag]));(try (simp only [FB]));first|done|rfl|omega))⟩
  ·rw [en (decide_eq_false h)] at hx
   simp only [↓wR,RA,simprocAttr,TF,ae,h,jf,jb,iq]
   rw [hx];rfl
 rintro _ _ ⟨rfl,rfl⟩
 simp only [↓wR,RA,simprocAttr,TF,ae,il]
 unfold lj
 rw [cy];refine ⟨fun h=>?_,fun h=>?_⟩
 ·have he:ni z≠0:=by simpa using h
  rw [if_pos he]
  simp only [↓wR,RA,simprocAttr,TF,ae,h]
 have he:ni z=0:=by simpa using h
 rw [if_neg (by omega)]
 simp only [↓wR,RA,simprocAttr,TF,ae,h]
 clear h he
 obtain ⟨e0,he0⟩:∃ e0,ni z=e0:=⟨_,rfl⟩
 rw [he0]
 refine er (fun r st'=>r = .ga []∧st'=bk [some (.row [.vl false 1 (z.origin.map (ai.val false)),.vl false 5 (z.ah.map (ar.val false))] 0 2 41),some (.row [.vl false 1 (z.origin.map (ai.val false)),.vl false 5 (z.ah.map (ar.val false)),.sc (.int .i64 (fm 260 (fu z) 0 z.ah e0))] 0 2 111)]) rfl ?_ ?_
 ·refine c8 (T:=[ew,fc,fw,jj,jl,jg,ig,kl,nm,ko]) ok mixed Tryz.func76 rfl (by kernel_rfl) (by kernel_rfl) (by kernel_rfl) (by kernel_rfl) ?_;unfold Tryz.f76
  simp only [↓wR,RA,simprocAttr,TF,ae]
  refine dp [0,1,2,12,13,14] (fun (x:Nat × Int)=>[.ptr 1 0,.sc (.int .i64 (260)),.fn (.func 77) [.ptr 1 0] [],.vl false 5 (z.ah.map (ar.val false)),.sc (.int .i64 (z.ah.length)),.sc (.int .i64 (x.1))]) (fun x=>[some (.row [.vl false 1 (z.origin.map (ai.val false)),.vl false 5 (z.ah.map (ar.val false))] 0 2 41),some (.row [.vl false 1 (z.origin.map (ai.val false)),.vl false 5 (z.ah.map (ar.val false)),.sc (.int .i64 (x.2))] 0 2 111)]) (fun x=>x.1≤z.ah.length∧fm 260 (fu z) 0 z.ah e0=fm 260 (fu z) x.1 (z.ah.drop x.1) x.2) (fun x=>z.ah.length - x.1) (0,e0) ⟨Nat.zero_le _,rfl⟩ (by simp only [↓wR,RA,simprocAttr,TF,ae]<;>rfl) (by simp only [↓wR,RA,simprocAttr,TF,ae]<;>rfl) ?_
  rintro ⟨i,e⟩ ⟨hi,hx⟩
  simp only at hi hx
  simp only [↓wR,RA,simprocAttr,TF,ae]
  rw [bb];refine ⟨fun h=>?_,fun h=>?_⟩
  ·obtain ⟨c,hc,hd1,hlt⟩:=dq (decide_eq_true h)
   rw [ru hd1] at hx
   have hcs:=hz.set c (List.mem_of_getElem? hc)
   have hi2:(0:Int)≤i∧(i:Int)≤z.ah.length:=by omega
   simp only [↓wR,RA,simprocAttr,TF,ae,h,hc]
   rw [de];refine ⟨fun ⟨h1,e1⟩=>?_,fun ⟨h1,e1⟩=>?_⟩
   ·rw [if_pos e1] at hx
    simp only [↓wR,RA,simprocAttr,TF,ae,h1,jf,jb,iq]
    rw [hx]
   ·rw [if_neg (by omega)] at hx
    simp only [↓wR,RA,simprocAttr,TF,ae,h1,hcs,hz,hi2,Gk]
    refine er (fun r st'=>r = .ga []∧st'=bk [some (.row [.vl false 1 (z.origin.map (ai.val false)),.vl false 5 (z.ah.map (ar.val false))] 0 2 41),some (.row [.vl false 1 (z.origin.map (ai.val false)),.vl false 5 (z.ah.map (ar.val false)),.sc (.int .i64 (c9 ((fu z) i c) 260 e))] 0 2 111),some (.row [.vl false 1 (c.owner.map (ai.val false)),.sc (.int .u16 c.type.toNat),.sc (.int .u16 c.cls.toNat),.sc (.int .u32 c.gm.toNat),.vl false 4 (c.data.map (ay.val false))] 0 2 31)]) rfl ?_ ?_
    ·refine c8 (T:=[ew,fc,fw,jj,jl,jg,ig,kl,nm,ko]) ok mixed Tryz.func81 rfl (by kernel_rfl) (by kernel_rfl) (by kernel_rfl) (by kernel_rfl) ?_;unfold Tryz.f81
     simp only [↓wR,RA,simprocAttr,TF,ae,e1]
     rw [cy];refine ⟨fun hn2=>?_,fun hn2=>?_⟩
     ·have hb:((fu z) i c)=false:=by simpa only [Bool.not_eq_true'] using hn2
      have hv:c9 ((fu z) i c) 260 0=260:=by unfold c9;rw [if_pos ⟨rfl,hb⟩]
      simp only [↓wR,RA,simprocAttr,TF,ae,hn2,jf,jb,iq]
      try rw [hv]
     ·have hb:((fu z) i c)=true:=by simpa only [Bool.not_eq_false'] using hn2
      have hv:c9 ((fu z) i c) 260 0=0:=by unfold c9;rw [if_neg (fun q=>by rw [hb] at q;cases q.2)]
      simp only [↓wR,RA,simprocAttr,TF,ae,hn2,jf,jb,iq]
      try rw [hv]
    rintro _ _ ⟨rfl,rfl⟩
    simp only [↓wR,RA,simprocAttr,TF,ae,il];repeat (simp (disch:=omega) only [ag,bz,b9,bu,bw];try simp only [↓wR,RA,simprocAttr,TF,ae,il])
    exact ⟨(i+1,c9 ((fu z) i c) 260 e),⟨hlt,hx⟩,by simp;omega,by (first|rfl|trivial|omega|((try (simp (disch:=omega) only [ag]));(try (simp only [FB]));first|done|rfl|omega)),by (first|rfl|trivial|omega|((try (simp (disch:=omega) only [ag]));(try (simp only [FB]));first|done|rfl|omega))⟩
  ·rw [en (decide_eq_false h)] at hx
   simp only [↓wR,RA,simprocAttr,TF,ae,h,jf,jb,iq]
   rw [hx];rfl
 rintro _ _ ⟨rfl,rfl⟩
 rw [← he0]
 clear he0
 simp only [↓wR,RA,simprocAttr,TF,ae,il]
 rw [show fm 260 (fu z) 0 z.ah (ni z)=vn z from rfl]
 obtain ⟨e0,he0⟩:∃ e0,vn z=e0:=⟨_,rfl⟩
 rw [he0]
 refine er (fun r st'=>r = .ga []∧st'=bk [some (.row [.vl false 1 (z.origin.map (ai.val false)),.vl false 5 (z.ah.map (ar.val false))] 0 2 41),some (.row [.vl false 1 (z.origin.map (ai.val false)),.vl false 5 (z.ah.map (ar.val false)),.sc (.int .i64 (fm 261 (fun _ s=>ji s) 0 z.ah e0))] 0 2 111)]) rfl ?_ ?_
 ·refine c8 (T:=[ew,fc,fw,jj,jl,jg,ig,kl,nm,ko]) ok mixed Tryz.func76 rfl (by kernel_rfl) (by kernel_rfl) (by kernel_rfl) (by kernel_rfl) ?_;unfold Tryz.f76
  simp only [↓wR,RA,simprocAttr,TF,ae]
  refine dp [0,1,2,12,13,14] (fun (x:Nat × Int)=>[.ptr 1 0,.sc (.int .i64 (261)),.sc (.func (.func 78) #[] #[]),.vl false 5 (z.ah.map (ar.val false)),.sc (.int .i64 (z.ah.length)),.sc (.int .i64 (x.1))]) (fun x=>[some (.row [.vl false 1 (z.origin.map (ai.val false)),.vl false 5 (z.ah.map (ar.val false))] 0 2 41),some (.row [.vl false 1 (z.origin.map (ai.val false)),.vl false 5 (z.ah.map (ar.val false)),.sc (.int .i64 (x.2))] 0 2 111)]) (fun x=>x.1≤z.ah.length∧fm 261 (fun _ s=>ji s) 0 z.ah e0=fm 261 (fun _ s=>ji s) x.1 (z.ah.drop x.1) x.2) (fun x=>z.ah.length - x.1) (0,e0) ⟨Nat.zero_le _,rfl⟩ (by simp only [↓wR,RA,simprocAttr,TF,ae]<;>rfl) (by simp only [↓wR,RA,simprocAttr,TF,ae]<;>rfl) ?_
  rintro ⟨i,e⟩ ⟨hi,hx⟩
  simp only at hi hx
  simp only [↓wR,RA,simprocAttr,TF,ae]
  rw [bb];refine ⟨fun h=>?_,fun h=>?_⟩
  ·obtain ⟨c,hc,hd1,hlt⟩:=dq (decide_eq_true h)
   rw [ru hd1] at hx
   have hcs:=hz.set c (List.mem_of_getElem? hc)
   have hi2:(0:Int)≤i∧(i:Int)≤z.ah.length:=by omega
   simp only [↓wR,RA,simprocAttr,TF,ae,h,hc]
   rw [de];refine ⟨fun ⟨h1,e1⟩=>?_,fun ⟨h1,e1⟩=>?_⟩
   ·rw [if_pos e1] at hx
    simp only [↓wR,RA,simprocAttr,TF,ae,h1,jf,jb,iq]
    rw [hx]
   ·rw [if_neg (by omega)] at hx
    simp only [↓wR,RA,simprocAttr,TF,ae,h1,hcs,hz,hi2,Tg]
    refine er (fun r st'=>r = .ga []∧st'=bk [some (.row [.vl false 1 (z.origin.map (ai.val false)),.vl false 5 (z.ah.map (ar.val false))] 0 2 41),some (.row [.vl false 1 (z.origin.map (ai.val false)),.vl false 5 (z.ah.map (ar.val false)),.sc (.int .i64 (c9 ((fun _ s=>ji s) i c) 261 e))] 0 2 111),some (.row [.vl false 1 (c.owner.map (ai.val false)),.sc (.int .u16 c.type.toNat),.sc (.int .u16 c.cls.toNat),.sc (.int .u32 c.gm.toNat),.vl false 4 (c.data.map (ay.val false))] 0 2 31)]) rfl ?_ ?_
    ·refine c8 (T:=[ew,fc,fw,jj,jl,jg,ig,kl,nm,ko]) ok mixed Tryz.func81 rfl (by kernel_rfl) (by kernel_rfl) (by kernel_rfl) (by kernel_rfl) ?_;unfold Tryz.f81
     simp only [↓wR,RA,simprocAttr,TF,ae,e1]
     rw [cy];refine ⟨fun hn2=>?_,fun hn2=>?_⟩
     ·have hb:((fun _ s=>ji s) i c)=false:=by simpa only [Bool.not_eq_true'] using hn2
      have hv:c9 ((fun _ s=>ji s) i c) 261 0=261:=by unfold c9;rw [if_pos ⟨rfl,hb⟩]
      simp only [↓wR,RA,simprocAttr,TF,ae,hn2,jf,jb,iq]
      try rw [hv]
     ·have hb:((fun _ s=>ji s) i c)=true:=by simpa only [Bool.not_eq_false'] using hn2
      have hv:c9 ((fun _ s=>ji s) i c) 261 0=0:=by unfold c9;rw [if_neg (fun q=>by rw [hb] at q;cases q.2)]
      simp only [↓wR,RA,simprocAttr,TF,ae,hn2,jf,jb,iq]
      try rw [hv]
    rintro _ _ ⟨rfl,rfl⟩
    simp only [↓wR,RA,simprocAttr,TF,ae,il];repeat (simp (disch:=omega) only [ag,bz,b9,bu,bw];try simp only [↓wR,RA,simprocAttr,TF,ae,il])
    exact ⟨(i+1,c9 ((fun _ s=>ji s) i c) 261 e),⟨hlt,hx⟩,by simp;omega,by (first|rfl|trivial|omega|((try (simp (disch:=omega) only [ag]));(try (simp only [FB]));first|done|rfl|omega)),by (first|rfl|trivial|omega|((try (simp (disch:=omega) only [ag]));(try (simp only [FB]));first|done|rfl|omega))⟩
  ·rw [en (decide_eq_false h)] at hx
   simp only [↓wR,RA,simprocAttr,TF,ae,h,jf,jb,iq]
   rw [hx];rfl
 rintro _ _ ⟨rfl,rfl⟩
 rw [← he0]
 clear he0
 simp only [↓wR,RA,simprocAttr,TF,ae,il]
 rw [show fm 261 (fun _ s=>ji s) 0 z.ah (vn z)=De z from rfl]
 obtain ⟨e0,he0⟩:∃ e0,De z=e0:=⟨_,rfl⟩
 rw [he0]
 refine er (fun r st'=>r = .ga []∧st'=bk [some (.row [.vl false 1 (z.origin.map (ai.val false)),.vl false 5 (z.ah.map (ar.val false))] 0 2 41),some (.row [.vl false 1 (z.origin.map (ai.val false)),.vl false 5 (z.ah.map (ar.val false)),.sc (.int .i64 (fm 262 (fun _ s=>eg s.owner z.origin) 0 z.ah e0))] 0 2 111)]) rfl ?_ ?_
 ·refine c8 (T:=[ew,fc,fw,jj,jl,jg,ig,kl,nm,ko]) ok mixed Tryz.func76 rfl (by kernel_rfl) (by kernel_rfl) (by kernel_rfl) (by kernel_rfl) ?_;unfold Tryz.f76
  simp only [↓wR,RA,simprocAttr,TF,ae]
  refine dp [0,1,2,12,13,14] (fun (x:Nat × Int)=>[.ptr 1 0,.sc (.int .i64 (262)),.fn (.func 79) [] [.ptr 0 0],.vl false 5 (z.ah.map (ar.val false)),.sc (.int .i64 (z.ah.length)),.sc (.int .i64 (x.1))]) (fun x=>[some (.row [.vl false 1 (z.origin.map (ai.val false)),.vl false 5 (z.ah.map (ar.val false))] 0 2 41),some (.row [.vl false 1 (z.origin.map (ai.val false)),.vl false 5 (z.ah.map (ar.val false)),.sc (.int .i64 (x.2))] 0 2 111)]) (fun x=>x.1≤z.ah.length∧fm 262 (fun _ s=>eg s.owner z.origin) 0 z.ah e0=fm 262 (fun _ s=>eg s.owner z.origin) x.1 (z.ah.drop x.1) x.2) (fun x=>z.ah.length - x.1) (0,e0) ⟨Nat.zero_le _,rfl⟩ (by simp only [↓wR,RA,simprocAttr,TF,ae]<;>rfl) (by simp only [↓wR,RA,simprocAttr,TF,ae]<;>rfl) ?_
  rintro ⟨i,e⟩ ⟨hi,hx⟩
  simp only at hi hx
  simp only [↓wR,RA,simprocAttr,TF,ae]
  rw [bb];refine ⟨fun h=>?_,fun h=>?_⟩
  ·obtain ⟨c,hc,hd1,hlt⟩:=dq (decide_eq_true h)
   rw [ru hd1] at hx
   have hcs:=hz.set c (List.mem_of_getElem? hc)
   have hi2:(0:Int)≤i∧(i:Int)≤z.ah.length:=by omega
   simp only [↓wR,RA,simprocAttr,TF,ae,h,hc]
   rw [de];refine ⟨fun ⟨h1,e1⟩=>?_,fun ⟨h1,e1⟩=>?_⟩
   ·rw [if_pos e1] at hx
    simp only [↓wR,RA,simprocAttr,TF,ae,h1,jf,jb,iq]
    rw [hx]
   ·rw [if_neg (by omega)] at hx
    simp only [↓wR,RA,simprocAttr,TF,ae,h1,hcs,hz,hi2,Dy]
    refine er (fun r st'=>r = .ga []∧st'=bk [some (.row [.vl false 1 (z.origin.map (ai.val false)),.vl false 5 (z.ah.map (ar.val false))] 0 2 41),some (.row [.vl false 1 (z.origin.map (ai.val false)),.vl false 5 (z.ah.map (ar.val false)),.sc (.int .i64 (c9 ((fun _ s=>eg s.owner z.origin) i c) 262 e))] 0 2 111),some (.row [.vl false 1 (c.owner.map (ai.val false)),.sc (.int .u16 c.type.toNat),.sc (.int .u16 c.cls.toNat),.sc (.int .u32 c.gm.toNat),.vl false 4 (c.data.map (ay.val false))] 0 2 31)]) rfl ?_ ?_
    ·refine c8 (T:=[ew,fc,fw,jj,jl,jg,ig,kl,nm,ko]) ok mixed Tryz.func81 rfl (by kernel_rfl) (by kernel_rfl) (by kernel_rfl) (by kernel_rfl) ?_;unfold Tryz.f81
     simp only [↓wR,RA,simprocAttr,TF,ae,e1]
     rw [cy];refine ⟨fun hn2=>?_,fun hn2=>?_⟩
     ·have hb:((fun _ s=>eg s.owner z.origin) i c)=false:=by simpa only [Bool.not_eq_true'] using hn2
      have hv:c9 ((fun _ s=>eg s.owner z.origin) i c) 262 0=262:=by unfold c9;rw [if_pos ⟨rfl,hb⟩]
      simp only [↓wR,RA,simprocAttr,TF,ae,hn2,jf,jb,iq]
      try rw [hv]
     ·have hb:((fun _ s=>eg s.owner z.origin) i c)=true:=by simpa only [Bool.not_eq_false'] using hn2
      have hv:c9 ((fun _ s=>eg s.owner z.origin) i c) 262 0=0:=by unfold c9;rw [if_neg (fun q=>by rw [hb] at q;cases q.2)]
      simp only [↓wR,RA,simprocAttr,TF,ae,hn2,jf,jb,iq]
      try rw [hv]
    rintro _ _ ⟨rfl,rfl⟩
    simp only [↓wR,RA,simprocAttr,TF,ae,il];repeat (simp (disch:=omega) only [ag,bz,b9,bu,bw];try simp only [↓wR,RA,simprocAttr,TF,ae,il])
    exact ⟨(i+1,c9 ((fun _ s=>eg s.owner z.origin) i c) 262 e),⟨hlt,hx⟩,by simp;omega,by (first|rfl|trivial|omega|((try (simp (disch:=omega) only [ag]));(try (simp only [FB]));first|done|rfl|omega)),by (first|rfl|trivial|omega|((try (simp (disch:=omega) only [ag]));(try (simp only [FB]));first|done|rfl|omega))⟩
  ·rw [en (decide_eq_false h)] at hx
   simp only [↓wR,RA,simprocAttr,TF,ae,h,jf,jb,iq]
   rw [hx];rfl
 rintro _ _ ⟨rfl,rfl⟩
 rw [← he0]
 clear he0
 simp only [↓wR,RA,simprocAttr,TF,ae,il,K8,hz]
 rw [show fm 262 (fun _ s=>eg s.owner z.origin) 0 z.ah (De z)=np z from rfl]
 rw [cj];refine ⟨fun ⟨hs1,es1⟩=>?_,fun ⟨hs1,es1⟩=>?_⟩
 ·simp only [↓wR,RA,simprocAttr,TF,ae,hs1]
  rw [show (((fp z).2:Int) == 1)=(decide ((fp z).1=1) && decide ((fp z).2=1)) from by rw [decide_eq_true (show (fp z).1=1 by omega),Bool.true_and,Bool.eq_iff_iff];simp;omega]
  refine er (fun r st'=>r = .ga []∧st'=bk [some (.row [.vl false 1 (z.origin.map (ai.val false)),.vl false 5 (z.ah.map (ar.val false))] 0 2 41),some (.row [.vl false 1 (z.origin.map (ai.val false)),.vl false 5 (z.ah.map (ar.val false)),.sc (.int .i64 (c9 (decide ((fp z).1=1) && decide ((fp z).2=1)) 263 (np z)))] 0 2 111)]) rfl ?_ ?_
  ·refine c8 (T:=[ew,fc,fw,jj,jl,jg,ig,kl,nm,ko]) ok mixed Tryz.func81 rfl (by kernel_rfl) (by kernel_rfl) (by kernel_rfl) (by kernel_rfl) ?_;unfold Tryz.f81
   simp only [↓wR,RA,simprocAttr,TF,ae]
   rw [cj];refine ⟨fun ⟨hn1,en1⟩=>?_,fun ⟨hn1,en1⟩=>?_⟩
   ·simp only [↓wR,RA,simprocAttr,TF,ae,hn1]
    rw [cy];refine ⟨fun hn2=>?_,fun hn2=>?_⟩
    ·have hb:(decide ((fp z).1=1) && decide ((fp z).2=1))=false:=by simpa only [Bool.not_eq_true'] using hn2
     have hv:c9 (decide ((fp z).1=1) && decide ((fp z).2=1)) 263 (np z)=263:=by unfold c9;rw [if_pos ⟨en1,hb⟩]
     simp only [↓wR,RA,simprocAttr,TF,ae,hn1,hn2,jf,jb,iq]
     try rw [hv]
    ·have hb:(decide ((fp z).1=1) && decide ((fp z).2=1))=true:=by simpa only [Bool.not_eq_false'] using hn2
     have hv:c9 (decide ((fp z).1=1) && decide ((fp z).2=1)) 263 (np z)=np z:=by unfold c9;rw [if_neg (fun q=>by rw [hb] at q;cases q.2)]
     simp only [↓wR,RA,simprocAttr,TF,ae,hn1,hn2,jf,jb,iq]
     try rw [hv]
   ·have hv:c9 (decide ((fp z).1=1) && decide ((fp z).2=1)) 263 (np z)=np z:=by unfold c9;rw [if_neg (fun q=>en1 q.1)]
    simp only [↓wR,RA,simprocAttr,TF,ae,hn1,jf,jb,iq]
    try rw [hv]
  rintro _ _ ⟨rfl,rfl⟩
  rw [show c9 (decide ((fp z).1=1) && decide ((fp z).2=1)) 263 (np z)=kf z from rfl]
  simp only [↓wR,RA,simprocAttr,TF,ae,il]
  refine c8 (T:=[]) (ak.nil PP) mixed Tryz.func70 rfl (by kernel_rfl) (by kernel_rfl) (by kernel_rfl) (by kernel_rfl) ?_;unfold Tryz.f70
  simp only [↓wR,RA,simprocAttr,TF,ae]
  refine ⟨[1,3,6,45],?_⟩
  have hib:xq PP 120=some (Tryz.f120.ntmps,Tryz.f120.body.getD .skip):=by kernel_rfl
  simp only [↓wR,RA,simprocAttr,TF,ae,hib]
  refine ⟨by kernel_rfl,fun l=>?_⟩
  unfold Tryz.f120
  simp only [↓wR,RA,simprocAttr,TF,ae]
  refine Er [0,2,7,8,9] (fun (x:Nat × Bool)=>[.sc (.func (.yield l) #[] #[]),.ptr 4 0,.vl false 5 (z.ah.map (ar.val false)),.sc (.int .i64 (z.ah.length)),.sc (.int .i64 (x.1))]) (fun x=>[some (.row [.vl false 1 (z.origin.map (ai.val false)),.vl false 5 (z.ah.map (ar.val false))] 0 2 41),some (.row [.vl false 1 (z.origin.map (ai.val false)),.vl false 5 (z.ah.map (ar.val false)),.sc (.int .i64 (kf z))] 0 2 111),some (.row [.sc (.bool (x.2))] 0 2 4),some (.row [.vl false 1 (z.origin.map (ai.val false)),.vl false 5 (z.ah.map (ar.val false))] 0 2 41),some (.row [.sc (.int .u16 2)] 0 2 26)]) (fun x=>x.1≤z.ah.length∧gq z=(x.2 || Gw z (z.ah.drop x.1))) (fun x=>z.ah.length - x.1) (0,false) ⟨Nat.zero_le _,by rw [Bool.false_or];rfl⟩ (by simp only [↓wR,RA,simprocAttr,TF,ae]<;>rfl) (by simp only [↓wR,RA,simprocAttr,TF,ae]<;>rfl) ?_
  rintro ⟨i,b⟩ ⟨hi,hx⟩
  simp only at hi hx
  simp only [↓wR,RA,simprocAttr,TF,ae]
  rw [qu];refine ⟨fun h=>?_,fun h=>?_⟩
  ·obtain ⟨c,hc,hd1,hlt⟩:=dq h
   have hcs:=hz.set c (List.mem_of_getElem? hc)
   rw [adw hd1] at hx
   simp only [↓wR,RA,simprocAttr,TF,ae,h,hc]
   rw [qu];refine ⟨fun h2=>?_,fun h2=>?_⟩
   ·have e2:(c.type.toNat:Int)=2:=by simpa using h2
    rw [decide_eq_true e2,Bool.true_and] at hx
    simp only [↓wR,RA,simprocAttr,TF,ae,h2]
    refine u6 [0,2,7,8,9,17,19] ?_
    simp only [↓wR,RA,simprocAttr,TF,ae,vm,mb]
    cases b with
    |true=>
     simp only [↓wR,RA,simprocAttr,TF,ae];repeat (simp (disch:=omega) only [ag,bz,b9,bu,bw];try simp only [↓wR,RA,simprocAttr,TF,ae])
     exact ⟨(i+1,true),⟨hlt,by rw [hx];rfl⟩,by simp;omega,by (first|rfl|trivial|omega|((try (simp (disch:=omega) only [ag]));(try (simp only [FB]));first|done|rfl|omega)),by (first|rfl|trivial|omega|((try (simp (disch:=omega) only [ag]));(try (simp only [FB]));first|done|rfl|omega))⟩
    |false=>
     simp only [↓wR,RA,simprocAttr,TF,ae,kj,hcs.owner,hz.origin];repeat (simp (disch:=omega) only [ag,bz,b9,bu,bw];try simp only [↓wR,RA,simprocAttr,TF,ae,kj,hcs.owner,hz.origin])
     exact ⟨(i+1,fg c.owner z.origin),⟨hlt,by rw [hx,Bool.false_or]⟩,by simp;omega,by (first|rfl|trivial|omega|((try (simp (disch:=omega) only [ag]));(try (simp only [FB]));first|done|rfl|omega)),by (first|rfl|trivial|omega|((try (simp (disch:=omega) only [ag]));(try (simp only [FB]));first|done|rfl|omega))⟩
   ·have e2:¬ (c.type.toNat:Int)=2:=by simpa using h2
    rw [decide_eq_false e2,Bool.false_and,Bool.false_or] at hx
    simp only [↓wR,RA,simprocAttr,TF,ae,h2];repeat (simp (disch:=omega) only [ag,bz,b9,bu,bw];try simp only [↓wR,RA,simprocAttr,TF,ae,h2])
    exact ⟨(i+1,b),⟨hlt,hx⟩,by simp;omega,by (first|rfl|trivial|omega|((try (simp (disch:=omega) only [ag]));(try (simp only [FB]));first|done|rfl|omega)),by (first|rfl|trivial|omega|((try (simp (disch:=omega) only [ag]));(try (simp only [FB]));first|done|rfl|omega))⟩
  rw [en h] at hx
  have hb:b=gq z:=by rw [hx];simp [Gw]
  simp only [↓wR,RA,simprocAttr,TF,ae,h]
  rw [hb]
  clear h hx hb
  refine er (fun r st'=>r = .ga []∧st'=bk [some (.row [.vl false 1 (z.origin.map (ai.val false)),.vl false 5 (z.ah.map (ar.val false))] 0 2 41),some (.row [.vl false 1 (z.origin.map (ai.val false)),.vl false 5 (z.ah.map (ar.val false)),.sc (.int .i64 (c9 (gq z) 264 (kf z)))] 0 2 111),some (.row [.sc (.bool (gq z))] 0 2 4),some (.row [.vl false 1 (z.origin.map (ai.val false)),.vl false 5 (z.ah.map (ar.val false))] 0 2 41),some (.row [.sc (.int .u16 2)] 0 2 26)]) rfl ?_ ?_
  ·refine c8 (T:=[ew,fc,fw,jj,jl,jg,ig,kl,nm,ko]) ok mixed Tryz.func81 rfl (by kernel_rfl) (by kernel_rfl) (by kernel_rfl) (by kernel_rfl) ?_;unfold Tryz.f81
   simp only [↓wR,RA,simprocAttr,TF,ae]
   rw [cj];refine ⟨fun ⟨hn1,en1⟩=>?_,fun ⟨hn1,en1⟩=>?_⟩
   ·simp only [↓wR,RA,simprocAttr,TF,ae,hn1]
    rw [cy];refine ⟨fun hn2=>?_,fun hn2=>?_⟩
    ·have hb:(gq z)=false:=by simpa only [Bool.not_eq_true'] using hn2
     have hv:c9 (gq z) 264 (kf z)=264:=by unfold c9;rw [if_pos ⟨en1,hb⟩]
     simp only [↓wR,RA,simprocAttr,TF,ae,hn1,hn2,jf,jb,iq]
     try rw [hv]
    ·have hb:(gq z)=true:=by simpa only [Bool.not_eq_false'] using hn2
     have hv:c9 (gq z) 264 (kf z)=kf z:=by unfold c9;rw [if_neg (fun q=>by rw [hb] at q;cases q.2)]
     simp only [↓wR,RA,simprocAttr,TF,ae,hn1,hn2,jf,jb,iq]
     try rw [hv]
   ·have hv:c9 (gq z) 264 (kf z)=kf z:=by unfold c9;rw [if_neg (fun q=>en1 q.1)]
    simp only [↓wR,RA,simprocAttr,TF,ae,hn1,jf,jb,iq]
    try rw [hv]
  rintro _ _ ⟨rfl,rfl⟩
  rw [show c9 (gq z) 264 (kf z)=vu z from rfl]
  simp only [↓wR,RA,simprocAttr,TF,ae,il]
  obtain ⟨e0,he0⟩:∃ e0,vu z=e0:=⟨_,rfl⟩
  rw [he0]
  refine er (fun r st'=>r = .ga []∧st'=bk [some (.row [.vl false 1 (z.origin.map (ai.val false)),.vl false 5 (z.ah.map (ar.val false))] 0 2 41),some (.row [.vl false 1 (z.origin.map (ai.val false)),.vl false 5 (z.ah.map (ar.val false)),.sc (.int .i64 (fm 265 (i5 z) 0 z.ah e0))] 0 2 111),some (.row [.sc (.bool (gq z))] 0 2 4),some (.row [.vl false 1 (z.origin.map (ai.val false)),.vl false 5 (z.ah.map (ar.val false))] 0 2 41),some (.row [.sc (.int .u16 2)] 0 2 26)]) rfl ?_ ?_
  ·refine c8 (T:=[ew,fc,fw,jj,jl,jg,ig,kl,nm,ko]) ok mixed Tryz.func76 rfl (by kernel_rfl) (by kernel_rfl) (by kernel_rfl) (by kernel_rfl) ?_;unfold Tryz.f76
   simp only [↓wR,RA,simprocAttr,TF,ae]
   refine dp [0,1,2,12,13,14] (fun (x:Nat × Int)=>[.ptr 1 0,.sc (.int .i64 (265)),.fn (.func 82) [.ptr 1 0] [],.vl false 5 (z.ah.map (ar.val false)),.sc (.int .i64 (z.ah.length)),.sc (.int .i64 (x.1))]) (fun x=>[some (.row [.vl false 1 (z.origin.map (ai.val false)),.vl false 5 (z.ah.map (ar.val false))] 0 2 41),some (.row [.vl false 1 (z.origin.map (ai.val false)),.vl false 5 (z.ah.map (ar.val false)),.sc (.int .i64 (x.2))] 0 2 111),some (.row [.sc (.bool (gq z))] 0 2 4),some (.row [.vl false 1 (z.origin.map (ai.val false)),.vl false 5 (z.ah.map (ar.val false))] 0 2 41),some (.row [.sc (.int .u16 2)] 0 2 26)]) (fun x=>x.1≤z.ah.length∧fm 265 (i5 z) 0 z.ah e0=fm 265 (i5 z) x.1 (z.ah.drop x.1) x.2) (fun x=>z.ah.length - x.1) (0,e0) ⟨Nat.zero_le _,rfl⟩ (by simp only [↓wR,RA,simprocAttr,TF,ae]<;>rfl) (by simp only [↓wR,RA,simprocAttr,TF,ae]<;>rfl) ?_
   rintro ⟨i,e⟩ ⟨hi,hx⟩
   simp only at hi hx
   simp only [↓wR,RA,simprocAttr,TF,ae]
   rw [bb];refine ⟨fun h=>?_,fun h=>?_⟩
   ·obtain ⟨c,hc,hd1,hlt⟩:=dq (decide_eq_true h)
    rw [ru hd1] at hx
    have hcs:=hz.set c (List.mem_of_getElem? hc)
    have hi2:(0:Int)≤i∧(i:Int)≤z.ah.length:=by omega
    simp only [↓wR,RA,simprocAttr,TF,ae,h,hc]
    rw [de];refine ⟨fun ⟨h1,e1⟩=>?_,fun ⟨h1,e1⟩=>?_⟩
    ·rw [if_pos e1] at hx
     simp only [↓wR,RA,simprocAttr,TF,ae,h1,jf,jb,iq]
     rw [hx]
    ·rw [if_neg (by omega)] at hx
     simp only [↓wR,RA,simprocAttr,TF,ae,h1,hcs,hz,hi2,Cm]
     refine er (fun r st'=>r = .ga []∧st'=bk [some (.row [.vl false 1 (z.origin.map (ai.val false)),.vl false 5 (z.ah.map (ar.val false))] 0 2 41),some (.row [.vl false 1 (z.origin.map (ai.val false)),.vl false 5 (z.ah.map (ar.val false)),.sc (.int .i64 (c9 ((i5 z) i c) 265 e))] 0 2 111),some (.row [.sc (.bool (gq z))] 0 2 4),some (.row [.vl false 1 (z.origin.map (ai.val false)),.vl false 5 (z.ah.map (ar.val false))] 0 2 41),some (.row [.sc (.int .u16 2)] 0 2 26),some (.row [.vl false 1 (c.owner.map (ai.val false)),.sc (.int .u16 c.type.toNat),.sc (.int .u16 c.cls.toNat),.sc (.int .u32 c.gm.toNat),.vl false 4 (c.data.map (ay.val false))] 0 2 31)]) rfl ?_ ?_
     ·refine c8 (T:=[ew,fc,fw,jj,jl,jg,ig,kl,nm,ko]) ok mixed Tryz.func81 rfl (by kernel_rfl) (by kernel_rfl) (by kernel_rfl) (by kernel_rfl) ?_;unfold Tryz.f81
      simp only [↓wR,RA,simprocAttr,TF,ae,e1]
      rw [cy];refine ⟨fun hn2=>?_,fun hn2=>?_⟩
      ·have hb:((i5 z) i c)=false:=by simpa only [Bool.not_eq_true'] using hn2
       have hv:c9 ((i5 z) i c) 265 0=265:=by unfold c9;rw [if_pos ⟨rfl,hb⟩]
       simp only [↓wR,RA,simprocAttr,TF,ae,hn2,jf,jb,iq]
       try rw [hv]
      ·have hb:((i5 z) i c)=true:=by simpa only [Bool.not_eq_false'] using hn2
       have hv:c9 ((i5 z) i c) 265 0=0:=by unfold c9;rw [if_neg (fun q=>by rw [hb] at q;cases q.2)]
       simp only [↓wR,RA,simprocAttr,TF,ae,hn2,jf,jb,iq]
       try rw [hv]
     rintro _ _ ⟨rfl,rfl⟩
     simp only [↓wR,RA,simprocAttr,TF,ae,il];repeat (simp (disch:=omega) only [ag,bz,b9,bu,bw];try simp only [↓wR,RA,simprocAttr,TF,ae,il])
     exact ⟨(i+1,c9 ((i5 z) i c) 265 e),⟨hlt,hx⟩,by simp;omega,by (first|rfl|trivial|omega|((try (simp (disch:=omega) only [ag]));(try (simp only [FB]));first|done|rfl|omega)),by (first|rfl|trivial|omega|((try (simp (disch:=omega) only [ag]));(try (simp only [FB]));first|done|rfl|omega))⟩
   ·rw [en (decide_eq_false h)] at hx
    simp only [↓wR,RA,simprocAttr,TF,ae,h,jf,jb,iq]
    rw [hx];rfl
  rintro _ _ ⟨rfl,rfl⟩
  rw [← he0]
  clear he0
  simp only [↓wR,RA,simprocAttr,TF,ae,il]
  rw [show fm 265 (i5 z) 0 z.ah (vu z)=vr z from rfl]
  obtain ⟨e0,he0⟩:∃ e0,vr z=e0:=⟨_,rfl⟩
  rw [he0]
  refine er (fun r st'=>r = .ga []∧st'=bk [some (.row [.vl false 1 (z.origin.map (ai.val false)),.vl false 5 (z.ah.map (ar.val false))] 0 2 41),some (.row [.vl false 1 (z.origin.map (ai.val false)),.vl false 5 (z.ah.map (ar.val false)),.sc (.int .i64 (fm 266 (fun _ s=>iz s) 0 z.ah e0))] 0 2 111),some (.row [.sc (.bool (gq z))] 0 2 4),some (.row [.vl false 1 (z.origin.map (ai.val false)),.vl false 5 (z.ah.map (ar.val false))] 0 2 41),some (.row [.sc (.int .u16 2)] 0 2 26)]) rfl ?_ ?_
  ·refine c8 (T:=[ew,fc,fw,jj,jl,jg,ig,kl,nm,ko]) ok mixed Tryz.func76 rfl (by kernel_rfl) (by kernel_rfl) (by kernel_rfl) (by kernel_rfl) ?_;unfold Tryz.f76
   simp only [↓wR,RA,simprocAttr,TF,ae]
   refine dp [0,1,2,12,13,14] (fun (x:Nat × Int)=>[.ptr 1 0,.sc (.int .i64 (266)),.sc (.func (.func 83) #[] #[]),.vl false 5 (z.ah.map (ar.val false)),.sc (.int .i64 (z.ah.length)),.sc (.int .i64 (x.1))]) (fun x=>[some (.row [.vl false 1 (z.origin.map (ai.val false)),.vl false 5 (z.ah.map (ar.val false))] 0 2 41),some (.row [.vl false 1 (z.origin.map (ai.val false)),.vl false 5 (z.ah.map (ar.val false)),.sc (.int .i64 (x.2))] 0 2 111),some (.row [.sc (.bool (gq z))] 0 2 4),some (.row [.vl false 1 (z.origin.map (ai.val false)),.vl false 5 (z.ah.map (ar.val false))] 0 2 41),some (.row [.sc (.int .u16 2)] 0 2 26)]) (fun x=>x.1≤z.ah.length∧fm 266 (fun _ s=>iz s) 0 z.ah e0=fm 266 (fun _ s=>iz s) x.1 (z.ah.drop x.1) x.2) (fun x=>z.ah.length - x.1) (0,e0) ⟨Nat.zero_le _,rfl⟩ (by simp only [↓wR,RA,simprocAttr,TF,ae]<;>rfl) (by simp only [↓wR,RA,simprocAttr,TF,ae]<;>rfl) ?_
   rintro ⟨i,e⟩ ⟨hi,hx⟩
   simp only at hi hx
   simp only [↓wR,RA,simprocAttr,TF,ae]
   rw [bb];refine ⟨fun h=>?_,fun h=>?_⟩
   ·obtain ⟨c,hc,hd1,hlt⟩:=dq (decide_eq_true h)
    rw [ru hd1] at hx
    have hcs:=hz.set c (List.mem_of_getElem? hc)
    have hi2:(0:Int)≤i∧(i:Int)≤z.ah.length:=by omega
    simp only [↓wR,RA,simprocAttr,TF,ae,h,hc]
    rw [de];refine ⟨fun ⟨h1,e1⟩=>?_,fun ⟨h1,e1⟩=>?_⟩
    ·rw [if_pos e1] at hx
     simp only [↓wR,RA,simprocAttr,TF,ae,h1,jf,jb,iq]
     rw [hx]
    ·rw [if_neg (by omega)] at hx
     simp only [↓wR,RA,simprocAttr,TF,ae,h1,hcs,hz,hi2,F5]
     refine er (fun r st'=>r = .ga []∧st'=bk [some (.row [.vl false 1 (z.origin.map (ai.val false)),.vl false 5 (z.ah.map (ar.val false))] 0 2 41),some (.row [.vl false 1 (z.origin.map (ai.val false)),.vl false 5 (z.ah.map (ar.val false)),.sc (.int .i64 (c9 ((fun _ s=>iz s) i c) 266 e))] 0 2 111),some (.row [.sc (.bool (gq z))] 0 2 4),some (.row [.vl false 1 (z.origin.map (ai.val false)),.vl false 5 (z.ah.map (ar.val false))] 0 2 41),some (.row [.sc (.int .u16 2)] 0 2 26),some (.row [.vl false 1 (c.owner.map (ai.val false)),.sc (.int .u16 c.type.toNat),.sc (.int .u16 c.cls.toNat),.sc (.int .u32 c.gm.toNat),.vl false 4 (c.data.map (ay.val false))] 0 2 31)]) rfl ?_ ?_
     ·refine c8 (T:=[ew,fc,fw,jj,jl,jg,ig,kl,nm,ko]) ok mixed Tryz.func81 rfl (by kernel_rfl) (by kernel_rfl) (by kernel_rfl) (by kernel_rfl) ?_;unfold Tryz.f81
      simp only [↓wR,RA,simprocAttr,TF,ae,e1]
      rw [cy];refine ⟨fun hn2=>?_,fun hn2=>?_⟩
      ·have hb:((fun _ s=>iz s) i c)=false:=by simpa only [Bool.not_eq_true'] using hn2
       have hv:c9 ((fun _ s=>iz s) i c) 266 0=266:=by unfold c9;rw [if_pos ⟨rfl,hb⟩]
       simp only [↓wR,RA,simprocAttr,TF,ae,hn2,jf,jb,iq]
       try rw [hv]
      ·have hb:((fun _ s=>iz s) i c)=true:=by simpa only [Bool.not_eq_false'] using hn2
       have hv:c9 ((fun _ s=>iz s) i c) 266 0=0:=by unfold c9;rw [if_neg (fun q=>by rw [hb] at q;cases q.2)]
       simp only [↓wR,RA,simprocAttr,TF,ae,hn2,jf,jb,iq]
       try rw [hv]
     rintro _ _ ⟨rfl,rfl⟩
     simp only [↓wR,RA,simprocAttr,TF,ae,il];repeat (simp (disch:=omega) only [ag,bz,b9,bu,bw];try simp only [↓wR,RA,simprocAttr,TF,ae,il])
     exact ⟨(i+1,c9 ((fun _ s=>iz s) i c) 266 e),⟨hlt,hx⟩,by simp;omega,by (first|rfl|trivial|omega|((try (simp (disch:=omega) only [ag]));(try (simp only [FB]));first|done|rfl|omega)),by (first|rfl|trivial|omega|((try (simp (disch:=omega) only [ag]));(try (simp only [FB]));first|done|rfl|omega))⟩
   ·rw [en (decide_eq_false h)] at hx
    simp only [↓wR,RA,simprocAttr,TF,ae,h,jf,jb,iq]
    rw [hx];rfl
  rintro _ _ ⟨rfl,rfl⟩
  rw [← he0]
  clear he0
  simp only [↓wR,RA,simprocAttr,TF,ae,il]
  rw [show fm 266 (fun _ s=>iz s) 0 z.ah (vr z)=Bu z from rfl]
  obtain ⟨e0,he0⟩:∃ e0,Bu z=e0:=⟨_,rfl⟩
  rw [he0]
  refine er (fun r st'=>r = .ga []∧st'=bk [some (.row [.vl false 1 (z.origin.map (ai.val false)),.vl false 5 (z.ah.map (ar.val false))] 0 2 41),some (.row [.vl false 1 (z.origin.map (ai.val false)),.vl false 5 (z.ah.map (ar.val false)),.sc (.int .i64 (fm 267 (fun _ s=>ki z s) 0 z.ah e0))] 0 2 111),some (.row [.sc (.bool (gq z))] 0 2 4),some (.row [.vl false 1 (z.origin.map (ai.val false)),.vl false 5 (z.ah.map (ar.val false))] 0 2 41),some (.row [.sc (.int .u16 2)] 0 2 26)]) rfl ?_ ?_
  ·refine c8 (T:=[ew,fc,fw,jj,jl,jg,ig,kl,nm,ko]) ok mixed Tryz.func76 rfl (by kernel_rfl) (by kernel_rfl) (by kernel_rfl) (by kernel_rfl) ?_;unfold Tryz.f76
   simp only [↓wR,RA,simprocAttr,TF,ae]
   refine dp [0,1,2,12,13,14] (fun (x:Nat × Int)=>[.ptr 1 0,.sc (.int .i64 (267)),.fn (.func 84) [] [.ptr 0 0],.vl false 5 (z.ah.map (ar.val false)),.sc (.int .i64 (z.ah.length)),.sc (.int .i64 (x.1))]) (fun x=>[some (.row [.vl false 1 (z.origin.map (ai.val false)),.vl false 5 (z.ah.map (ar.val false))] 0 2 41),some (.row [.vl false 1 (z.origin.map (ai.val false)),.vl false 5 (z.ah.map (ar.val false)),.sc (.int .i64 (x.2))] 0 2 111),some (.row [.sc (.bool (gq z))] 0 2 4),some (.row [.vl false 1 (z.origin.map (ai.val false)),.vl false 5 (z.ah.map (ar.val false))] 0 2 41),some (.row [.sc (.int .u16 2)] 0 2 26)]) (fun x=>x.1≤z.ah.length∧fm 267 (fun _ s=>ki z s) 0 z.ah e0=fm 267 (fun _ s=>ki z s) x.1 (z.ah.drop x.1) x.2) (fun x=>z.ah.length - x.1) (0,e0) ⟨Nat.zero_le _,rfl⟩ (by simp only [↓wR,RA,simprocAttr,TF,ae]<;>rfl) (by simp only [↓wR,RA,simprocAttr,TF,ae]<;>rfl) ?_
   rintro ⟨i,e⟩ ⟨hi,hx⟩
   simp only at hi hx
   simp only [↓wR,RA,simprocAttr,TF,ae]
   rw [bb];refine ⟨fun h=>?_,fun h=>?_⟩
   ·obtain ⟨c,hc,hd1,hlt⟩:=dq (decide_eq_true h)
    rw [ru hd1] at hx
    have hcs:=hz.set c (List.mem_of_getElem? hc)
    have hi2:(0:Int)≤i∧(i:Int)≤z.ah.length:=by omega
    simp only [↓wR,RA,simprocAttr,TF,ae,h,hc]
    rw [de];refine ⟨fun ⟨h1,e1⟩=>?_,fun ⟨h1,e1⟩=>?_⟩
    ·rw [if_pos e1] at hx
     simp only [↓wR,RA,simprocAttr,TF,ae,h1,jf,jb,iq]
     rw [hx]
    ·rw [if_neg (by omega)] at hx
     simp only [↓wR,RA,simprocAttr,TF,ae,h1,hcs,hz,hi2,Mc]
     refine er (fun r st'=>r = .ga []∧st'=bk [some (.row [.vl false 1 (z.origin.map (ai.val false)),.vl false 5 (z.ah.map (ar.val false))] 0 2 41),some (.row [.vl false 1 (z.origin.map (ai.val false)),.vl false 5 (z.ah.map (ar.val false)),.sc (.int .i64 (c9 ((fun _ s=>ki z s) i c) 267 e))] 0 2 111),some (.row [.sc (.bool (gq z))] 0 2 4),some (.row [.vl false 1 (z.origin.map (ai.val false)),.vl false 5 (z.ah.map (ar.val false))] 0 2 41),some (.row [.sc (.int .u16 2)] 0 2 26),some (.row [.vl false 1 (c.owner.map (ai.val false)),.sc (.int .u16 c.type.toNat),.sc (.int .u16 c.cls.toNat),.sc (.int .u32 c.gm.toNat),.vl false 4 (c.data.map (ay.val false))] 0 2 31)]) rfl ?_ ?_
     ·refine c8 (T:=[ew,fc,fw,jj,jl,jg,ig,kl,nm,ko]) ok mixed Tryz.func81 rfl (by kernel_rfl) (by kernel_rfl) (by kernel_rfl) (by kernel_rfl) ?_;unfold Tryz.f81
      simp only [↓wR,RA,simprocAttr,TF,ae,e1]
      rw [cy];refine ⟨fun hn2=>?_,fun hn2=>?_⟩
      ·have hb:((fun _ s=>ki z s) i c)=false:=by simpa only [Bool.not_eq_true'] using hn2
       have hv:c9 ((fun _ s=>ki z s) i c) 267 0=267:=by unfold c9;rw [if_pos ⟨rfl,hb⟩]
       simp only [↓wR,RA,simprocAttr,TF,ae,hn2,jf,jb,iq]
       try rw [hv]
      ·have hb:((fun _ s=>ki z s) i c)=true:=by simpa only [Bool.not_eq_false'] using hn2
       have hv:c9 ((fun _ s=>ki z s) i c) 267 0=0:=by unfold c9;rw [if_neg (fun q=>by rw [hb] at q;cases q.2)]
       simp only [↓wR,RA,simprocAttr,TF,ae,hn2,jf,jb,iq]
       try rw [hv]
     rintro _ _ ⟨rfl,rfl⟩
     simp only [↓wR,RA,simprocAttr,TF,ae,il];repeat (simp (disch:=omega) only [ag,bz,b9,bu,bw];try simp only [↓wR,RA,simprocAttr,TF,ae,il])
     exact ⟨(i+1,c9 ((fun _ s=>ki z s) i c) 267 e),⟨hlt,hx⟩,by simp;omega,by (first|rfl|trivial|omega|((try (simp (disch:=omega) only [ag]));(try (simp only [FB]));first|done|rfl|omega)),by (first|rfl|trivial|omega|((try (simp (disch:=omega) only [ag]));(try (simp only [FB]));first|done|rfl|omega))⟩
   ·rw [en (decide_eq_false h)] at hx
    simp only [↓wR,RA,simprocAttr,TF,ae,h,jf,jb,iq]
    rw [hx];rfl
  rintro _ _ ⟨rfl,rfl⟩
  rw [← he0]
  clear he0
  simp only [↓wR,RA,simprocAttr,TF,ae,il]
  rfl
 ·simp only [↓wR,RA,simprocAttr,TF,ae,hs1]
  have hbf:(decide ((fp z).1=1) && decide ((fp z).2=1))=false:=by rw [decide_eq_false (show ¬ (fp z).1=1 by omega),Bool.false_and]
  refine er (fun r st'=>r = .ga []∧st'=bk [some (.row [.vl false 1 (z.origin.map (ai.val false)),.vl false 5 (z.ah.map (ar.val false))] 0 2 41),some (.row [.vl false 1 (z.origin.map (ai.val false)),.vl false 5 (z.ah.map (ar.val false)),.sc (.int .i64 (c9 (decide ((fp z).1=1) && decide ((fp z).2=1)) 263 (np z)))] 0 2 111)]) rfl ?_ ?_
  ·refine c8 (T:=[ew,fc,fw,jj,jl,jg,ig,kl,nm,ko]) ok mixed Tryz.func81 rfl (by kernel_rfl) (by kernel_rfl) (by kernel_rfl) (by kernel_rfl) ?_;unfold Tryz.f81
   simp only [↓wR,RA,simprocAttr,TF,ae]
   rw [cj];refine ⟨fun ⟨hn1,en1⟩=>?_,fun ⟨hn1,en1⟩=>?_⟩
   ·have hv:c9 (decide ((fp z).1=1) && decide ((fp z).2=1)) 263 (np z)=263:=by unfold c9;rw [if_pos ⟨en1,hbf⟩]
    simp only [↓wR,RA,simprocAttr,TF,ae,hn1,jf,jb,iq]
    try rw [hv]
   ·have hv:c9 (decide ((fp z).1=1) && decide ((fp z).2=1)) 263 (np z)=np z:=by unfold c9;rw [if_neg (fun q=>en1 q.1)]
    simp only [↓wR,RA,simprocAttr,TF,ae,hn1,jf,jb,iq]
    try rw [hv]
  rintro _ _ ⟨rfl,rfl⟩
  rw [show c9 (decide ((fp z).1=1) && decide ((fp z).2=1)) 263 (np z)=kf z from rfl]
  simp only [↓wR,RA,simprocAttr,TF,ae,il]
  refine c8 (T:=[]) (ak.nil PP) mixed Tryz.func70 rfl (by kernel_rfl) (by kernel_rfl) (by kernel_rfl) (by kernel_rfl) ?_;unfold Tryz.f70
  simp only [↓wR,RA,simprocAttr,TF,ae]
  refine ⟨[1,3,6,45],?_⟩
  have hib:xq PP 120=some (Tryz.f120.ntmps,Tryz.f120.body.getD .skip):=by kernel_rfl
  simp only [↓wR,RA,simprocAttr,TF,ae,hib]
  refine ⟨by kernel_rfl,fun l=>?_⟩
  unfold Tryz.f120
  simp only [↓wR,RA,simprocAttr,TF,ae]
  refine Er [0,2,7,8,9] (fun (x:Nat × Bool)=>[.sc (.func (.yield l) #[] #[]),.ptr 4 0,.vl false 5 (z.ah.map (ar.val false)),.sc (.int .i64 (z.ah.length)),.sc (.int .i64 (x.1))]) (fun x=>[some (.row [.vl false 1 (z.origin.map (ai.val false)),.vl false 5 (z.ah.map (ar.val false))] 0 2 41),some (.row [.vl false 1 (z.origin.map (ai.val false)),.vl false 5 (z.ah.map (ar.val false)),.sc (.int .i64 (kf z))] 0 2 111),some (.row [.sc (.bool (x.2))] 0 2 4),some (.row [.vl false 1 (z.origin.map (ai.val false)),.vl false 5 (z.ah.map (ar.val false))] 0 2 41),some (.row [.sc (.int .u16 2)] 0 2 26)]) (fun x=>x.1≤z.ah.length∧gq z=(x.2 || Gw z (z.ah.drop x.1))) (fun x=>z.ah.length - x.1) (0,false) ⟨Nat.zero_le _,by rw [Bool.false_or];rfl⟩ (by simp only [↓wR,RA,simprocAttr,TF,ae]<;>rfl) (by simp only [↓wR,RA,simprocAttr,TF,ae]<;>rfl) ?_
  rintro ⟨i,b⟩ ⟨hi,hx⟩
  simp only at hi hx
  simp only [↓wR,RA,simprocAttr,TF,ae]
  rw [qu];refine ⟨fun h=>?_,fun h=>?_⟩
  ·obtain ⟨c,hc,hd1,hlt⟩:=dq h
   have hcs:=hz.set c (List.mem_of_getElem? hc)
   rw [adw hd1] at hx
   simp only [↓wR,RA,simprocAttr,TF,ae,h,hc]
   rw [qu];refine ⟨fun h2=>?_,fun h2=>?_⟩
   ·have e2:(c.type.toNat:Int)=2:=by simpa using h2
    rw [decide_eq_true e2,Bool.true_and] at hx
    simp only [↓wR,RA,simprocAttr,TF,ae,h2]
    refine u6 [0,2,7,8,9,17,19] ?_
    simp only [↓wR,RA,simprocAttr,TF,ae,vm,mb]
    cases b with
    |true=>
     simp only [↓wR,RA,simprocAttr,TF,ae];repeat (simp (disch:=omega) only [ag,bz,b9,bu,bw];try simp only [↓wR,RA,simprocAttr,TF,ae])
     exact ⟨(i+1,true),⟨hlt,by rw [hx];rfl⟩,by simp;omega,by (first|rfl|trivial|omega|((try (simp (disch:=omega) only [ag]));(try (simp only [FB]));first|done|rfl|omega)),by (first|rfl|trivial|omega|((try (simp (disch:=omega) only [ag]));(try (simp only [FB]));first|done|rfl|omega))⟩
    |false=>
     simp only [↓wR,RA,simprocAttr,TF,ae,kj,hcs.owner,hz.origin];repeat (simp (disch:=omega) only [ag,bz,b9,bu,bw];try simp only [↓wR,RA,simprocAttr,TF,ae,kj,hcs.owner,hz.origin])
     exact ⟨(i+1,fg c.owner z.origin),⟨hlt,by rw [hx,Bool.false_or]⟩,by simp;omega,by (first|rfl|trivial|omega|((try (simp (disch:=omega) only [ag]));(try (simp only [FB]));first|done|rfl|omega)),by (first|rfl|trivial|omega|((try (simp (disch:=omega) only [ag]));(try (simp only [FB]));first|done|rfl|omega))⟩
   ·have e2:¬ (c.type.toNat:Int)=2:=by simpa using h2
    rw [decide_eq_false e2,Bool.false_and,Bool.false_or] at hx
    simp only [↓wR,RA,simprocAttr,TF,ae,h2];repeat (simp (disch:=omega) only [ag,bz,b9,bu,bw];try simp only [↓wR,RA,simprocAttr,TF,ae,h2])
    exact ⟨(i+1,b),⟨hlt,hx⟩,by simp;omega,by (first|rfl|trivial|omega|((try (simp (disch:=omega) only [ag]));(try (simp only [FB]));first|done|rfl|omega)),by (first|rfl|trivial|omega|((try (simp (disch:=omega) only [ag]));(try (simp only [FB]));first|done|rfl|omega))⟩
  rw [en h] at hx
  have hb:b=gq z:=by rw [hx];simp [Gw]
  simp only [↓wR,RA,simprocAttr,TF,ae,h]
  rw [hb]
  clear h hx hb
  refine er (fun r st'=>r = .ga []∧st'=bk [some (.row [.vl false 1 (z.origin.map (ai.val false)),.vl false 5 (z.ah.map (ar.val false))] 0 2 41),some (.row [.vl false 1 (z.origin.map (ai.val false)),.vl false 5 (z.ah.map (ar.val false)),.sc (.int .i64 (c9 (gq z) 264 (kf z)))] 0 2 111),some (.row [.sc (.bool (gq z))] 0 2 4),some (.row [.vl false 1 (z.origin.map (ai.val false)),.vl false 5 (z.ah.map (ar.val false))] 0 2 41),some (.row [.sc (.int .u16 2)] 0 2 26)]) rfl ?_ ?_
  ·refine c8 (T:=[ew,fc,fw,jj,jl,jg,ig,kl,nm,ko]) ok mixed Tryz.func81 rfl (by kernel_rfl) (by kernel_rfl) (by kernel_rfl) (by kernel_rfl) ?_;unfold Tryz.f81
   simp only [↓wR,RA,simprocAttr,TF,ae]
   rw [cj];refine ⟨fun ⟨hn1,en1⟩=>?_,fun ⟨hn1,en1⟩=>?_⟩
   ·simp only [↓wR,RA,simprocAttr,TF,ae,hn1]
    rw [cy];refine ⟨fun hn2=>?_,fun hn2=>?_⟩
    ·have hb:(gq z)=false:=by simpa only [Bool.not_eq_true'] using hn2
     have hv:c9 (gq z) 264 (kf z)=264:=by unfold c9;rw [if_pos ⟨en1,hb⟩]
     simp only [↓wR,RA,simprocAttr,TF,ae,hn1,hn2,jf,jb,iq]
     try rw [hv]
    ·have hb:(gq z)=true:=by simpa only [Bool.not_eq_false'] using hn2
     have hv:c9 (gq z) 264 (kf z)=kf z:=by unfold c9;rw [if_neg (fun q=>by rw [hb] at q;cases q.2)]
     simp only [↓wR,RA,simprocAttr,TF,ae,hn1,hn2,jf,jb,iq]
     try rw [hv]
   ·have hv:c9 (gq z) 264 (kf z)=kf z:=by unfold c9;rw [if_neg (fun q=>en1 q.1)]
    simp only [↓wR,RA,simprocAttr,TF,ae,hn1,jf,jb,iq]
    try rw [hv]
  rintro _ _ ⟨rfl,rfl⟩
  rw [show c9 (gq z) 264 (kf z)=vu z from rfl]
  simp only [↓wR,RA,simprocAttr,TF,ae,il]
  obtain ⟨e0,he0⟩:∃ e0,vu z=e0:=⟨_,rfl⟩
  rw [he0]
  refine er (fun r st'=>r = .ga []∧st'=bk [some (.row [.vl false 1 (z.origin.map (ai.val false)),.vl false 5 (z.ah.map (ar.val false))] 0 2 41),some (.row [.vl false 1 (z.origin.map (ai.val false)),.vl false 5 (z.ah.map (ar.val false)),.sc (.int .i64 (fm 265 (i5 z) 0 z.ah e0))] 0 2 111),some (.row [.sc (.bool (gq z))] 0 2 4),some (.row [.vl false 1 (z.origin.map (ai.val false)),.vl false 5 (z.ah.map (ar.val false))] 0 2 41),some (.row [.sc (.int .u16 2)] 0 2 26)]) rfl ?_ ?_
  ·refine c8 (T:=[ew,fc,fw,jj,jl,jg,ig,kl,nm,ko]) ok mixed Tryz.func76 rfl (by kernel_rfl) (by kernel_rfl) (by kernel_rfl) (by kernel_rfl) ?_;unfold Tryz.f76
   simp only [↓wR,RA,simprocAttr,TF,ae]
   refine dp [0,1,2,12,13,14] (fun (x:Nat × Int)=>[.ptr 1 0,.sc (.int .i64 (265)),.fn (.func 82) [.ptr 1 0] [],.vl false 5 (z.ah.map (ar.val false)),.sc (.int .i64 (z.ah.length)),.sc (.int .i64 (x.1))]) (fun x=>[some (.row [.vl false 1 (z.origin.map (ai.val false)),.vl false 5 (z.ah.map (ar.val false))] 0 2 41),some (.row [.vl false 1 (z.origin.map (ai.val false)),.vl false 5 (z.ah.map (ar.val false)),.sc (.int .i64 (x.2))] 0 2 111),some (.row [.sc (.bool (gq z))] 0 2 4),some (.row [.vl false 1 (z.origin.map (ai.val false)),.vl false 5 (z.ah.map (ar.val false))] 0 2 41),some (.row [.sc (.int .u16 2)] 0 2 26)]) (fun x=>x.1≤z.ah.length∧fm 265 (i5 z) 0 z.ah e0=fm 265 (i5 z) x.1 (z.ah.drop x.1) x.2) (fun x=>z.ah.length - x.1) (0,e0) ⟨Nat.zero_le _,rfl⟩ (by simp only [↓wR,RA,simprocAttr,TF,ae]<;>rfl) (by simp only [↓wR,RA,simprocAttr,TF,ae]<;>rfl) ?_
   rintro ⟨i,e⟩ ⟨hi,hx⟩
   simp only at hi hx
   simp only [↓wR,RA,simprocAttr,TF,ae]
   rw [bb];refine ⟨fun h=>?_,fun h=>?_⟩
   ·obtain ⟨c,hc,hd1,hlt⟩:=dq (decide_eq_true h)
    rw [ru hd1] at hx
    have hcs:=hz.set c (List.mem_of_getElem? hc)
    have hi2:(0:Int)≤i∧(i:Int)≤z.ah.length:=by omega
    simp only [↓wR,RA,simprocAttr,TF,ae,h,hc]
    rw [de];refine ⟨fun ⟨h1,e1⟩=>?_,fun ⟨h1,e1⟩=>?_⟩
    ·rw [if_pos e1] at hx
     simp only [↓wR,RA,simprocAttr,TF,ae,h1,jf,jb,iq]
     rw [hx]
    ·rw [if_neg (by omega)] at hx
     simp only [↓wR,RA,simprocAttr,TF,ae,h1,hcs,hz,hi2,Cm]
     refine er (fun r st'=>r = .ga []∧st'=bk [some (.row [.vl false 1 (z.origin.map (ai.val false)),.vl false 5 (z.ah.map (ar.val false))] 0 2 41),some (.row [.vl false 1 (z.origin.map (ai.val false)),.vl false 5 (z.ah.map (ar.val false)),.sc (.int .i64 (c9 ((i5 z) i c) 265 e))] 0 2 111),some (.row [.sc (.bool (gq z))] 0 2 4),some (.row [.vl false 1 (z.origin.map (ai.val false)),.vl false 5 (z.ah.map (ar.val false))] 0 2 41),some (.row [.sc (.int .u16 2)] 0 2 26),some (.row [.vl false 1 (c.owner.map (ai.val false)),.sc (.int .u16 c.type.toNat),.sc (.int .u16 c.cls.toNat),.sc (.int .u32 c.gm.toNat),.vl false 4 (c.data.map (ay.val false))] 0 2 31)]) rfl ?_ ?_
     ·refine c8 (T:=[ew,fc,fw,jj,jl,jg,ig,kl,nm,ko]) ok mixed Tryz.func81 rfl (by kernel_rfl) (by kernel_rfl) (by kernel_rfl) (by kernel_rfl) ?_;unfold Tryz.f81
      simp only [↓wR,RA,simprocAttr,TF,ae,e1]
      rw [cy];refine ⟨fun hn2=>?_,fun hn2=>?_⟩
      ·have hb:((i5 z) i c)=false:=by simpa only [Bool.not_eq_true'] using hn2
       have hv:c9 ((i5 z) i c) 265 0=265:=by unfold c9;rw [if_pos ⟨rfl,hb⟩]
       simp only [↓wR,RA,simprocAttr,TF,ae,hn2,jf,jb,iq]
       try rw [hv]
      ·have hb:((i5 z) i c)=true:=by simpa only [Bool.not_eq_false'] using hn2
       have hv:c9 ((i5 z) i c) 265 0=0:=by unfold c9;rw [if_neg (fun q=>by rw [hb] at q;cases q.2)]
       simp only [↓wR,RA,simprocAttr,TF,ae,hn2,jf,jb,iq]
       try rw [hv]
     rintro _ _ ⟨rfl,rfl⟩
     simp only [↓wR,RA,simprocAttr,TF,ae,il];repeat (simp (disch:=omega) only [ag,bz,b9,bu,bw];try simp only [↓wR,RA,simprocAttr,TF,ae,il])
     exact ⟨(i+1,c9 ((i5 z) i c) 265 e),⟨hlt,hx⟩,by simp;omega,by (first|rfl|trivial|omega|((try (simp (disch:=omega) only [ag]));(try (simp only [FB]));first|done|rfl|omega)),by (first|rfl|trivial|omega|((try (simp (disch:=omega) only [ag]));(try (simp only [FB]));first|done|rfl|omega))⟩
   ·rw [en (decide_eq_false h)] at hx
    simp only [↓wR,RA,simprocAttr,TF,ae,h,jf,jb,iq]
    rw [hx];rfl
  rintro _ _ ⟨rfl,rfl⟩
  rw [← he0]
  clear he0
  simp only [↓wR,RA,simprocAttr,TF,ae,il]
  rw [show fm 265 (i5 z) 0 z.ah (vu z)=vr z from rfl]
  obtain ⟨e0,he0⟩:∃ e0,vr z=e0:=⟨_,rfl⟩
  rw [he0]
  refine er (fun r st'=>r = .ga []∧st'=bk [some (.row [.vl false 1 (z.origin.map (ai.val false)),.vl false 5 (z.ah.map (ar.val false))] 0 2 41),some (.row [.vl false 1 (z.origin.map (ai.val false)),.vl false 5 (z.ah.map (ar.val false)),.sc (.int .i64 (fm 266 (fun _ s=>iz s) 0 z.ah e0))] 0 2 111),some (.row [.sc (.bool (gq z))] 0 2 4),some (.row [.vl false 1 (z.origin.map (ai.val false)),.vl false 5 (z.ah.map (ar.val false))] 0 2 41),some (.row [.sc (.int .u16 2)] 0 2 26)]) rfl ?_ ?_
  ·refine c8 (T:=[ew,fc,fw,jj,jl,jg,ig,kl,nm,ko]) ok mixed Tryz.func76 rfl (by kernel_rfl) (by kernel_rfl) (by kernel_rfl) (by kernel_rfl) ?_;unfold Tryz.f76
   simp only [↓wR,RA,simprocAttr,TF,ae]
   refine dp [0,1,2,12,13,14] (fun (x:Nat × Int)=>[.ptr 1 0,.sc (.int .i64 (266)),.sc (.func (.func 83) #[] #[]),.vl false 5 (z.ah.map (ar.val false)),.sc (.int .i64 (z.ah.length)),.sc (.int .i64 (x.1))]) (fun x=>[some (.row [.vl false 1 (z.origin.map (ai.val false)),.vl false 5 (z.ah.map (ar.val false))] 0 2 41),some (.row [.vl false 1 (z.origin.map (ai.val false)),.vl false 5 (z.ah.map (ar.val false)),.sc (.int .i64 (x.2))] 0 2 111),some (.row [.sc (.bool (gq z))] 0 2 4),some (.row [.vl false 1 (z.origin.map (ai.val false)),.vl false 5 (z.ah.map (ar.val false))] 0 2 41),some (.row [.sc (.int .u16 2)] 0 2 26)]) (fun x=>x.1≤z.ah.length∧fm 266 (fun _ s=>iz s) 0 z.ah e0=fm 266 (fun _ s=>iz s) x.1 (z.ah.drop x.1) x.2) (fun x=>z.ah.length - x.1) (0,e0) ⟨Nat.zero_le _,rfl⟩ (by simp only [↓wR,RA,simprocAttr,TF,ae]<;>rfl) (by simp only [↓wR,RA,simprocAttr,TF,ae]<;>rfl) ?_
   rintro ⟨i,e⟩ ⟨hi,hx⟩
   simp only at hi hx
   simp only [↓wR,RA,simprocAttr,TF,ae]
   rw [bb];refine ⟨fun h=>?_,fun h=>?_⟩
   ·obtain ⟨c,hc,hd1,hlt⟩:=dq (decide_eq_true h)
    rw [ru hd1] at hx
    have hcs:=hz.set c (List.mem_of_getElem? hc)
    have hi2:(0:Int)≤i∧(i:Int)≤z.ah.length:=by omega
    simp only [↓wR,RA,simprocAttr,TF,ae,h,hc]
    rw [de];refine ⟨fun ⟨h1,e1⟩=>?_,fun ⟨h1,e1⟩=>?_⟩
    ·rw [if_pos e1] at hx
     simp only [↓wR,RA,simprocAttr,TF,ae,h1,jf,jb,iq]
     rw [hx]
    ·rw [if_neg (by omega)] at hx
     simp only [↓wR,RA,simprocAttr,TF,ae,h1,hcs,hz,hi2,F5]
     refine er (fun r st'=>r = .ga []∧st'=bk [some (.row [.vl false 1 (z.origin.map (ai.val false)),.vl false 5 (z.ah.map (ar.val false))] 0 2 41),some (.row [.vl false 1 (z.origin.map (ai.val false)),.vl false 5 (z.ah.map (ar.val false)),.sc (.int .i64 (c9 ((fun _ s=>iz s) i c) 266 e))] 0 2 111),some (.row [.sc (.bool (gq z))] 0 2 4),some (.row [.vl false 1 (z.origin.map (ai.val false)),.vl false 5 (z.ah.map (ar.val false))] 0 2 41),some (.row [.sc (.int .u16 2)] 0 2 26),some (.row [.vl false 1 (c.owner.map (ai.val false)),.sc (.int .u16 c.type.toNat),.sc (.int .u16 c.cls.toNat),.sc (.int .u32 c.gm.toNat),.vl false 4 (c.data.map (ay.val false))] 0 2 31)]) rfl ?_ ?_
     ·refine c8 (T:=[ew,fc,fw,jj,jl,jg,ig,kl,nm,ko]) ok mixed Tryz.func81 rfl (by kernel_rfl) (by kernel_rfl) (by kernel_rfl) (by kernel_rfl) ?_;unfold Tryz.f81
      simp only [↓wR,RA,simprocAttr,TF,ae,e1]
      rw [cy];refine ⟨fun hn2=>?_,fun hn2=>?_⟩
      ·have hb:((fun _ s=>iz s) i c)=false:=by simpa only [Bool.not_eq_true'] using hn2
       have hv:c9 ((fun _ s=>iz s) i c) 266 0=266:=by unfold c9;rw [if_pos ⟨rfl,hb⟩]
       simp only [↓wR,RA,simprocAttr,TF,ae,hn2,jf,jb,iq]
       try rw [hv]
      ·have hb:((fun _ s=>iz s) i c)=true:=by simpa only [Bool.not_eq_false'] using hn2
       have hv:c9 ((fun _ s=>iz s) i c) 266 0=0:=by unfold c9;rw [if_neg (fun q=>by rw [hb] at q;cases q.2)]
       simp only [↓wR,RA,simprocAttr,TF,ae,hn2,jf,jb,iq]
       try rw [hv]
     rintro _ _ ⟨rfl,rfl⟩
     simp only [↓wR,RA,simprocAttr,TF,ae,il];repeat (simp (disch:=omega) only [ag,bz,b9,bu,bw];try simp only [↓wR,RA,simprocAttr,TF,ae,il])
     exact ⟨(i+1,c9 ((fun _ s=>iz s) i c) 266 e),⟨hlt,hx⟩,by simp;omega,by (first|rfl|trivial|omega|((try (simp (disch:=omega) only [ag]));(try (simp only [FB]));first|done|rfl|omega)),by (first|rfl|trivial|omega|((try (simp (disch:=omega) only [ag]));(try (simp only [FB]));first|done|rfl|omega))⟩
   ·rw [en (decide_eq_false h)] at hx
    simp only [↓wR,RA,simprocAttr,TF,ae,h,jf,jb,iq]
    rw [hx];rfl
  rintro _ _ ⟨rfl,rfl⟩
  rw [← he0]
  clear he0
  simp only [↓wR,RA,simprocAttr,TF,ae,il]
  rw [show fm 266 (fun _ s=>iz s) 0 z.ah (vr z)=Bu z from rfl]
  obtain ⟨e0,he0⟩:∃ e0,Bu z=e0:=⟨_,rfl⟩
  rw [he0]
  refine er (fun r st'=>r = .ga []∧st'=bk [some (.row [.vl false 1 (z.origin.map (ai.val false)),.vl false 5 (z.ah.map (ar.val false))] 0 2 41),some (.row [.vl false 1 (z.origin.map (ai.val false)),.vl false 5 (z.ah.map (ar.val false)),.sc (.int .i64 (fm 267 (fun _ s=>ki z s) 0 z.ah e0))] 0 2 111),some (.row [.sc (.bool (gq z))] 0 2 4),some (.row [.vl false 1 (z.origin.map (ai.val false)),.vl false 5 (z.ah.map (ar.val false))] 0 2 41),some (.row [.sc (.int .u16 2)] 0 2 26)]) rfl ?_ ?_
  ·refine c8 (T:=[ew,fc,fw,jj,jl,jg,ig,kl,nm,ko]) ok mixed Tryz.func76 rfl (by kernel_rfl) (by kernel_rfl) (by kernel_rfl) (by kernel_rfl) ?_;unfold Tryz.f76
   simp only [↓wR,RA,simprocAttr,TF,ae]
   refine dp [0,1,2,12,13,14] (fun (x:Nat × Int)=>[.ptr 1 0,.sc (.int .i64 (267)),.fn (.func 84) [] [.ptr 0 0],.vl false 5 (z.ah.map (ar.val false)),.sc (.int .i64 (z.ah.length)),.sc (.int .i64 (x.1))]) (fun x=>[some (.row [.vl false 1 (z.origin.map (ai.val false)),.vl false 5 (z.ah.map (ar.val false))] 0 2 41),some (.row [.vl false 1 (z.origin.map (ai.val false)),.vl false 5 (z.ah.map (ar.val false)),.sc (.int .i64 (x.2))] 0 2 111),some (.row [.sc (.bool (gq z))] 0 2 4),some (.row [.vl false 1 (z.origin.map (ai.val false)),.vl false 5 (z.ah.map (ar.val false))] 0 2 41),some (.row [.sc (.int .u16 2)] 0 2 26)]) (fun x=>x.1≤z.ah.length∧fm 267 (fun _ s=>ki z s) 0 z.ah e0=fm 267 (fun _ s=>ki z s) x.1 (z.ah.drop x.1) x.2) (fun x=>z.ah.length - x.1) (0,e0) ⟨Nat.zero_le _,rfl⟩ (by simp only [↓wR,RA,simprocAttr,TF,ae]<;>rfl) (by simp only [↓wR,RA,simprocAttr,TF,ae]<;>rfl) ?_
   rintro ⟨i,e⟩ ⟨hi,hx⟩
   simp only at hi hx
   simp only [↓wR,RA,simprocAttr,TF,ae]
   rw [bb];refine ⟨fun h=>?_,fun h=>?_⟩
   ·obtain ⟨c,hc,hd1,hlt⟩:=dq (decide_eq_true h)
    rw [ru hd1] at hx
    have hcs:=hz.set c (List.mem_of_getElem? hc)
    have hi2:(0:Int)≤i∧(i:Int)≤z.ah.length:=by omega
    simp only [↓wR,RA,simprocAttr,TF,ae,h,hc]
    rw [de];refine ⟨fun ⟨h1,e1⟩=>?_,fun ⟨h1,e1⟩=>?_⟩
    ·rw [if_pos e1] at hx
     simp only [↓wR,RA,simprocAttr,TF,ae,h1,jf,jb,iq]
     rw [hx]
    ·rw [if_neg (by omega)] at hx
     simp only [↓wR,RA,simprocAttr,TF,ae,h1,hcs,hz,hi2,Mc]
     refine er (fun r st'=>r = .ga []∧st'=bk [some (.row [.vl false 1 (z.origin.map (ai.val false)),.vl false 5 (z.ah.map (ar.val false))] 0 2 41),some (.row [.vl false 1 (z.origin.map (ai.val false)),.vl false 5 (z.ah.map (ar.val false)),.sc (.int .i64 (c9 ((fun _ s=>ki z s) i c) 267 e))] 0 2 111),some (.row [.sc (.bool (gq z))] 0 2 4),some (.row [.vl false 1 (z.origin.map (ai.val false)),.vl false 5 (z.ah.map (ar.val false))] 0 2 41),some (.row [.sc (.int .u16 2)] 0 2 26),some (.row [.vl false 1 (c.owner.map (ai.val false)),.sc (.int .u16 c.type.toNat),.sc (.int .u16 c.cls.toNat),.sc (.int .u32 c.gm.toNat),.vl false 4 (c.data.map (ay.val false))] 0 2 31)]) rfl ?_ ?_
     ·refine c8 (T:=[ew,fc,fw,jj,jl,jg,ig,kl,nm,ko]) ok mixed Tryz.func81 rfl (by kernel_rfl) (by kernel_rfl) (by kernel_rfl) (by kernel_rfl) ?_;unfold Tryz.f81
      simp only [↓wR,RA,simprocAttr,TF,ae,e1]
      rw [cy];refine ⟨fun hn2=>?_,fun hn2=>?_⟩
      ·have hb:((fun _ s=>ki z s) i c)=false:=by simpa only [Bool.not_eq_true'] using hn2
       have hv:c9 ((fun _ s=>ki z s) i c) 267 0=267:=by unfold c9;rw [if_pos ⟨rfl,hb⟩]
       simp only [↓wR,RA,simprocAttr,TF,ae,hn2,jf,jb,iq]
       try rw [hv]
      ·have hb:((fun _ s=>ki z s) i c)=true:=by simpa only [Bool.not_eq_false'] using hn2
       have hv:c9 ((fun _ s=>ki z s) i c) 267 0=0:=by unfold c9;rw [if_neg (fun q=>by rw [hb] at q;cases q.2)]
       simp only [↓wR,RA,simprocAttr,TF,ae,hn2,jf,jb,iq]
       try rw [hv]
     rintro _ _ ⟨rfl,rfl⟩
     simp only [↓wR,RA,simprocAttr,TF,ae,il];repeat (simp (disch:=omega) only [ag,bz,b9,bu,bw];try simp only [↓wR,RA,simprocAttr,TF,ae,il])
     exact ⟨(i+1,c9 ((fun _ s=>ki z s) i c) 267 e),⟨hlt,hx⟩,by simp;omega,by (first|rfl|trivial|omega|((try (simp (disch:=omega) only [ag]));(try (simp only [FB]));first|done|rfl|omega)),by (first|rfl|trivial|omega|((try (simp (disch:=omega) only [ag]));(try (simp only [FB]));first|done|rfl|omega))⟩
   ·rw [en (decide_eq_false h)] at hx
    simp only [↓wR,RA,simprocAttr,TF,ae,h,jf,jb,iq]
    rw [hx];rfl
  rintro _ _ ⟨rfl,rfl⟩
  rw [← he0]
  clear he0
  simp only [↓wR,RA,simprocAttr,TF,ae,il]
  rfl
noncomputable def Co (x:be × Unit):Option AV:=if bq x.1 then some ((r1 (ba .i64)).E true (lj x.1)) else none
set_option maxRecDepth 2000000 in
theorem M7 (x:be × Unit) (r:AV) (h:Co x=some r):bc PP 27 ((aC ca a0).E x) r:=by
 by_cases hc:bq x.1
 case neg=>simp only [Co,if_neg hc] at h;cases h
 simp only [Co,if_pos hc] at h
 cases h
 exact au (ak.cons (aj rh) (ak.cons (aj n6) (ak.cons (aj B2) (ak.cons (aj M2) (ak.cons (aj M6) (ak.cons (aj Nr) (ak.cons (aj Jd) (ak.cons (aj Sp) (ak.cons (aj Wh) (ak.cons (aj Py) (ak.nil PP))))))))))) Tryz.func27 (by kernel_rfl) (by kernel_rfl) (by kernel_rfl) (Nat.le_of_ble_eq_true (by kernel_rfl)) (r1 (ba .i64)) true (lj x.1) (aas x.1 hc)
noncomputable abbrev acs:Nat × Bool × (List AV→M AV):=(27,true,cx (aC ca a0) Co)
end Go.Proofs.YtgencolcibpcaaaGreat
end
section
namespace Go.Proofs.YtgencolcibpcaaaGreat
open Go.Vm
theorem u2 {err:Int} (he:err≠0) (p:Nat→bf→Bool):∀ (l:List bf) (i:Nat) (e:Int),fm err p i l e=0→e=0∧∀ k s,l[k]? = some s→p (i+k) s=true:=by
 intro l
 induction l with
 |nil=>intro i e h;exact ⟨h,fun k s hs=>by simp at hs⟩
 |cons a l ih=>
  intro i e h
  rw [fm] at h
  split at h
  ·contradiction
  ·rename_i h0
   have h0:e=0:=by omega
   obtain ⟨h1,h2⟩:=ih (i+1) _ h
   refine ⟨h0,fun k s hs=>?_⟩
   cases k with
   |zero=>
    simp at hs
    subst hs
    cases hp:p i a with
    |true=>simp [hp]
    |false=>rw [c9,if_pos ⟨h0,hp⟩] at h1;exact (he h1).elim
   |succ k=>
    have:=h2 k s (by simpa using hs)
    rwa [show i+1+k=i+(k+1) from by omega] at this
theorem Rt {b:Bool} {err e:Int} (he:err≠0) (h:c9 b err e=0):e=0∧b=true:=by
 unfold c9 at h
 split at h
 ·exact (he h).elim
 ·rename_i hn
  refine ⟨h,?_⟩
  cases b with
  |true=>rfl
  |false=>exact (hn ⟨h,rfl⟩).elim
structure awz (z:be):Prop where
 first:ni z=0
 ays:∀ k s,z.ah[k]? = some s→fu z k s=true
 cls:∀ s ∈ z.ah,ji s=true
 inside:∀ s ∈ z.ah,eg s.owner z.origin=true
 ayv:(fp z).1=1∧(fp z).2=1
 ayu:gq z=true
 alone:∀ k s,z.ah[k]? = some s→i5 z k s=true
 star:∀ s ∈ z.ah,iz s=true
 occ:∀ s ∈ z.ah,ki z s=true
theorem axo {z:be} (h:lj z=0):awz z:=by
 unfold lj at h
 split at h
 ·contradiction
 rename_i h0
 obtain ⟨h7,p8⟩:=u2 (by decide) _ _ _ _ h
 obtain ⟨h6,p7⟩:=u2 (by decide) _ _ _ _ h7
 obtain ⟨h5,p6⟩:=u2 (by decide) _ _ _ _ h6
 obtain ⟨h4,p5⟩:=Rt (by decide) h5
 obtain ⟨h3,p4⟩:=Rt (by decide) h4
 obtain ⟨h2,p3⟩:=u2 (by decide) _ _ _ _ h3
 obtain ⟨h1,p2⟩:=u2 (by decide) _ _ _ _ h2
 obtain ⟨_,p1⟩:=u2 (by decide) _ _ _ _ h1
 have mem:∀ (p:bf→Bool),(∀ k s,z.ah[k]? = some s→p s=true)→∀ s ∈ z.ah,p s=true:=fun p hp s hs=>by
  obtain ⟨k,hk,rfl⟩:=List.getElem_of_mem hs
  exact hp k _ (List.getElem?_eq_getElem hk)
 simp only [Bool.and_eq_true,decide_eq_true_eq] at p4
 exact ⟨by omega,fun k s hs=>by simpa using p1 k s hs,mem _ p2,mem _ p3,p4,p5,fun k s hs=>by simpa using p6 k s hs,mem _ p7,mem _ p8⟩
theorem U0:∀ a:List UInt8,Lib.compareBytes a a=0
 | []=>rfl
 |a::r=>by rw [Lib.compareBytes,if_neg (UInt8.lt_irrefl a),if_neg (UInt8.lt_irrefl a)];exact U0 r
theorem U5:∀ a b:List UInt8,Lib.compareBytes a b=0→a=b
 | [],[],_=>rfl
 | [],_::_,h=>by cases h
 |_::_,[],h=>by cases h
 |a::r,b::q,h=>by
  rw [Lib.compareBytes] at h
  split at h
  ·cases h
  ·rename_i h1
   split at h
   ·cases h
   ·rename_i h2
    rw [UInt8.lt_iff_toNat_lt] at h1 h2
    rw [UInt8.toNat_inj.1 (show a.toNat=b.toNat by omega),U5 r q h]
theorem anb {a b:ByteArray} (h:yw a b=0):a=b:=by
 have:=U5 _ _ h
 obtain ⟨⟨a⟩⟩:=a
 obtain ⟨⟨b⟩⟩:=b
 simp only at this
 rw [this]
end Go.Proofs.YtgencolcibpcaaaGreat
end
namespace Go.Vm
def awk {α:Type} (lt : α → α→Bool) (x : α):List α→List α
 | []=>[x]
 |y::l=>bif lt x y then x::y::l else y::awk lt x l
def aki {α:Type} (lt : α → α→Bool):List α→List α:=List.foldl (fun acc x=>awk lt x acc) []
def rn {α:Type} (lt : α → α→Bool) (k:Nat) (l:List α):List α:=
 if h:l.length≤k∨k=0 then aki lt l else aki lt (l.take k)++rn lt k (l.drop k)
termination_by l.length
decreasing_by simp at *;omega
theorem Eb {α:Type} {l:List α} {i:Nat} {c : α} (h:l[i]? = some c):l.take (i+1)=l.take i++[c]:=by rw [List.take_add_one,h];rfl
end Go.Vm
section
namespace Go.Proofs.YtgencolcibpcaaaGreat
open Go.Vm
set_option maxRecDepth 2000000
theorem Y6 (s:ByteArray):wl PP [] 0 (Tryz.f124.body.getD .skip) (db PP Tryz.f124.results.toList (fun r st=>(r1 (ba .i64)).get true st.h r=some (gz s))) (cd 0 [ai.val false s]) (bk []):=by
 unfold Tryz.f124
 simp only [↓wR,RA,simprocAttr,TF,ae]
 unfold gz
 rw [bb];refine ⟨fun h=>?_,fun h=>?_⟩
 ·rw [if_pos (.inl (by omega))]
  simp only [↓wR,RA,simprocAttr,TF,ae,h]
 ·simp only [↓wR,RA,simprocAttr,TF,ae,h]
  rw [bb];refine ⟨fun h2=>?_,fun h2=>?_⟩
  ·rw [if_pos (.inr (by omega))]
   simp only [↓wR,RA,simprocAttr,TF,ae,h2]
  ·rw [if_neg (by omega)]
   simp only [↓wR,RA,simprocAttr,TF,ae,h2]
noncomputable def Ci (x:ByteArray × Unit):Option AV:=some ((r1 (ba .i64)).E true (gz x.1))
set_option maxRecDepth 2000000 in
theorem Un (x:ByteArray × Unit) (r:AV) (h:Ci x=some r):bc PP 124 ((aC ai a0).E x) r:=by
 cases h
 exact au (ak.nil PP) Tryz.func124 (by kernel_rfl) (by kernel_rfl) (by kernel_rfl) (Nat.le_of_ble_eq_true (by kernel_rfl)) (r1 (ba .i64)) true (gz x.1) (Y6 x.1)
noncomputable abbrev aoc:Nat × Bool × (List AV→M AV):=(124,true,cx (aC ai a0) Ci)
theorem avj {c:UInt8} (h1:(65:Int)≤c.toNat) (h2:(c.toNat:Int)≤90):IntKind.u8.wrap ((c.toNat:Int)+32)=((low c).toNat:Int):=by
 have a1 : 65≤c:=by rw [UInt8.le_iff_toNat_le];simp;omega
 have a2:c≤90:=by rw [UInt8.le_iff_toNat_le];simp;omega
 have hlow:low c=c+32:=by simp [low,a1,a2]
 rw [hlow]
 simp [IntKind.wrap,IntKind.bits,IntKind.signed,UInt8.toNat_add]
theorem ane {c:UInt8} (h:¬ ((65:Int)≤c.toNat∧(c.toNat:Int)≤90)):low c=c:=by
 have:¬ (65≤c∧c≤90):=fun q=>h ⟨by have:=UInt8.le_iff_toNat_le.1 q.1;simp at this;omega,by have:=UInt8.le_iff_toNat_le.1 q.2;simp at this;omega⟩
 simp [low,this]
theorem ae1 (s:ByteArray) (hs:s.size≤16777216):wl PP [] 0 (Tryz.f181.body.getD .skip) (db PP Tryz.f181.results.toList (fun r st=>(r1 ai).get true st.h r=some (fold s))) (cd 0 [ai.val false s]) (bk []):=by
 have hl:s.data.toList.length=s.size:=by simp
 obtain ⟨F,hF⟩:∃ F,F=s.data.toList.map low:=⟨_,rfl⟩
 have hFl:F.length=s.size:=by rw [hF,List.length_map,hl]
 have hfold:fold s=⟨F.toArray⟩:=by unfold fold;rw [hF]
 rw [hfold]
 unfold Tryz.f181
 simp only [↓wR,RA,simprocAttr,TF,ae]
 refine fo [0,4,3] (fun (i:Nat)=>[.sc (.string s),.sc (.int .i64 (i)),.sl 0 0 i 1]) (fun i=>[some (.row ((F.take i).map (bg.val false)) 0 0 5)]) (fun i=>i≤s.size) (fun i=>s.size - i) 0 (Nat.zero_le _) (by simp only [↓wR,RA,simprocAttr,TF,ae];(refine ir.lax [] (by first|exact Nat.le_of_ble_eq_true rfl|(simp [dk];omega)) ?_ ?_<;>repeat' first|exact dz.nil|exact cb.nil|exact eh.same _|exact eh.nil _ _ _|exact eh.ly _ _|exact cb.refl _ _|apply dz.cons|apply cb.ghost|apply cb.same|apply cb.row)) ?_
 intro i hi
 simp only [↓wR,RA,simprocAttr,TF,ae]
 rw [bb];refine ⟨fun h=>?_,fun h=>?_⟩
 ·have hlt:i<s.size:=by omega
  obtain ⟨c,hc⟩:∃ c,s.data.toList[i]? = some c:=⟨_,List.getElem?_eq_getElem (by omega)⟩
  have hfc:F[i]? = some (low c):=by rw [hF,List.getElem?_map,hc];rfl
  have hnx:=Eb hfc
  have hll:(F.take i).length=i:=by rw [List.length_take];omega
  have hlim:i+1≤140737488355328:=by omega
  simp only [↓wR,RA,simprocAttr,TF,ae,h,hc];repeat (simp (disch:=omega) only [ag,bz,b9,bu,bw];try simp only [↓wR,RA,simprocAttr,TF,ae,h,hc])
  by_cases h1:(65:Int)≤c.toNat
  ·by_cases h2:(c.toNat:Int)≤90
   ·have d1:decide ((c.toNat:Int) ≥ 65)=true:=decide_eq_true h1
    have d2:decide ((c.toNat:Int)≤90)=true:=decide_eq_true h2
    have hw:=avj h1 h2
    simp only [↓wR,RA,simprocAttr,TF,ae,d1,d2,hw,hll,hlim];repeat (simp (disch:=omega) only [ag,bz,b9,bu,bw];try simp only [↓wR,RA,simprocAttr,TF,ae,d1,d2,hw,hll,hlim])
    refine ⟨i+1,hlt,by omega,by (first|rfl|trivial|omega|((try (simp (disch:=omega) only [ag]));(try (simp only [FB]));first|done|rfl|omega)),?_⟩
    rw [hnx,List.map_append];rfl
   ·have d1:decide ((c.toNat:Int) ≥ 65)=true:=decide_eq_true h1
    have d2:decide ((c.toNat:Int)≤90)=false:=decide_eq_false h2
    have hw:low c=c:=ane (fun q=>h2 q.2)
    simp only [↓wR,RA,simprocAttr,TF,ae,d1,d2,hll,hlim];repeat (simp (disch:=omega) only [ag,bz,b9,bu,bw];try simp only [↓wR,RA,simprocAttr,TF,ae,d1,d2,hll,hlim])
    refine ⟨i+1,hlt,by omega,by (first|rfl|trivial|omega|((try (simp (disch:=omega) only [ag]));(try (simp only [FB]));first|done|rfl|omega)),?_⟩
    rw [hnx,List.map_append,hw];rfl
  ·have d1:decide ((c.toNat:Int) ≥ 65)=false:=decide_eq_false h1
   have hw:low c=c:=ane (fun q=>h1 q.1)
   simp only [↓wR,RA,simprocAttr,TF,ae,d1,hll,hlim];repeat (simp (disch:=omega) only [ag,bz,b9,bu,bw];try simp only [↓wR,RA,simprocAttr,TF,ae,d1,hll,hlim])
   refine ⟨i+1,hlt,by omega,by (first|rfl|trivial|omega|((try (simp (disch:=omega) only [ag]));(try (simp only [FB]));first|done|rfl|omega)),?_⟩
   rw [hnx,List.map_append,hw];rfl
 ·have hin:F.take i=F:=List.take_of_length_le (by omega)
  have hii:i=F.length:=by omega
  rw [hin,hii]
  simp only [↓wR,RA,simprocAttr,TF,ae,h]
noncomputable def tv (x:ByteArray × Unit):Option AV:=if x.1.size≤16777216 then some ((r1 ai).E true (fold x.1)) else none
set_option maxRecDepth 2000000 in
theorem Iv (x:ByteArray × Unit) (r:AV) (h:tv x=some r):bc PP 181 ((aC ai a0).E x) r:=by
 by_cases hc:x.1.size≤16777216
 case neg=>simp only [tv,if_neg hc] at h;cases h
 simp only [tv,if_pos hc] at h
 cases h
 exact au (ak.nil PP) Tryz.func181 (by kernel_rfl) (by kernel_rfl) (by kernel_rfl) (Nat.le_of_ble_eq_true (by kernel_rfl)) (r1 ai) true (fold x.1) (ae1 x.1 hc)
noncomputable abbrev abl:Nat × Bool × (List AV→M AV):=(181,true,cx (aC ai a0) tv)
theorem agq {A B:List UInt8} {i:Nat} (h:i=A.length∨i=B.length) (ha:i≤A.length) (hb:i≤B.length):Lib.compareBytes (A.drop i) (B.drop i)=if A.length<B.length then -1 else if A.length > B.length then 1 else 0:=by
 rcases Nat.lt_trichotomy A.length B.length with q|q|q
 ·have h1:A.drop i=[]:=List.drop_eq_nil_of_le (by omega)
  rw [h1,if_pos q]
  cases h2:B.drop i with
  |nil=>have:=List.drop_eq_nil_iff.1 h2;omega
  |cons y r=>rfl
 ·have h1:A.drop i=[]:=List.drop_eq_nil_of_le (by omega)
  have h2:B.drop i=[]:=List.drop_eq_nil_of_le (by omega)
  rw [h1,h2,if_neg (by omega),if_neg (by omega)];rfl
 ·have h1:B.drop i=[]:=List.drop_eq_nil_of_le (by omega)
  rw [h1,if_neg (by omega),if_pos q]
  cases h2:A.drop i with
  |nil=>have:=List.drop_eq_nil_iff.1 h2;omega
  |cons y r=>rfl
theorem Tm (a b:ByteArray) (ha:a.size≤16777216) (hb:b.size≤16777216):wl PP [abl] 0 (Tryz.f156.body.getD .skip) (db PP Tryz.f156.results.toList (fun r st=>(r1 (ba .i64)).get true st.h r=some (yw (fold a) (fold b)))) (cd 0 [ai.val false a,ai.val false b]) (bk []):=by
 have hq:∀ a b c d,eu a b c=d→eu a b c=d:=fun _ _ _ _ h=>h
 obtain ⟨A,hA⟩:∃ A,A=fold a:=⟨_,rfl⟩
 obtain ⟨B,hB⟩:∃ B,B=fold b:=⟨_,rfl⟩
 have hla:A.data.toList.length=A.size:=by simp
 have hlb:B.data.toList.length=B.size:=by simp
 have sa:A.size≤16777216:=by rw [hA,D6];exact ha
 have sb:B.size≤16777216:=by rw [hB,D6];exact hb
 rw [← hA,← hB]
 unfold yw
 unfold Tryz.f156
 simp only [↓wR,RA,simprocAttr,TF,ae,tv,ha,hb,← hA,← hB]
 refine dp [5,6,7] (fun (i:Nat)=>[.sc (.string A),.sc (.string B),.sc (.int .i64 (i))]) (fun _=>[]) (fun i=>i≤A.size∧i≤B.size∧Lib.compareBytes A.data.toList B.data.toList=Lib.compareBytes (A.data.toList.drop i) (B.data.toList.drop i)) (fun i=>A.size - i) 0 ⟨Nat.zero_le _,Nat.zero_le _,rfl⟩ (by simp only [↓wR,RA,simprocAttr,TF,ae]<;>rfl) (by simp only [↓wR,RA,simprocAttr,TF,ae]<;>rfl) ?_
 rintro i ⟨hi,hj,hv⟩
 simp only [↓wR,RA,simprocAttr,TF,ae]
 rw [bb];refine ⟨fun h1=>?_,fun h1=>?_⟩
 ·simp only [↓wR,RA,simprocAttr,TF,ae,h1]
  rw [bb];refine ⟨fun h2=>?_,fun h2=>?_⟩
  ·obtain ⟨x,hx⟩:∃ x,A.data.toList[i]? = some x:=⟨_,List.getElem?_eq_getElem (by omega)⟩
   obtain ⟨y,hy⟩:∃ y,B.data.toList[i]? = some y:=⟨_,List.getElem?_eq_getElem (by omega)⟩
   have hcx:A.data.toList.drop i=x::A.data.toList.drop (i+1):=by
    obtain ⟨k,rfl⟩:=List.getElem?_eq_some_iff.1 hx;exact List.drop_eq_getElem_cons k
   have hcy:B.data.toList.drop i=y::B.data.toList.drop (i+1):=by
    obtain ⟨k,rfl⟩:=List.getElem?_eq_some_iff.1 hy;exact List.drop_eq_getElem_cons k
   rw [hcx,hcy,Lib.compareBytes] at hv
   simp only [UInt8.lt_iff_toNat_lt] at hv
   simp only [↓wR,RA,simprocAttr,TF,ae,h2]
   refine ⟨by kernel_rfl,.inl ?_⟩
   simp only [↓wR,RA,simprocAttr,TF,ae,hx,hy]
   refine ⟨by apply hq;kernel_rfl,?_⟩
   rw [bb];refine ⟨fun h3=>?_,fun h3=>?_⟩
   ·rw [if_pos (by omega)] at hv
    simp only [↓wR,RA,simprocAttr,TF,ae,h3,hv]
   ·rw [if_neg (by omega)] at hv
    simp only [↓wR,RA,simprocAttr,TF,ae,h3]
    refine ⟨by kernel_rfl,.inl ?_⟩
    simp only [↓wR,RA,simprocAttr,TF,ae,hx,hy]
    refine ⟨by apply hq;kernel_rfl,?_⟩
    rw [bb];refine ⟨fun h4=>?_,fun h4=>?_⟩
    ·rw [if_pos (by omega)] at hv
     simp only [↓wR,RA,simprocAttr,TF,ae,h4,hv]
    ·rw [if_neg (by omega)] at hv
     simp only [↓wR,RA,simprocAttr,TF,ae,h4];repeat (simp (disch:=omega) only [ag,bz,b9,bu,bw];try simp only [↓wR,RA,simprocAttr,TF,ae,h4])
     exact ⟨i+1,⟨by omega,by omega,hv⟩,by omega,by (first|rfl|trivial|omega|((try (simp (disch:=omega) only [ag]));(try (simp only [FB]));first|done|rfl|omega))⟩
  ·have he:=agq (A:=A.data.toList) (B:=B.data.toList) (i:=i) (by omega) (by omega) (by omega)
   rw [hv,he,hla,hlb]
   simp only [↓wR,RA,simprocAttr,TF,ae,h2]
   rw [bb];refine ⟨fun h5=>?_,fun h5=>?_⟩
   ·rw [if_pos (by omega)];simp only [↓wR,RA,simprocAttr,TF,ae,h5]
   ·rw [if_neg (by omega)]
    simp only [↓wR,RA,simprocAttr,TF,ae,h5]
    rw [bb];refine ⟨fun h6=>?_,fun h6=>?_⟩
    ·rw [if_pos (by omega)];simp only [↓wR,RA,simprocAttr,TF,ae,h6]
    ·rw [if_neg (by omega)];simp only [↓wR,RA,simprocAttr,TF,ae,h6]
 ·have he:=agq (A:=A.data.toList) (B:=B.data.toList) (i:=i) (by omega) (by omega) (by omega)
  rw [hv,he,hla,hlb]
  simp only [↓wR,RA,simprocAttr,TF,ae,h1]
  rw [bb];refine ⟨fun h5=>?_,fun h5=>?_⟩
  ·rw [if_pos (by omega)];simp only [↓wR,RA,simprocAttr,TF,ae,h5]
  ·rw [if_neg (by omega)]
   simp only [↓wR,RA,simprocAttr,TF,ae,h5]
   rw [bb];refine ⟨fun h6=>?_,fun h6=>?_⟩
   ·rw [if_pos (by omega)];simp only [↓wR,RA,simprocAttr,TF,ae,h6]
   ·rw [if_neg (by omega)];simp only [↓wR,RA,simprocAttr,TF,ae,h6]
noncomputable def o9 (x:ByteArray × ByteArray × Unit):Option AV:=if x.1.size≤16777216∧x.2.1.size≤16777216 then some ((r1 (ba .i64)).E true (yw (fold x.1) (fold x.2.1))) else none
set_option maxRecDepth 2000000 in
theorem Db (x:ByteArray × ByteArray × Unit) (r:AV) (h:o9 x=some r):bc PP 156 ((aC ai (aC ai a0)).E x) r:=by
 by_cases hc:x.1.size≤16777216∧x.2.1.size≤16777216
 case neg=>simp only [o9,if_neg hc] at h;cases h
 simp only [o9,if_pos hc] at h
 cases h
 exact au (ak.cons (aj Iv) (ak.nil PP)) Tryz.func156 (by kernel_rfl) (by kernel_rfl) (by kernel_rfl) (Nat.le_of_ble_eq_true (by kernel_rfl)) (r1 (ba .i64)) true (yw (fold x.1) (fold x.2.1)) (Tm x.1 x.2.1 hc.1 hc.2)
noncomputable abbrev My:Nat × Bool × (List AV→M AV):=(156,true,cx (aC ai (aC ai a0)) o9)
theorem aqq (n:Name) (hn:cf n<17592186044416):wl PP [] 0 (Tryz.f125.body.getD .skip) (db PP Tryz.f125.results.toList (fun r st=>(r1 (ba .i64)).get true st.h r=some (cf n:Int))) (cd 0 [aq.val false n]) (bk []):=by
 unfold Tryz.f125
 simp only [cq]
 simp only [↓wR,RA,simprocAttr,TF,ae]
 refine dp [0,3,4] (fun (i:Nat)=>[.vl false 1 (n.map (ai.val false)),.sc (.int .i64 (cf (n.take i))),.sc (.int .i64 (i))]) (fun _=>[]) (fun i=>i≤n.length∧cf (n.take i)≤cf n∧i<cf (n.take i)) (fun i=>n.length - i) 0 ⟨Nat.zero_le _,(i6 n 0).1,by simp [cf]⟩ (by simp only [↓wR,RA,simprocAttr,TF,ae]<;>rfl) (by simp only [↓wR,RA,simprocAttr,TF,ae]<;>rfl) ?_
 rintro i ⟨hi,hle,hgt⟩
 simp only [↓wR,RA,simprocAttr,TF,ae]
 rw [bb];refine ⟨fun h=>?_,fun h=>?_⟩
 ·obtain ⟨c,hc,hd1,hlt⟩:=dq (decide_eq_true h)
  have hnx:=B5 n i c hc
  have hle2:=(i6 n (i+1)).1
  simp only [↓wR,RA,simprocAttr,TF,ae,h,hc];repeat (simp (disch:=omega) only [ag,bz,b9,bu,bw];try simp only [↓wR,RA,simprocAttr,TF,ae,h,hc])
  refine ⟨i+1,⟨hlt,hle2,by omega⟩,by omega,?_⟩
  rw [hnx];(first|rfl|trivial|omega|((try (simp (disch:=omega) only [ag]));(try (simp only [FB]));first|done|rfl|omega))
 ·have hin:n.take i=n:=List.take_of_length_le (by omega)
  rw [hin]
  simp only [↓wR,RA,simprocAttr,TF,ae,h]
noncomputable def zn (x:Name × Unit):Option AV:=if cf x.1<17592186044416 then some ((r1 (ba .i64)).E true ((cf x.1:Int))) else none
set_option maxRecDepth 2000000 in
theorem Mx (x:Name × Unit) (r:AV) (h:zn x=some r):bc PP 125 ((aC aq a0).E x) r:=by
 by_cases hc:cf x.1<17592186044416
 case neg=>simp only [zn,if_neg hc] at h;cases h
 simp only [zn,if_pos hc] at h
 cases h
 exact au (ak.nil PP) Tryz.func125 (by kernel_rfl) (by kernel_rfl) (by kernel_rfl) (Nat.le_of_ble_eq_true (by kernel_rfl)) (r1 (ba .i64)) true ((cf x.1:Int)) (aqq x.1 hc)
noncomputable abbrev anl:Nat × Bool × (List AV→M AV):=(125,true,cx (aC aq a0) zn)
theorem aog (n:Name) (hn:cf n<17592186044416):wl PP [aoc,anl] 0 (Tryz.f85.body.getD .skip) (db PP Tryz.f85.results.toList (fun r st=>(r1 (ba .i64)).get true st.h r=some (dm n))) (cd 0 [aq.val false n]) (bk []):=by
 have hlen:n.length<cf n:=(i6 n 0).2
 unfold Tryz.f85
 simp only [cq]
 simp only [↓wR,RA,simprocAttr,TF,ae]
 refine dp [0,3] (fun (i:Nat)=>[.vl false 1 (n.map (ai.val false)),.sc (.int .i64 (i))]) (fun _=>[]) (fun i=>i≤n.length∧pg (n.take i)=false) (fun i=>n.length - i) 0 ⟨Nat.zero_le _,rfl⟩ (by simp only [↓wR,RA,simprocAttr,TF,ae]<;>rfl) (by simp only [↓wR,RA,simprocAttr,TF,ae]<;>rfl) ?_
 rintro i ⟨hi,hb⟩
 simp only [↓wR,RA,simprocAttr,TF,ae]
 rw [bb];refine ⟨fun h=>?_,fun h=>?_⟩
 ·obtain ⟨c,hc,hd1,hlt⟩:=dq (decide_eq_true h)
  simp only [↓wR,RA,simprocAttr,TF,ae,h,hc,Ci];repeat (simp (disch:=omega) only [ag,bz,b9,bu,bw];try simp only [↓wR,RA,simprocAttr,TF,ae,h,hc,Ci])
  rw [de];refine ⟨fun ⟨h2,e2⟩=>?_,fun ⟨h2,e2⟩=>?_⟩
  ·have hbad:=I6 n i c hc e2
   have hne:gz c=4:=by
    unfold gz at e2 ⊢
    split at e2
    ·rename_i q;rw [if_pos q]
    ·exact absurd rfl e2
   have hv:dm n=4:=by unfold dm;rw [if_pos hbad]
   simp only [↓wR,RA,simprocAttr,TF,ae,h2,hv,hne]
  ·simp only [↓wR,RA,simprocAttr,TF,ae,h2];repeat (simp (disch:=omega) only [ag,bz,b9,bu,bw];try simp only [↓wR,RA,simprocAttr,TF,ae,h2])
   refine ⟨i+1,⟨hlt,?_⟩,by omega,by (first|rfl|trivial|omega|((try (simp (disch:=omega) only [ag]));(try (simp only [FB]));first|done|rfl|omega))⟩
   rw [Kr n i c hc,hb];simpa using e2
 ·have hin:n.take i=n:=List.take_of_length_le (by omega)
  rw [hin] at hb
  simp only [↓wR,RA,simprocAttr,TF,ae,h,zn,hn]
  rw [bb];refine ⟨fun h3=>?_,fun h3=>?_⟩
  ·have hv:dm n=5:=by unfold dm;rw [hb,if_neg (by simp),if_pos (by omega)]
   simp only [↓wR,RA,simprocAttr,TF,ae,h3,hv]
  ·have hv:dm n=0:=by unfold dm;rw [hb,if_neg (by simp),if_neg (by omega)]
   simp only [↓wR,RA,simprocAttr,TF,ae,h3,hv]
noncomputable def xl (x:Name × Unit):Option AV:=if cf x.1<17592186044416 then some ((r1 (ba .i64)).E true (dm x.1)) else none
set_option maxRecDepth 2000000 in
theorem A1 (x:Name × Unit) (r:AV) (h:xl x=some r):bc PP 85 ((aC aq a0).E x) r:=by
 by_cases hc:cf x.1<17592186044416
 case neg=>simp only [xl,if_neg hc] at h;cases h
 simp only [xl,if_pos hc] at h
 cases h
 exact au (ak.cons (aj Un) (ak.cons (aj Mx) (ak.nil PP))) Tryz.func85 (by kernel_rfl) (by kernel_rfl) (by kernel_rfl) (Nat.le_of_ble_eq_true (by kernel_rfl)) (r1 (ba .i64)) true (dm x.1) (aog x.1 hc)
noncomputable abbrev Sb:Nat × Bool × (List AV→M AV):=(85,true,cx (aC aq a0) xl)
theorem ady (l:List ByteArray):jm [] l=0:=by cases l<;>rfl
theorem akq (a b:Name) (ha:bj a) (hb:bj b):wl PP [My] 0 (Tryz.f113.body.getD .skip) (db PP Tryz.f113.results.toList (fun r st=>(r1 (ba .i64)).get true st.h r=some (common a b:Int))) (cd 0 [aq.val false a,aq.val false b]) (bk []):=by
 have hq:∀ a b c d,eu a b c=d→eu a b c=d:=fun _ _ _ _ h=>h
 have la:=ha.lt
 have lb:=hb.lt
 unfold Tryz.f113
 simp only [cq]
 simp only [↓wR,RA,simprocAttr,TF,ae]
 refine dp [0,1,5] (fun (x:Nat)=>[.vl false 1 (a.map (ai.val false)),.vl false 1 (b.map (ai.val false)),.sc (.int .i64 (x))]) (fun _=>[]) (fun x=>x≤a.length∧x≤b.length∧common a b=x+jm (a.reverse.drop x) (b.reverse.drop x)) (fun x=>a.length - x) 0 ⟨Nat.zero_le _,Nat.zero_le _,by simp [common]⟩ (by simp only [↓wR,RA,simprocAttr,TF,ae]<;>rfl) (by simp only [↓wR,RA,simprocAttr,TF,ae]<;>rfl) ?_
 rintro x ⟨hx,hx2,hR⟩
 simp only [↓wR,RA,simprocAttr,TF,ae]
 refine ⟨by kernel_rfl,.inl ?_⟩
 rw [bb];refine ⟨fun h1=>?_,fun h1=>?_⟩
 ·simp only [↓wR,RA,simprocAttr,TF,ae,h1]
  rw [bb];refine ⟨fun h2=>?_,fun h2=>?_⟩
  ·obtain ⟨c,hc⟩:∃ c,a[a.length - 1 - x]? = some c:=⟨_,List.getElem?_eq_getElem (by omega)⟩
   obtain ⟨d,hd⟩:∃ d,b[b.length - 1 - x]? = some d:=⟨_,List.getElem?_eq_getElem (by omega)⟩
   have e1:((a.length:Int) - 1 - x).toNat=a.length - 1 - x:=by omega
   have e2:(0:Int)≤(a.length:Int) - 1 - x:=by omega
   have e4:((b.length:Int) - 1 - x).toNat=b.length - 1 - x:=by omega
   have e5:(0:Int)≤(b.length:Int) - 1 - x:=by omega
   rw [Ho (by omega) hc,Ho (by omega) hd,jm] at hR
   simp only [↓wR,RA,simprocAttr,TF,ae,h2,e1,e2,e4,e5,hc,hd,o9,ha.label c (List.mem_of_getElem? hc),hb.label d (List.mem_of_getElem? hd)];repeat (simp (disch:=omega) only [ag,bz,b9,bu,bw];try simp only [↓wR,RA,simprocAttr,TF,ae,h2,e1,e2,e4,e5,hc,hd,o9,ha.label c (List.mem_of_getElem? hc),hb.label d (List.mem_of_getElem? hd)])
   refine ⟨by apply hq;kernel_rfl,?_⟩
   rw [cj];refine ⟨fun ⟨h3,e3⟩=>?_,fun ⟨h3,e3⟩=>?_⟩
   ·have h4:fold c=fold d:=anb e3
    rw [if_pos h4] at hR
    simp only [↓wR,RA,simprocAttr,TF,ae,h3];repeat (simp (disch:=omega) only [ag,bz,b9,bu,bw];try simp only [↓wR,RA,simprocAttr,TF,ae,h3])
    exact ⟨x+1,⟨by omega,by omega,by omega⟩,by omega,by (first|rfl|trivial|omega|((try (simp (disch:=omega) only [ag]));(try (simp only [FB]));first|done|rfl|omega))⟩
   ·have h4:¬ fold c=fold d:=fun q=>e3 (by rw [q];unfold yw;exact U0 _)
    rw [if_neg h4] at hR
    simp only [↓wR,RA,simprocAttr,TF,ae,h3];repeat (simp (disch:=omega) only [ag,bz,b9,bu,bw];try simp only [↓wR,RA,simprocAttr,TF,ae,h3])
    rw [hR,Nat.add_zero]
  ·have h5:b.reverse.drop x=[]:=List.drop_eq_nil_of_le (by simp;omega)
   rw [h5,N7] at hR
   simp only [↓wR,RA,simprocAttr,TF,ae,h2];repeat (simp (disch:=omega) only [ag,bz,b9,bu,bw];try simp only [↓wR,RA,simprocAttr,TF,ae,h2])
   refine ⟨by apply hq;kernel_rfl,?_⟩
   rw [hR,Nat.add_zero]
 ·have h5:a.reverse.drop x=[]:=List.drop_eq_nil_of_le (by simp;omega)
  rw [h5,ady] at hR
  simp only [↓wR,RA,simprocAttr,TF,ae,h1];repeat (simp (disch:=omega) only [ag,bz,b9,bu,bw];try simp only [↓wR,RA,simprocAttr,TF,ae,h1])
  refine ⟨by apply hq;kernel_rfl,?_⟩
  rw [hR,Nat.add_zero]
noncomputable def ub (x:Name × Name × Unit):Option AV:=if bj x.1∧bj x.2.1 then some ((r1 (ba .i64)).E true ((common x.1 x.2.1:Int))) else none
set_option maxRecDepth 2000000 in
theorem Dg (x:Name × Name × Unit) (r:AV) (h:ub x=some r):bc PP 113 ((aC aq (aC aq a0)).E x) r:=by
 by_cases hc:bj x.1∧bj x.2.1
 case neg=>simp only [ub,if_neg hc] at h;cases h
 simp only [ub,if_pos hc] at h
 cases h
 exact au (ak.cons (aj Db) (ak.nil PP)) Tryz.func113 (by kernel_rfl) (by kernel_rfl) (by kernel_rfl) (Nat.le_of_ble_eq_true (by kernel_rfl)) (r1 (ba .i64)) true ((common x.1 x.2.1:Int)) (akq x.1 x.2.1 hc.1 hc.2)
noncomputable abbrev Tf:Nat × Bool × (List AV→M AV):=(113,true,cx (aC aq (aC aq a0)) ub)
theorem aln (n top:Name) (hn:bj n) (ht:bj top):wl PP [Tf] 0 (Tryz.f74.body.getD .skip) (db PP Tryz.f74.results.toList (fun r st=>(r1 az).get true st.h r=some (eg n top))) (cd 0 [aq.val false n,aq.val false top]) (bk []):=by
 unfold Tryz.f74
 simp only [cq]
 simp only [↓wR,RA,simprocAttr,TF,ae,ub,hn,ht]
 congr 1
 unfold eg
 have:=yd n top
 rw [Bool.eq_iff_iff];simp [← this];omega
noncomputable def u0 (x:Name × Name × Unit):Option AV:=if bj x.1∧bj x.2.1 then some ((r1 az).E true (eg x.1 x.2.1)) else none
set_option maxRecDepth 2000000 in
theorem A0 (x:Name × Name × Unit) (r:AV) (h:u0 x=some r):bc PP 74 ((aC aq (aC aq a0)).E x) r:=by
 by_cases hc:bj x.1∧bj x.2.1
 case neg=>simp only [u0,if_neg hc] at h;cases h
 simp only [u0,if_pos hc] at h
 cases h
 exact au (ak.cons (aj Dg) (ak.nil PP)) Tryz.func74 (by kernel_rfl) (by kernel_rfl) (by kernel_rfl) (Nat.le_of_ble_eq_true (by kernel_rfl)) (r1 az) true (eg x.1 x.2.1) (aln x.1 x.2.1 hc.1 hc.2)
noncomputable abbrev ma:Nat × Bool × (List AV→M AV):=(74,true,cx (aC aq (aC aq a0)) u0)
theorem aq1 (n top:Name) (hn:bj n) (ht:bj top):wl PP [Tf] 0 (Tryz.f62.body.getD .skip) (db PP Tryz.f62.results.toList (fun r st=>(r1 az).get true st.h r=some (fg n top))) (cd 0 [aq.val false n,aq.val false top]) (bk []):=by
 unfold Tryz.f62
 simp only [cq]
 simp only [↓wR,RA,simprocAttr,TF,ae,ub,hn,ht]
 rw [cy];refine ⟨fun h=>?_,fun h=>?_⟩
 ·have hl:n.length=top.length:=by simp at h;omega
  simp only [↓wR,RA,simprocAttr,TF,ae,h,ub,hn,ht]
  congr 1
  unfold fg
  have:=Ay n top
  rw [Bool.eq_iff_iff];simp [← this,hl];omega
 ·have hl:¬ n.length=top.length:=by simp at h;omega
  simp only [↓wR,RA,simprocAttr,TF,ae,h]
  have:=Ay n top
  simp [fg,← this,hl]
noncomputable def vj (x:Name × Name × Unit):Option AV:=if bj x.1∧bj x.2.1 then some ((r1 az).E true (fg x.1 x.2.1)) else none
set_option maxRecDepth 2000000 in
theorem u3 (x:Name × Name × Unit) (r:AV) (h:vj x=some r):bc PP 62 ((aC aq (aC aq a0)).E x) r:=by
 by_cases hc:bj x.1∧bj x.2.1
 case neg=>simp only [vj,if_neg hc] at h;cases h
 simp only [vj,if_pos hc] at h
 cases h
 exact au (ak.cons (aj Dg) (ak.nil PP)) Tryz.func62 (by kernel_rfl) (by kernel_rfl) (by kernel_rfl) (Nat.le_of_ble_eq_true (by kernel_rfl)) (r1 az) true (fg x.1 x.2.1) (aq1 x.1 x.2.1 hc.1 hc.2)
noncomputable abbrev m6:Nat × Bool × (List AV→M AV):=(62,true,cx (aC aq (aC aq a0)) vj)
theorem aeb (a b:Name) (ha:bj a) (hb:bj b):wl PP [Tf,My] 0 (Tryz.f116.body.getD .skip) (db PP Tryz.f116.results.toList (fun r st=>(r1 (ba .i64)).get true st.h r=some (Gx a b))) (cd 0 [aq.val false a,aq.val false b]) (bk []):=by
 unfold Tryz.f116
 simp only [cq]
 simp only [↓wR,RA,simprocAttr,TF,ae,ub,ha,hb]
 have h1:=Dk a.reverse b.reverse
 have h2:=Hm a.reverse b.reverse
 rw [List.length_reverse] at h1 h2
 change common a b≤a.length at h1
 change common a b≤b.length at h2
 obtain ⟨k,hk⟩:∃ k,common a b=k:=⟨_,rfl⟩
 rw [hk] at h1 h2
 unfold Gx
 rw [hk]
 rw [cy];refine ⟨fun h=>?_,fun h=>?_⟩
 ·simp only [↓wR,RA,simprocAttr,TF,ae,h]
  have hka:k=a.length:=by simp at h;omega
  rw [cy];refine ⟨fun h3=>?_,fun h3=>?_⟩
  ·have hkb:k=b.length:=by simp at h3;omega
   simp only [↓wR,RA,simprocAttr,TF,ae,h3]
   rw [if_pos ⟨hka,hkb⟩]
  ·have hkb:¬ k=b.length:=by simp at h3;omega
   simp only [↓wR,RA,simprocAttr,TF,ae,h3,h]
   rw [if_neg (fun e=>hkb e.2),if_pos hka]
 ·simp only [↓wR,RA,simprocAttr,TF,ae,h]
  have hka:¬ k=a.length:=by simp at h;omega
  rw [cy];refine ⟨fun h3=>?_,fun h3=>?_⟩
  ·have hkb:k=b.length:=by simp at h3;omega
   simp only [↓wR,RA,simprocAttr,TF,ae,h3]
   rw [if_neg (fun e=>hka e.1),if_neg hka,if_pos hkb]
  ·have hkb:¬ k=b.length:=by simp at h3;omega
   rw [if_neg (fun e=>hka e.1),if_neg hka,if_neg hkb]
   obtain ⟨x,hx⟩:∃ x,a[a.length - 1 - k]? = some x:=⟨_,List.getElem?_eq_getElem (by omega)⟩
   obtain ⟨y,hy⟩:∃ y,b[b.length - 1 - k]? = some y:=⟨_,List.getElem?_eq_getElem (by omega)⟩
   simp only [↓wR,RA,simprocAttr,TF,ae,h3]
   refine ⟨by kernel_rfl,.inl ?_⟩
   have la:=ha.len
   have lb:=hb.len
   simp (disch:=omega) only [ag,bz,b9,bu,bw]
   have e1:(((a.length:Int) - 1) - k).toNat=a.length - 1 - k:=by omega
   have e2:(0:Int)≤((a.length:Int) - 1) - k:=by omega
   have e3:(((b.length:Int) - 1) - k).toNat=b.length - 1 - k:=by omega
   have e4:(0:Int)≤((b.length:Int) - 1) - k:=by omega
   simp only [↓wR,RA,simprocAttr,TF,ae,hx,e1,e2]
   simp (disch:=omega) only [ag,bz,b9,bu,bw]
   simp only [↓wR,RA,simprocAttr,TF,ae,hy,e3,e4,o9,ha.label x (List.mem_of_getElem? hx),hb.label y (List.mem_of_getElem? hy)]
   exact ⟨by kernel_rfl,by simp [ajt,hx,hy]⟩
noncomputable def A8 (x:Name × Name × Unit):Option AV:=if bj x.1∧bj x.2.1 then some ((r1 (ba .i64)).E true (Gx x.1 x.2.1)) else none
set_option maxRecDepth 2000000 in
theorem Xy (x:Name × Name × Unit) (r:AV) (h:A8 x=some r):bc PP 116 ((aC aq (aC aq a0)).E x) r:=by
 by_cases hc:bj x.1∧bj x.2.1
 case neg=>simp only [A8,if_neg hc] at h;cases h
 simp only [A8,if_pos hc] at h
 cases h
 exact au (ak.cons (aj Dg) (ak.cons (aj Db) (ak.nil PP))) Tryz.func116 (by kernel_rfl) (by kernel_rfl) (by kernel_rfl) (Nat.le_of_ble_eq_true (by kernel_rfl)) (r1 (ba .i64)) true (Gx x.1 x.2.1) (aeb x.1 x.2.1 hc.1 hc.2)
noncomputable abbrev ari:Nat × Bool × (List AV→M AV):=(116,true,cx (aC aq (aC aq a0)) A8)
noncomputable def mi:dh Shape:=yj (jq (ba .i64) (jq (ba .i64) (jq (ba .i64) (jq (ba .i64) (ba .i64))))) (fun s=>(s.names,s.nums,s.texts,s.raw,s.size)) (fun p=>⟨p.1,p.2.1,p.2.2.2.2,p.2.2.1,p.2.2.2.1⟩) (fun _=>rfl) (fun _=>rfl)
theorem sm (l:Bool) (s:Shape):mi.val l s = .agg [.sc (.int .i64 s.names),.sc (.int .i64 s.nums),.sc (.int .i64 s.texts),.sc (.int .i64 s.raw),.sc (.int .i64 s.size)]:=id rfl
theorem gk (fr h) (a b c d e:Int):mi.fq fr h (.agg [.sc (.int .i64 a),.sc (.int .i64 b),.sc (.int .i64 c),.sc (.int .i64 d),.sc (.int .i64 e)])=some ⟨a,b,e,c,d⟩:=ave mi fr h ⟨a,b,e,c,d⟩
theorem awc (t:UInt16):wl PP [] 0 (Tryz.f164.body.getD .skip) (db PP Tryz.f164.results.toList (fun r st=>(r2 mi az).get true st.h r=some (cz t,!lf t))) (cd 0 [cw.val false t]) (bk []):=by
 have hk:∀ n:Int,(t.toNat:Int)=n→n≠0→¬ (128≤n∧n≤255)→lf t=false:=by
  intro n h1 h2 h3
  unfold lf
  rw [h1]
  simp only [Bool.or_eq_false_iff,beq_eq_false_iff_ne,ne_eq,Bool.and_eq_false_iff,decide_eq_false_iff_not]
  exact ⟨h2,by omega⟩
 unfold Tryz.f164
 unfold cz
 simp only [↓wR,RA,simprocAttr,TF,ae]
 rw [cj];refine ⟨fun ⟨h0,e0⟩=>?_,fun ⟨h0,e0⟩=>?_⟩
 ·simp only [↓wR,RA,simprocAttr,TF,ae,h0,gk,hk _ e0 (by decide) (by decide)]
  rw [if_pos e0]
 rw [if_neg e0]
 simp only [↓wR,RA,simprocAttr,TF,ae,h0]
 rw [cj];refine ⟨fun ⟨h1,e1⟩=>?_,fun ⟨h1,e1⟩=>?_⟩
 ·simp only [↓wR,RA,simprocAttr,TF,ae,h1,gk,hk _ e1 (by decide) (by decide)]
  rw [if_pos e1]
 rw [if_neg e1]
 simp only [↓wR,RA,simprocAttr,TF,ae,h1]
 rw [cj];refine ⟨fun ⟨h2,e2⟩=>?_,fun ⟨h2,e2⟩=>?_⟩
 ·simp only [↓wR,RA,simprocAttr,TF,ae,h2,gk,hk _ e2 (by decide) (by decide)]
  rw [if_pos e2]
 rw [if_neg e2]
 simp only [↓wR,RA,simprocAttr,TF,ae,h2]
 rw [cj];refine ⟨fun ⟨h3,e3⟩=>?_,fun ⟨h3,e3⟩=>?_⟩
 ·simp only [↓wR,RA,simprocAttr,TF,ae,h3,gk,hk _ e3 (by decide) (by decide)]
  rw [if_pos e3]
 rw [if_neg e3]
 simp only [↓wR,RA,simprocAttr,TF,ae,h3]
 rw [cj];refine ⟨fun ⟨h4,e4⟩=>?_,fun ⟨h4,e4⟩=>?_⟩
 ·simp only [↓wR,RA,simprocAttr,TF,ae,h4,gk,hk _ e4 (by decide) (by decide)]
  rw [if_pos e4]
 rw [if_neg e4]
 simp only [↓wR,RA,simprocAttr,TF,ae,h4]
 rw [cj];refine ⟨fun ⟨h5,e5⟩=>?_,fun ⟨h5,e5⟩=>?_⟩
 ·simp only [↓wR,RA,simprocAttr,TF,ae,h5,gk,hk _ e5 (by decide) (by decide)]
  rw [if_pos e5]
 rw [if_neg e5]
 simp only [↓wR,RA,simprocAttr,TF,ae,h5]
 rw [cj];refine ⟨fun ⟨h6,e6⟩=>?_,fun ⟨h6,e6⟩=>?_⟩
 ·simp only [↓wR,RA,simprocAttr,TF,ae,h6,gk,hk _ e6 (by decide) (by decide)]
  rw [if_pos e6]
 rw [if_neg e6]
 simp only [↓wR,RA,simprocAttr,TF,ae,h6]
 rw [cj];refine ⟨fun ⟨h7,e7⟩=>?_,fun ⟨h7,e7⟩=>?_⟩
 ·simp only [↓wR,RA,simprocAttr,TF,ae,h7,gk,hk _ e7 (by decide) (by decide)]
  rw [if_pos e7]
 rw [if_neg e7]
 simp only [↓wR,RA,simprocAttr,TF,ae,h7]
 rw [cj];refine ⟨fun ⟨h8,e8⟩=>?_,fun ⟨h8,e8⟩=>?_⟩
 ·simp only [↓wR,RA,simprocAttr,TF,ae,h8,gk,hk _ e8 (by decide) (by decide)]
  rw [if_pos e8]
 rw [if_neg e8]
 simp only [↓wR,RA,simprocAttr,TF,ae,h8]
 rw [cj];refine ⟨fun ⟨h9,e9⟩=>?_,fun ⟨h9,e9⟩=>?_⟩
 ·simp only [↓wR,RA,simprocAttr,TF,ae,h9,gk,hk _ e9 (by decide) (by decide)]
  rw [if_pos e9]
 rw [if_neg e9]
 simp only [↓wR,RA,simprocAttr,TF,ae,h9]
 have hb:(!lf t)=(if (t.toNat:Int)=0 then false else if (t.toNat:Int)<128 then true else decide (255<(t.toNat:Int))):=by
  unfold lf
  rw [Bool.eq_iff_iff]
  split
  ·rename_i h;simp [h]
  ·split
   ·rename_i h1 h2;simp [h1];omega
   ·rename_i h1 h2;simp [h1];omega
 rw [hb]
 rw [de];refine ⟨fun ⟨h10,e10⟩=>?_,fun ⟨h10,e10⟩=>?_⟩
 ·rw [if_neg e10]
  simp only [↓wR,RA,simprocAttr,TF,ae,h10]
  rw [bb];refine ⟨fun h11=>?_,fun h11=>?_⟩
  ·rw [if_pos h11]
   simp only [↓wR,RA,simprocAttr,TF,ae,h11,gk]
  ·rw [if_neg h11]
   simp only [↓wR,RA,simprocAttr,TF,ae,h11,gk]
 ·rw [if_pos e10]
  simp only [↓wR,RA,simprocAttr,TF,ae,h10,gk]
noncomputable def acx (x:UInt16 × Unit):Option AV:=some ((r2 mi az).E true ((cz x.1,!lf x.1)))
set_option maxRecDepth 2000000 in
theorem Pd (x:UInt16 × Unit) (r:AV) (h:acx x=some r):bc PP 164 ((aC cw a0).E x) r:=by
 cases h
 exact au (ak.nil PP) Tryz.func164 (by kernel_rfl) (by kernel_rfl) (by kernel_rfl) (Nat.le_of_ble_eq_true (by kernel_rfl)) (r2 mi az) true ((cz x.1,!lf x.1)) (awc x.1)
noncomputable abbrev rOf:Nat × Bool × (List AV→M AV):=(164,true,cx (aC cw a0) acx)
def vx (n:Int):UInt32:=if n=1 then 255 else if n=2 then 65535 else 4294967295
theorem apn (n:Int):wl PP [] 0 (Tryz.f188.body.getD .skip) (db PP Tryz.f188.results.toList (fun r st=>(r1 cg).get true st.h r=some (vx n))) (cd 0 [(ba .i64).val false n]) (bk []):=by
 unfold vx
 unfold Tryz.f188
 simp only [↓wR,RA,simprocAttr,TF,ae]
 rw [cj];refine ⟨fun ⟨h0,e0⟩=>?_,fun ⟨h0,e0⟩=>?_⟩
 ·simp only [↓wR,RA,simprocAttr,TF,ae,h0]
  rw [if_pos e0];rfl
 rw [if_neg e0]
 simp only [↓wR,RA,simprocAttr,TF,ae,h0]
 rw [cj];refine ⟨fun ⟨h1,e1⟩=>?_,fun ⟨h1,e1⟩=>?_⟩
 ·simp only [↓wR,RA,simprocAttr,TF,ae,h1]
  rw [if_pos e1];rfl
 rw [if_neg e1]
 simp only [↓wR,RA,simprocAttr,TF,ae,h1]
 rfl
noncomputable def acd (x:Int × Unit):Option AV:=some ((r1 cg).E true (vx x.1))
set_option maxRecDepth 2000000 in
theorem ajo (x:Int × Unit) (r:AV) (h:acd x=some r):bc PP 188 ((aC (ba .i64) a0).E x) r:=by
 cases h
 exact au (ak.nil PP) Tryz.func188 (by kernel_rfl) (by kernel_rfl) (by kernel_rfl) (Nat.le_of_ble_eq_true (by kernel_rfl)) (r1 cg) true (vx x.1) (apn x.1)
noncomputable abbrev axi:Nat × Bool × (List AV→M AV):=(188,true,cx (aC (ba .i64) a0) acd)
theorem aja (n:UInt32) (k:Int) (hk : 0≤k∧k≤4):wl PP [] 0 (Tryz.f191.body.getD .skip) (db PP Tryz.f191.results.toList (fun r st=>(r1 (br bg)).get false st.h r=some ((yx n).drop (4 - k).toNat))) (cd 0 [cg.val false n,(ba .i64).val false k]) (bk []):=by
 unfold Tryz.f191
 simp only [↓wR,RA,simprocAttr,TF,ae]
 simp (disch:=omega) only [ag,bz,b9,bu,bw]
 have h4:(4 - k).toNat≤4:=by omega
 have hkk:k=0∨k=1∨k=2∨k=3∨k=4:=by omega
 simp only [↓wR,RA,simprocAttr,TF,ae,hk,h4]
 rcases hkk with rfl|rfl|rfl|rfl|rfl<;>first|rfl|(simp only [↓wR,RA,simprocAttr,TF,ae,Rw];done)|(simp only [↓wR,RA,simprocAttr,TF,ae,Rw,List.drop,List.take];rfl)
noncomputable def zo (x:UInt32 × Int × Unit):Option AV:=if 0≤x.2.1∧x.2.1≤4 then some ((r1 (br bg)).E false (((yx x.1).drop (4 - x.2.1).toNat))) else none
set_option maxRecDepth 2000000 in
theorem ade (x:UInt32 × Int × Unit) (r:AV) (h:zo x=some r):bc PP 191 ((aC cg (aC (ba .i64) a0)).E x) r:=by
 by_cases hc : 0≤x.2.1∧x.2.1≤4
 case neg=>simp only [zo,if_neg hc] at h;cases h
 simp only [zo,if_pos hc] at h
 cases h
 exact au (ak.nil PP) Tryz.func191 (by kernel_rfl) (by kernel_rfl) (by kernel_rfl) (Nat.le_of_ble_eq_true (by kernel_rfl)) (r1 (br bg)) false (((yx x.1).drop (4 - x.2.1).toNat)) (aja x.1 x.2.1 hc)
noncomputable abbrev auk:Nat × Bool × (List AV→M AV):=(191,true,cx (aC cg (aC (ba .i64) a0)) zo)
theorem asy (s:ByteArray) (hs:s.size≤16777216):wl PP [] 0 (Tryz.f189.body.getD .skip) (db PP Tryz.f189.results.toList (fun r st=>(r1 az).get true st.h r=some (qx s))) (cd 0 [ai.val false s]) (bk []):=by
 unfold Tryz.f189
 simp only [↓wR,RA,simprocAttr,TF,ae]
 rw [bb];refine ⟨fun h1=>?_,fun h1=>?_⟩
 ·have hv:qx s=false:=by unfold qx;rw [Bool.and_eq_false_iff];right;rw [decide_eq_false_iff_not];omega
  simp only [↓wR,RA,simprocAttr,TF,ae,h1,hv]
 simp only [↓wR,RA,simprocAttr,TF,ae,h1]
 rw [bb];refine ⟨fun h2=>?_,fun h2=>?_⟩
 ·have hv:qx s=false:=by unfold qx;rw [Bool.and_eq_false_iff];right;rw [decide_eq_false_iff_not];omega
  simp only [↓wR,RA,simprocAttr,TF,ae,h2,hv]
 simp only [↓wR,RA,simprocAttr,TF,ae,h2]
 refine dp [0,3] (fun (i:Nat)=>[.sc (.string s),.sc (.int .i64 i)]) (fun _=>[]) (fun i=>i≤s.size∧s.data.toList.all An=(s.data.toList.drop i).all An) (fun i=>s.size - i) 0 ⟨Nat.zero_le _,rfl⟩ (by simp only [↓wR,RA,simprocAttr,TF,ae]<;>rfl) (by simp only [↓wR,RA,simprocAttr,TF,ae]<;>rfl) ?_
 rintro i ⟨hi,hR⟩
 simp only [↓wR,RA,simprocAttr,TF,ae]
 rw [bb];refine ⟨fun h=>?_,fun h=>?_⟩
 ·obtain ⟨c,hc⟩:∃ c,s.data.toList[i]? = some c:=⟨_,List.getElem?_eq_getElem (by simp;omega)⟩
  have hd:=Ak hc
  rw [hd,List.all_cons] at hR
  simp only [↓wR,RA,simprocAttr,TF,ae,h,hc];repeat (simp (disch:=omega) only [ag,bz,b9,bu,bw];try simp only [↓wR,RA,simprocAttr,TF,ae,h,hc])
  repeat' (rw [bb];refine ⟨fun h=>?_,fun h=>?_⟩<;>simp only [↓wR,RA,simprocAttr,TF,h,hc])
  all_goals first
   |(
    have ht:An c=false:=by (unfold An;rw [decide_eq_false_iff_not];omega)
    rw [qx,hR,ht];rfl)
   |(
    have ht:An c=true:=by (unfold An;rw [decide_eq_true_eq];omega)
    refine ⟨i+1,⟨by omega,by rw [hR,ht];simp⟩,by omega,by (first|rfl|trivial|omega|((try (simp (disch:=omega) only [ag]));(try (simp only [FB]));first|done|rfl|omega))⟩)
 ·have hdn:s.data.toList.drop i=[]:=List.drop_eq_nil_of_le (by simp;omega)
  rw [hdn,List.all_nil] at hR
  have hv:qx s=true:=by unfold qx;rw [hR,Bool.true_and,decide_eq_true_eq];omega
  simp only [↓wR,RA,simprocAttr,TF,ae,h,hv]
noncomputable def Qr (x:ByteArray × Unit):Option AV:=if x.1.size≤16777216 then some ((r1 az).E true (qx x.1)) else none
set_option maxRecDepth 2000000 in
theorem an6 (x:ByteArray × Unit) (r:AV) (h:Qr x=some r):bc PP 189 ((aC ai a0).E x) r:=by
 by_cases hc:x.1.size≤16777216
 case neg=>simp only [Qr,if_neg hc] at h;cases h
 simp only [Qr,if_pos hc] at h
 cases h
 exact au (ak.nil PP) Tryz.func189 (by kernel_rfl) (by kernel_rfl) (by kernel_rfl) (Nat.le_of_ble_eq_true (by kernel_rfl)) (r1 az) true (qx x.1) (asy x.1 hc)
noncomputable abbrev ax3:Nat × Bool × (List AV→M AV):=(189,true,cx (aC ai a0) Qr)
noncomputable def Lo (t:UInt16) (d:bo):Bool:=if (t.toNat:Int)=257 then qx (d.texts.headD ⟨#[]⟩) else true
noncomputable def aj5 (t:UInt16) (d:bo):Bool:=if (t.toNat:Int)=16∧(d.texts.any fun x=>decide (255<x.size))=true then false else Lo t d
noncomputable def Yt (s:Shape) (t:UInt16) (d:bo):Bool:=if (d.nums.any fun n=>decide ((vx s.size).toNat<n.toNat))=true then false else aj5 t d
def n5 (s:Shape) (d:bo):Prop:=((d.names.length:Int)≠s.names∨(d.nums.length:Int)≠s.nums)∨(0≤s.texts∧(d.texts.length:Int)≠s.texts)∨(s.texts<0∧(d.texts.length:Int)=0)∨(0≤s.raw∧(d.raw.length:Int)≠s.raw)
noncomputable def Ck (s:Shape) (t:UInt16) (d:bo):Bool:=open Classical in if n5 s d then false else Yt s t d
def Pu (s:Shape) (t:UInt16):Prop:=(t.toNat:Int)=257→s.texts=2
instance (s:Shape) (t:UInt16):Decidable (Pu s t):=inferInstanceAs (Decidable (_→_))
set_option maxHeartbeats 4000000 in
theorem apy (s:Shape) (t:UInt16) (d:bo) (hd:cr d) (h257:Pu s t):wl PP [axi,ax3] 0 (Tryz.f165.body.getD .skip) (db PP Tryz.f165.results.toList (fun r st=>(r1 az).get true st.h r=some (Ck s t d))) (cd 0 [cw.val false t,mi.val false s,ay.val false d]) (bk []):=by
 obtain ⟨l1,l2,l3,l4⟩:=hd.lens
 have hbad:n5 s d→Ck s t d=false:=fun h=>if_pos h
 have hok:¬ n5 s d→Ck s t d=Yt s t d:=fun h=>if_neg h
 unfold Tryz.f165
 simp only [sm,fy,cq]
 have hg:∀ (L:SL) (P1:Prop),(P1→0<d.texts.length)→True:=fun _ _ _=>trivial
 simp only [↓wR,RA,simprocAttr,TF,ae]
 rw [de];refine ⟨fun ⟨a1,e1⟩=>?_,fun ⟨a1,e1⟩=>?_⟩
 ·have hv:=hbad (.inl (.inl e1))
  simp only [↓wR,RA,simprocAttr,TF,ae,a1,hv]
 simp only [↓wR,RA,simprocAttr,TF,ae,a1]
 rw [de];refine ⟨fun ⟨a2,e2⟩=>?_,fun ⟨a2,e2⟩=>?_⟩
 ·have hv:=hbad (.inl (.inr e2))
  simp only [↓wR,RA,simprocAttr,TF,ae,a2,hv]
 simp only [↓wR,RA,simprocAttr,TF,ae,a2]
 rw [bb];refine ⟨fun h3=>?_,fun h3=>?_⟩
 simp only [↓wR,RA,simprocAttr,TF,ae,h3]
 rw [de];refine ⟨fun ⟨a3,e3⟩=>?_,fun ⟨a3,e3⟩=>?_⟩
 have hv:=hbad (.inr (.inl ⟨h3,e3⟩))
 simp only [↓wR,RA,simprocAttr,TF,ae,a3,hv]
 simp only [↓wR,RA,simprocAttr,TF,ae,a3]
 rw [bb];refine ⟨fun h4=>?_,fun h4=>?_⟩
 exfalso;omega
 simp only [↓wR,RA,simprocAttr,TF,ae,h4]
 rw [bb];refine ⟨fun h5=>?_,fun h5=>?_⟩
 simp only [↓wR,RA,simprocAttr,TF,ae,h5]
 rw [de];refine ⟨fun ⟨a4,e4⟩=>?_,fun ⟨a4,e4⟩=>?_⟩
 have hv:=hbad (.inr (.inr (.inr ⟨h5,e4⟩)))
 simp only [↓wR,RA,simprocAttr,TF,ae,a4,hv]
 have hv:=hok (by unfold n5;omega)
 have hp:(t.toNat:Int)=257→0<d.texts.length:=fun q=>by have:=h257 q;omega
 simp only [↓wR,RA,simprocAttr,TF,ae,a4]
 rotate_left
 have hv:=hok (by unfold n5;omega)
 have hp:(t.toNat:Int)=257→0<d.texts.length:=fun q=>by have:=h257 q;omega
 simp only [↓wR,RA,simprocAttr,TF,ae,h5]
 rotate_left
 simp only [↓wR,RA,simprocAttr,TF,ae,h3]
 rw [bb];refine ⟨fun h4=>?_,fun h4=>?_⟩
 simp only [↓wR,RA,simprocAttr,TF,ae,h4]
 rw [cj];refine ⟨fun ⟨a3,e3⟩=>?_,fun ⟨a3,e3⟩=>?_⟩
 have hv:=hbad (.inr (.inr (.inl ⟨h4,e3⟩)))
 simp only [↓wR,RA,simprocAttr,TF,ae,a3,hv]
 simp only [↓wR,RA,simprocAttr,TF,ae,a3]
 rw [bb];refine ⟨fun h5=>?_,fun h5=>?_⟩
 simp only [↓wR,RA,simprocAttr,TF,ae,h5]
 rw [de];refine ⟨fun ⟨a4,e4⟩=>?_,fun ⟨a4,e4⟩=>?_⟩
 have hv:=hbad (.inr (.inr (.inr ⟨h5,e4⟩)))
 simp only [↓wR,RA,simprocAttr,TF,ae,a4,hv]
 have hv:=hok (by unfold n5;omega)
 have hp:(t.toNat:Int)=257→0<d.texts.length:=fun q=>by have:=h257 q;omega
 simp only [↓wR,RA,simprocAttr,TF,ae,a4]
 rotate_left
 have hv:=hok (by unfold n5;omega)
 have hp:(t.toNat:Int)=257→0<d.texts.length:=fun q=>by have:=h257 q;omega
 simp only [↓wR,RA,simprocAttr,TF,ae,h5]
 rotate_left
 exfalso;omega
 all_goals
  rw [hv]
  clear hv hg hbad hok h257
  unfold Yt
  refine dp [0,4,5,7] (fun (i:Nat)=>[.sc (.int .u16 t.toNat),.ptr 0 0,.ptr 1 0,.sc (.int .i64 (i))]) (fun _=>[some (.row [.sc (.int .i64 (s).names),.sc (.int .i64 (s).nums),.sc (.int .i64 (s).texts),.sc (.int .i64 (s).raw),.sc (.int .i64 (s).size)] 0 2 183),some (.row [.vl false 1 (d.names.map (aq.val false)),.vl false 1 (d.nums.map (cg.val false)),.vl false 1 (d.texts.map (ai.val false)),.vl false 1 (d.raw.map (bg.val false))] 0 2 101)]) (fun i=>i≤d.nums.length∧(d.nums.any fun n=>decide ((vx s.size).toNat<n.toNat))=((d.nums.drop i).any fun n=>decide ((vx s.size).toNat<n.toNat))) (fun i=>d.nums.length - i) 0 ⟨Nat.zero_le _,by rw [List.drop_zero]⟩ (by simp only [↓wR,RA,simprocAttr,TF,ae]<;>rfl) (by simp only [↓wR,RA,simprocAttr,TF,ae]<;>rfl) ?_
  rintro i ⟨hi,hR⟩
  simp only [↓wR,RA,simprocAttr,TF,ae]
  rw [bb];refine ⟨fun h=>?_,fun h=>?_⟩
  ·obtain ⟨c,hc,hd1,hlt⟩:=dq (decide_eq_true h)
   rw [hd1,List.any_cons] at hR
   simp only [↓wR,RA,simprocAttr,TF,ae,h]
   refine ⟨by kernel_rfl,.inl ?_⟩
   simp only [↓wR,RA,simprocAttr,TF,ae,hc,acd]
   refine ⟨by kernel_rfl,?_⟩
   rw [bb];refine ⟨fun h6=>?_,fun h6=>?_⟩
   ·rw [if_pos (by rw [hR,decide_eq_true (by omega),Bool.true_or])]
    simp only [↓wR,RA,simprocAttr,TF,ae,h6]
   ·simp only [↓wR,RA,simprocAttr,TF,ae,h6];repeat (simp (disch:=omega) only [ag,bz,b9,bu,bw];try simp only [↓wR,RA,simprocAttr,TF,ae,h6])
    exact ⟨i+1,⟨hlt,by rw [hR,decide_eq_false (by omega),Bool.false_or]⟩,by omega,by (first|rfl|trivial|omega|((try (simp (disch:=omega) only [ag]));(try (simp only [FB]));first|done|rfl|omega))⟩
  rw [en (decide_eq_false h),List.any_nil] at hR
  rw [if_neg (by rw [hR];decide)]
  simp only [↓wR,RA,simprocAttr,TF,ae,h]
  unfold aj5
  refine dp [0,5,8] (fun (i:Nat)=>[.sc (.int .u16 t.toNat),.ptr 0 0,.sc (.int .i64 (i))]) (fun _=>[some (.row [.vl false 1 (d.names.map (aq.val false)),.vl false 1 (d.nums.map (cg.val false)),.vl false 1 (d.texts.map (ai.val false)),.vl false 1 (d.raw.map (bg.val false))] 0 2 101)]) (fun i=>i≤d.texts.length∧(d.texts.any fun x=>decide (255<x.size))=((d.texts.drop i).any fun x=>decide (255<x.size))) (fun i=>d.texts.length - i) 0 ⟨Nat.zero_le _,by rw [List.drop_zero]⟩ (by simp only [↓wR,RA,simprocAttr,TF,ae]<;>rfl) (by simp only [↓wR,RA,simprocAttr,TF,ae]<;>rfl) ?_
  rintro i ⟨hi2,hR2⟩
  simp only [↓wR,RA,simprocAttr,TF,ae]
  rw [cj];refine ⟨fun ⟨h7,e7⟩=>?_,fun ⟨h7,e7⟩=>?_⟩
  ·simp only [↓wR,RA,simprocAttr,TF,ae,h7]
   rw [bb];refine ⟨fun h8=>?_,fun h8=>?_⟩
   ·obtain ⟨c,hc,hd1,hlt⟩:=dq (decide_eq_true h8)
    rw [hd1,List.any_cons] at hR2
    simp only [↓wR,RA,simprocAttr,TF,ae,h8,hc]
    rw [bb];refine ⟨fun h9=>?_,fun h9=>?_⟩
    ·rw [if_pos ⟨e7,by rw [hR2,decide_eq_true (by omega),Bool.true_or]⟩]
     simp only [↓wR,RA,simprocAttr,TF,ae,h9]
    ·simp only [↓wR,RA,simprocAttr,TF,ae,h9];repeat (simp (disch:=omega) only [ag,bz,b9,bu,bw];try simp only [↓wR,RA,simprocAttr,TF,ae,h9])
     exact ⟨i+1,⟨hlt,by rw [hR2,decide_eq_false (by omega),Bool.false_or]⟩,by omega,by (first|rfl|trivial|omega|((try (simp (disch:=omega) only [ag]));(try (simp only [FB]));first|done|rfl|omega))⟩
   ·rw [en (decide_eq_false h8),List.any_nil] at hR2
    rw [if_neg (by rw [hR2];rintro ⟨_,q⟩;cases q)]
    have hv:Lo t d=true:=if_neg (by omega)
    rw [hv]
    simp only [↓wR,RA,simprocAttr,TF,ae,h8,e7]
  ·rw [if_neg (fun q=>e7 q.1)]
   simp only [↓wR,RA,simprocAttr,TF,ae,h7]
   rw [de];refine ⟨fun ⟨h10,e10⟩=>?_,fun ⟨h10,e10⟩=>?_⟩
   ·have hv:Lo t d=true:=if_neg e10
    rw [hv]
    simp only [↓wR,RA,simprocAttr,TF,ae,h10]
   ·obtain ⟨c,hc⟩:∃ c,d.texts[0]? = some c:=⟨_,List.getElem?_eq_getElem (hp e10)⟩
    have hh:d.texts.headD ⟨#[]⟩=c:=by
     cases ht:d.texts with
     |nil=>rw [ht] at hc;cases hc
     |cons a l=>rw [ht] at hc;simpa using hc
    have hv:Lo t d=qx c:=by unfold Lo;rw [if_pos e10,hh]
    rw [hv]
    simp only [↓wR,RA,simprocAttr,TF,ae,h10,hc,Qr,hd.text c (List.mem_of_getElem? hc)]
noncomputable def La (x:UInt16 × Shape × bo × Unit):Option AV:=if cr x.2.2.1∧Pu x.2.1 x.1 then some ((r1 az).E true (Ck x.2.1 x.1 x.2.2.1)) else none
set_option maxRecDepth 2000000 in
theorem ais (x:UInt16 × Shape × bo × Unit) (r:AV) (h:La x=some r):bc PP 165 ((aC cw (aC mi (aC ay a0))).E x) r:=by
 by_cases hc:cr x.2.2.1∧Pu x.2.1 x.1
 case neg=>simp only [La,if_neg hc] at h;cases h
 simp only [La,if_pos hc] at h
 cases h
 exact au (ak.cons (aj ajo) (ak.cons (aj an6) (ak.nil PP))) Tryz.func165 (by kernel_rfl) (by kernel_rfl) (by kernel_rfl) (Nat.le_of_ble_eq_true (by kernel_rfl)) (r1 az) true (Ck x.2.1 x.1 x.2.2.1) (apy x.2.1 x.1 x.2.2.1 hc.1 hc.2)
noncomputable abbrev axj:Nat × Bool × (List AV→M AV):=(165,true,cx (aC cw (aC mi (aC ay a0))) La)
def wm (l:List Name):Nat:=(l.map cf).sum
def wh (t:UInt16):Nat→List ByteArray→Nat
 |_,[]=>0
 |i,x::r=>x.size+(if (t.toNat:Int)=16∨i=0 then 1 else 0)+wh t (i+1) r
theorem auq (l:List Name):wm l≤ik cf l:=by
 induction l with
 |nil=>exact Nat.le_refl _
 |cons a l ih=>simp only [wm,List.map_cons,List.sum_cons,ik,List.foldr_cons] at ih ⊢;omega
theorem at7 (t:UInt16) (l:List ByteArray):∀ i,wh t i l≤ik ByteArray.size l:=by
 induction l with
 |nil=>intro i;exact Nat.le_refl _
 |cons a l ih=>
  intro i
  have:=ih (i+1)
  simp only [wh,ik,List.foldr_cons] at this ⊢
  split<;>omega
def Gg (s:Shape) (t:UInt16) (d:bo):Int:=d.raw.length+d.nums.length * s.size+wm d.names+wh t 0 d.texts
theorem atn {l:List Name} {i:Nat} {c:Name} (h:l.drop i=c::l.drop (i+1)):wm (l.drop i)=cf c+wm (l.drop (i+1)):=by rw [h];simp [wm]
theorem auo {t:UInt16} {l:List ByteArray} {i:Nat} {c:ByteArray} (h:l.drop i=c::l.drop (i+1)):wh t i (l.drop i)=c.size+(if (t.toNat:Int)=16∨i=0 then 1 else 0)+wh t (i+1) (l.drop (i+1)):=by rw [h];rfl
set_option maxHeartbeats 4000000 in
theorem aoe (s:Shape) (t:UInt16) (d:bo) (hd:cr d) (hs : 0≤s.size∧s.size≤4):wl PP [anl] 0 (Tryz.f166.body.getD .skip) (db PP Tryz.f166.results.toList (fun r st=>(r1 (ba .i64)).get true st.h r=some (Gg s t d))) (cd 0 [cw.val false t,mi.val false s,ay.val false d]) (bk []):=by
 obtain ⟨l1,l2,l3,l4⟩:=hd.lens
 have hn:=auq d.names
 have ht:=at7 t d.texts 0
 have hw:ik cf d.names+ik ByteArray.size d.texts≤16777216:=by unfold cr xw at hd;omega
 have hm0 : 0≤(d.nums.length:Int) * s.size:=Int.mul_nonneg (by omega) hs.1
 have hm1:(d.nums.length:Int) * s.size≤d.nums.length * 4:=Int.mul_le_mul_of_nonneg_left hs.2 (by omega)
 have hz:Gg s t d=d.raw.length+d.nums.length * s.size+wm d.names+wh t 0 d.texts:=rfl
 obtain ⟨A,hA⟩:∃ A:Int,A=d.raw.length+d.nums.length * s.size:=⟨_,rfl⟩
 rw [hz,← hA]
 have hA0 : 0≤A∧A≤134217728:=by omega
 unfold Tryz.f166
 simp only [sm,fy,cq]
 simp only [↓wR,RA,simprocAttr,TF,ae]
 simp (disch:=omega) only [ag,bz,b9,bu,bw]
 rw [← hA]
 refine dp [0,5,7,8] (fun (i:Nat)=>[.sc (.int .u16 t.toNat),.ptr 0 0,.sc (.int .i64 (A+(wm d.names - wm (d.names.drop i):Nat))),.sc (.int .i64 (i))]) (fun _=>[some (.row [.vl false 1 (d.names.map (aq.val false)),.vl false 1 (d.nums.map (cg.val false)),.vl false 1 (d.texts.map (ai.val false)),.vl false 1 (d.raw.map (bg.val false))] 0 2 101)]) (fun i=>i≤d.names.length∧wm (d.names.drop i)≤wm d.names) (fun i=>d.names.length - i) 0 ⟨Nat.zero_le _,Nat.le_refl _⟩ (by simp only [↓wR,RA,simprocAttr,TF,ae]<;>first|rfl|(rw [List.drop_zero,Nat.sub_self,Int.add_zero])) (by simp only [↓wR,RA,simprocAttr,TF,ae]<;>rfl) ?_
 rintro i ⟨hi,hx⟩
 simp only [↓wR,RA,simprocAttr,TF,ae]
 rw [bb];refine ⟨fun h=>?_,fun h=>?_⟩
 ·obtain ⟨c,hc,hd1,hlt⟩:=dq (decide_eq_true h)
  have e1:=atn hd1
  have hnc:=hd.name c (List.mem_of_getElem? hc)
  simp only [↓wR,RA,simprocAttr,TF,ae,h,hc,zn,hnc.fit];repeat (simp (disch:=omega) only [ag,bz,b9,bu,bw];try simp only [↓wR,RA,simprocAttr,TF,ae,h,hc,zn,hnc.fit])
  exact ⟨i+1,⟨hlt,by omega⟩,by omega,by (first|rfl|trivial|omega|((try (simp (disch:=omega) only [ag]));(try (simp only [FB]));first|done|rfl|omega))⟩
 rw [en (decide_eq_false h)]
 have e0:wm []=0:=rfl
 rw [e0,Nat.sub_zero]
 simp only [↓wR,RA,simprocAttr,TF,ae,h]
 refine dp [0,5,7,9] (fun (i:Nat)=>[.sc (.int .u16 t.toNat),.ptr 0 0,.sc (.int .i64 (A+wm d.names+(wh t 0 d.texts - wh t i (d.texts.drop i):Nat))),.sc (.int .i64 (i))]) (fun _=>[some (.row [.vl false 1 (d.names.map (aq.val false)),.vl false 1 (d.nums.map (cg.val false)),.vl false 1 (d.texts.map (ai.val false)),.vl false 1 (d.raw.map (bg.val false))] 0 2 101)]) (fun i=>i≤d.texts.length∧wh t i (d.texts.drop i)≤wh t 0 d.texts) (fun i=>d.texts.length - i) 0 ⟨Nat.zero_le _,Nat.le_refl _⟩ (by simp only [↓wR,RA,simprocAttr,TF,ae]<;>first|rfl|(rw [List.drop_zero,Nat.sub_self,Int.add_zero])) (by simp only [↓wR,RA,simprocAttr,TF,ae]<;>rfl) ?_
 rintro i ⟨hi,hx⟩
 simp only [↓wR,RA,simprocAttr,TF,ae]
 rw [bb];refine ⟨fun h2=>?_,fun h2=>?_⟩
 ·obtain ⟨c,hc,hd1,hlt⟩:=dq (decide_eq_true h2)
  have e1:=auo (t:=t) hd1
  simp only [↓wR,RA,simprocAttr,TF,ae,h2,hc];repeat (simp (disch:=omega) only [ag,bz,b9,bu,bw];try simp only [↓wR,RA,simprocAttr,TF,ae,h2,hc])
  rw [cj];refine ⟨fun ⟨h3,e3⟩=>?_,fun ⟨h3,e3⟩=>?_⟩
  ·rw [if_pos (.inl e3)] at e1
   simp only [↓wR,RA,simprocAttr,TF,ae,h3];repeat (simp (disch:=omega) only [ag,bz,b9,bu,bw];try simp only [↓wR,RA,simprocAttr,TF,ae,h3])
   exact ⟨i+1,⟨hlt,by omega⟩,by omega,by (first|rfl|trivial|omega|((try (simp (disch:=omega) only [ag]));(try (simp only [FB]));first|done|rfl|omega))⟩
  ·simp only [↓wR,RA,simprocAttr,TF,ae,h3]
   rw [cj];refine ⟨fun ⟨h4,e4⟩=>?_,fun ⟨h4,e4⟩=>?_⟩
   ·rw [if_pos (.inr (by omega))] at e1
    simp only [↓wR,RA,simprocAttr,TF,ae,h4];repeat (simp (disch:=omega) only [ag,bz,b9,bu,bw];try simp only [↓wR,RA,simprocAttr,TF,ae,h4])
    exact ⟨i+1,⟨hlt,by omega⟩,by omega,by (first|rfl|trivial|omega|((try (simp (disch:=omega) only [ag]));(try (simp only [FB]));first|done|rfl|omega))⟩
   ·rw [if_neg (by omega)] at e1
    simp only [↓wR,RA,simprocAttr,TF,ae,h4];repeat (simp (disch:=omega) only [ag,bz,b9,bu,bw];try simp only [↓wR,RA,simprocAttr,TF,ae,h4])
    exact ⟨i+1,⟨hlt,by omega⟩,by omega,by (first|rfl|trivial|omega|((try (simp (disch:=omega) only [ag]));(try (simp only [FB]));first|done|rfl|omega))⟩
 rw [en (decide_eq_false h2)]
 have e1:wh t i []=0:=by cases i<;>rfl
 rw [e1,Nat.sub_zero]
 simp only [↓wR,RA,simprocAttr,TF,ae,h2]
noncomputable def Gu (x:UInt16 × Shape × bo × Unit):Option AV:=if cr x.2.2.1∧(0≤x.2.1.size∧x.2.1.size≤4) then some ((r1 (ba .i64)).E true (Gg x.2.1 x.1 x.2.2.1)) else none
set_option maxRecDepth 2000000 in
theorem aek (x:UInt16 × Shape × bo × Unit) (r:AV) (h:Gu x=some r):bc PP 166 ((aC cw (aC mi (aC ay a0))).E x) r:=by
 by_cases hc:cr x.2.2.1∧(0≤x.2.1.size∧x.2.1.size≤4)
 case neg=>simp only [Gu,if_neg hc] at h;cases h
 simp only [Gu,if_pos hc] at h
 cases h
 exact au (ak.cons (aj Mx) (ak.nil PP)) Tryz.func166 (by kernel_rfl) (by kernel_rfl) (by kernel_rfl) (Nat.le_of_ble_eq_true (by kernel_rfl)) (r1 (ba .i64)) true (Gg x.2.1 x.1 x.2.2.1) (aoe x.2.1 x.1 x.2.2.1 hc.1 hc.2)
noncomputable abbrev awb:Nat × Bool × (List AV→M AV):=(166,true,cx (aC cw (aC mi (aC ay a0))) Gu)
theorem Vz (s:Shape):(⟨s.names,s.nums,s.size,s.texts,s.raw⟩:Shape)=s:=rfl
theorem Av (t:UInt16):((t.toNat:Int)=16∧(cz t).texts = -1∧(cz t).nums=0∧(cz t).size=0∧(cz t).raw=0)∨((t.toNat:Int)=257∧(cz t).texts=2∧(cz t).nums=1∧(cz t).size=1∧(cz t).raw=0) ∨
 ((t.toNat:Int)≠16∧(t.toNat:Int)≠257∧(cz t).texts=0∧(((cz t).size=0∧(cz t).nums=0)∨(cz t).size=2∨(cz t).size=4)∧((t.toNat:Int)=6→(cz t).raw=0)):=by
 unfold cz
 split
 ·exact .inr (.inr ⟨by omega,by omega,rfl,.inl ⟨rfl,rfl⟩,by omega⟩)
 split
 ·exact .inr (.inr ⟨by omega,by omega,rfl,.inl ⟨rfl,rfl⟩,by omega⟩)
 split
 ·exact .inr (.inr ⟨by omega,by omega,rfl,.inl ⟨rfl,rfl⟩,by omega⟩)
 split
 ·exact .inr (.inr ⟨by omega,by omega,rfl,.inl ⟨rfl,rfl⟩,by omega⟩)
 split
 ·exact .inr (.inr ⟨by omega,by omega,rfl,.inl ⟨rfl,rfl⟩,by omega⟩)
 split
 ·exact .inr (.inr ⟨by omega,by omega,rfl,.inr (.inr rfl),fun _=>rfl⟩)
 split
 ·exact .inr (.inr ⟨by omega,by omega,rfl,.inr (.inl rfl),by omega⟩)
 split
 ·exact .inr (.inr ⟨by omega,by omega,rfl,.inr (.inl rfl),by omega⟩)
 split
 ·exact .inl ⟨by assumption,rfl,rfl,rfl,rfl⟩
 split
 ·exact .inr (.inl ⟨by assumption,rfl,rfl,rfl,rfl⟩)
 ·exact .inr (.inr ⟨by omega,by omega,rfl,.inl ⟨rfl,rfl⟩,by omega⟩)
theorem Hf {α:Type} {p q : α→Bool}:∀ {l:List α},(∀ x ∈ l,p x=q x)→l.any p=l.any q
 | [],_=>rfl
 |a::l,h=>by rw [List.any_cons,List.any_cons,h a (by simp),Hf (fun x hx=>h x (by simp [hx]))]
theorem auj (s:Shape) (hs:s.size=0∨s.size=1∨s.size=2∨s.size=4) (l:List UInt32) (h0:s.size=0→l=[]):(s.size<4∧(l.any fun n=>decide (xu s≤(n.toNat:Int)))=true)↔(l.any fun n=>decide ((vx s.size).toNat<n.toNat))=true:=by
 have hb:∀ n:UInt32,n.toNat<4294967296:=fun n=>n.toNat_lt
 rcases hs with h|h|h|h
 ·rw [h0 h];simp
 ·have e1:xu s=256:=by unfold xu;rw [h];rfl
  have e2:(vx s.size).toNat=255:=by rw [h];rfl
  rw [e1,e2,Hf (q:=fun n=>decide (255<n.toNat)) (fun n _=>by rw [decide_eq_decide];omega)]
  exact ⟨fun q=>q.2,fun q=>⟨by omega,q⟩⟩
 ·have e1:xu s=65536:=by unfold xu;rw [h];rfl
  have e2:(vx s.size).toNat=65535:=by rw [h];rfl
  rw [e1,e2,Hf (q:=fun n=>decide (65535<n.toNat)) (fun n _=>by rw [decide_eq_decide];omega)]
  exact ⟨fun q=>q.2,fun q=>⟨by omega,q⟩⟩
 ·have e2:(vx s.size).toNat=4294967295:=by rw [h];rfl
  rw [e2]
  refine ⟨fun q=>by omega,fun q=>?_⟩
  obtain ⟨n,_,hn⟩:=List.any_eq_true.1 q
  have:=hb n
  simp at hn;omega
theorem Ui (t:UInt16) (d:bo):Ck (cz t) t d=qm (cz t) t d:=by
 have hk:=Av t
 unfold Ck qm Yt aj5 Lo
 by_cases hb:(d.names.length:Int)≠(cz t).names∨(d.nums.length:Int)≠(cz t).nums∨(0≤(cz t).raw∧(d.raw.length:Int)≠(cz t).raw)
 ·rw [if_pos hb,if_pos (by unfold n5;omega)]
 rw [if_neg hb]
 have hm:=auj (cz t) (by omega) d.nums (fun e=>List.eq_nil_of_length_eq_zero (by omega))
 by_cases hm1:(d.nums.any fun n=>decide ((vx (cz t).size).toNat<n.toNat))=true
 ·rw [if_pos (hm.2 hm1),if_pos hm1,ite_self]
 rw [if_neg (fun q=>hm1 (hm.1 q)),if_neg hm1]
 rcases hk with ⟨k1,k2,_⟩|⟨k1,k2,_⟩|⟨k1,k2,k3,_⟩
 ·rw [if_neg (show ¬ (t.toNat:Int)=257 by omega),if_neg (show ¬ (t.toNat:Int)=257 by omega),if_neg (show ¬ (cz t).texts=0 by omega)]
  by_cases hl:d.texts.length=0
  ·rw [if_pos (by unfold n5;omega),decide_eq_false (by omega),Bool.false_and]
  ·rw [if_neg (by unfold n5;omega),decide_eq_true (by omega),Bool.true_and]
   cases ha:(d.texts.any fun x=>decide (255<x.size)) with
   |true=>rw [if_pos ⟨k1,rfl⟩];rfl
   |false=>rw [if_neg (by rintro ⟨_,q⟩;cases q)];rfl
 ·rw [if_pos k1,if_pos k1]
  by_cases hl:d.texts.length=2
  ·rw [if_neg (show ¬ n5 (cz t) d by unfold n5;omega),decide_eq_true hl,Bool.true_and,if_neg (fun q=>by have:=q.1;omega)]
  ·rw [if_pos (show n5 (cz t) d by unfold n5;omega),decide_eq_false hl,Bool.false_and]
 ·rw [if_neg k2,if_neg k2,if_pos k3]
  by_cases hl:d.texts.length=0
  ·rw [if_neg (show ¬ n5 (cz t) d by unfold n5;omega),decide_eq_true hl,if_neg (fun q=>by have:=q.1;omega)]
  ·rw [if_pos (show n5 (cz t) d by unfold n5;omega),decide_eq_false hl]
theorem Ps:∀ {l:List Name},jz l=0→(l.flatMap j5).length=wm l
 | [],_=>rfl
 |n::l,h=>by
  unfold jz at h
  split at h
  ·exact absurd h (by assumption)
  ·rename_i h1
   have h2:dm n=0:=by omega
   have h3:=so n
   rw [List.flatMap_cons,List.length_append,Ps h]
   simp only [j5,h2,ne_eq,not_true,if_false,nameBytes,List.length_append,List.length_singleton,wm,List.map_cons,List.sum_cons]
   omega
theorem Sa (t:UInt16):∀ (l:List ByteArray) (i:Nat),(m9 t i l).length=wh t i l
 | [],i=>rfl
 |x::l,i=>by
  have:=Sa t l (i+1)
  have hx:x.data.toList.length=x.size:=by simp
  simp only [m9,wh,List.length_append,this,hx]
  split<;>simp<;>omega
theorem Rv (t:UInt16) (hs : 0≤(cz t).size∧(cz t).size≤4):∀ l:List UInt32,((l.flatMap (yh t)).length:Int)=l.length * (cz t).size
 | []=>by simp
 |n::l=>by
  have:=Rv t hs l
  have h1:((yh t n).length:Int)=(cz t).size:=by unfold yh;rw [List.length_drop,D8];omega
  rw [List.flatMap_cons,List.length_append,List.length_cons,Int.natCast_add,this,h1,Int.natCast_add,Int.add_mul]
  omega
theorem apu (t:UInt16) (d:bo) (hf:qm (cz t) t d=true) (hn:jz d.names=0):Gg (cz t) t d=((lq t d).length:Int):=by
 have hk:=Av t
 have h1:=Rv t (yk t) d.nums
 have h2:=Ps hn
 have h3:=Sa t d.texts 0
 unfold Gg lq
 change ((tl t d).length:Int)=_ at h1
 change (pr d).length=_ at h2
 change (oy t d).length=_ at h3
 split
 ·rename_i h6
  rw [← Ui] at hf
  unfold Ck at hf
  split at hf
  ·cases hf
  ·rename_i hb
   unfold n5 at hb
   have e1:d.texts=[]:=List.eq_nil_of_length_eq_zero (by omega)
   rw [e1]
   rw [List.length_append]
   have:wh t 0 []=0:=rfl
   omega
 ·simp only [List.length_append]
  omega
set_option maxHeartbeats 4000000 in
theorem Xs (t:UInt16) (d:bo) (hd:cr d):wl PP [rOf,axj,Sb,awb] 0 (Tryz.f126.body.getD .skip) (db PP Tryz.f126.results.toList (fun r st=>(r1 (ba .i64)).get true st.h r=some (dw t d))) (cd 0 [cw.val false t,ay.val false d]) (bk []):=by
 have hs:=yk t
 have hl:=hd.lens
 have h257:Pu (cz t) t:=fun e=>by have:=Av t;omega
 have hsz:=apu t d
 unfold Tryz.f126
 simp only [fy,cq]
 simp only [↓wR,RA,simprocAttr,TF,ae,acx,sm]
 unfold dw
 rw [cy];refine ⟨fun hb=>?_,fun hb=>?_⟩
 ·have hb':lf t=true:=by simpa using hb
  rw [if_pos hb']
  simp only [↓wR,RA,simprocAttr,TF,ae,hb]
 have hb':lf t=false:=by simpa using hb
 rw [if_neg (by rw [hb'];decide)]
 simp only [↓wR,RA,simprocAttr,TF,ae,hb,gk,Vz,La,hd,h257,Ui]
 rw [cy];refine ⟨fun hf=>?_,fun hf=>?_⟩
 ·rw [if_pos (by simpa using hf)]
  simp only [↓wR,RA,simprocAttr,TF,ae,hf]
 have hf':qm (cz t) t d=true:=by simpa using hf
 rw [if_neg (by rw [hf'];decide)]
 simp only [↓wR,RA,simprocAttr,TF,ae,hf]
 refine dp [0,3,5,7] (fun (i:Nat)=>[.sc (.int .u16 t.toNat),.ptr 0 0,.ptr 1 0,.sc (.int .i64 (i))]) (fun _=>[some (.row [.vl false 1 (d.names.map (aq.val false)),.vl false 1 (d.nums.map (cg.val false)),.vl false 1 (d.texts.map (ai.val false)),.vl false 1 (d.raw.map (bg.val false))] 0 2 101),some (.row [.sc (.int .i64 (cz t).names),.sc (.int .i64 (cz t).nums),.sc (.int .i64 (cz t).texts),.sc (.int .i64 (cz t).raw),.sc (.int .i64 (cz t).size)] 0 2 183)]) (fun i=>i≤d.names.length∧jz d.names=jz (d.names.drop i)) (fun i=>d.names.length - i) 0 ⟨Nat.zero_le _,rfl⟩ (by simp only [↓wR,RA,simprocAttr,TF,ae]<;>rfl) (by simp only [↓wR,RA,simprocAttr,TF,ae]<;>rfl) ?_
 rintro i ⟨hi,hx⟩
 simp only [↓wR,RA,simprocAttr,TF,ae]
 rw [bb];refine ⟨fun h=>?_,fun h=>?_⟩
 ·obtain ⟨c,hc,hd1,hlt⟩:=dq (decide_eq_true h)
  rw [Oa hd1] at hx
  simp only [↓wR,RA,simprocAttr,TF,ae,h,hc,xl,(hd.name c (List.mem_of_getElem? hc)).fit]
  rw [cy];refine ⟨fun h1=>?_,fun h1=>?_⟩
  ·have he:dm c≠0:=by simpa using h1
   rw [if_pos he] at hx
   rw [if_pos (by rw [hx];exact he),hx]
   simp only [↓wR,RA,simprocAttr,TF,ae,h1]
  ·have he:dm c=0:=by simpa using h1
   rw [if_neg (by omega)] at hx
   simp only [↓wR,RA,simprocAttr,TF,ae,h1];repeat (simp (disch:=omega) only [ag,bz,b9,bu,bw];try simp only [↓wR,RA,simprocAttr,TF,ae,h1])
   exact ⟨i+1,⟨hlt,hx⟩,by omega,by (first|rfl|trivial|omega|((try (simp (disch:=omega) only [ag]));(try (simp only [FB]));first|done|rfl|omega))⟩
 rw [en (decide_eq_false h)] at hx
 have hx0:jz d.names=0:=hx
 rw [if_neg (by rw [hx];decide)]
 simp only [↓wR,RA,simprocAttr,TF,ae,h,gk,Vz,Gu,hd,hs,hsz hf' hx0]
 rw [bb];refine ⟨fun h2=>?_,fun h2=>?_⟩
 ·rw [if_pos (by omega)]
  simp only [↓wR,RA,simprocAttr,TF,ae,h2]
 ·rw [if_neg (by omega)]
  simp only [↓wR,RA,simprocAttr,TF,ae,h2]
noncomputable def m5 (x:UInt16 × bo × Unit):Option AV:=if cr x.2.1 then some ((r1 (ba .i64)).E true (dw x.1 x.2.1)) else none
set_option maxRecDepth 2000000 in
theorem x8 (x:UInt16 × bo × Unit) (r:AV) (h:m5 x=some r):bc PP 126 ((aC cw (aC ay a0)).E x) r:=by
 by_cases hc:cr x.2.1
 case neg=>simp only [m5,if_neg hc] at h;cases h
 simp only [m5,if_pos hc] at h
 cases h
 exact au (ak.cons (aj Pd) (ak.cons (aj ais) (ak.cons (aj A1) (ak.cons (aj aek) (ak.nil PP))))) Tryz.func126 (by kernel_rfl) (by kernel_rfl) (by kernel_rfl) (Nat.le_of_ble_eq_true (by kernel_rfl)) (r1 (ba .i64)) true (dw x.1 x.2.1) (Xs x.1 x.2.1 hc)
noncomputable abbrev Hn:Nat × Bool × (List AV→M AV):=(126,true,cx (aC cw (aC ay a0)) m5)
theorem Yd (n:Name) (hn:bj n):wl PP [Sb] 0 (Tryz.f190.body.getD .skip) (db PP Tryz.f190.results.toList (fun r st=>(r2 (br bg) (ba .i64)).get true st.h r=some (j5 n,dm n))) (cd 0 [aq.val false n]) (bk []):=by
 unfold Tryz.f190
 simp only [cq]
 have hln:=hn.lt
 simp only [↓wR,RA,simprocAttr,TF,ae,xl,hn.fit]
 rw [cy];refine ⟨fun h=>?_,fun h=>?_⟩
 ·have he:dm n≠0:=by simpa using h
  have hb:j5 n=[]:=if_pos he
  simp only [↓wR,RA,simprocAttr,TF,ae,h,hb]
 have he:dm n=0:=by simpa using h
 have hb:j5 n=nameBytes n:=if_neg (by omega)
 rw [hb,he]
 simp only [↓wR,RA,simprocAttr,TF,ae,h]
 refine fo [0,6,5] (fun (x:Nat × List UInt8)=>[.vl false 1 (n.map (ai.val false)),.sc (.int .i64 x.1),.sl 0 0 x.2.length 1]) (fun x=>[some (.row (x.2.map (bg.val false)) 0 0 5)]) (fun x=>x.2++(n.drop x.1).flatMap gh=n.flatMap gh∧x.1≤n.length) (fun x=>n.length - x.1) (0,[]) ⟨rfl,Nat.zero_le _⟩ (by simp only [↓wR,RA,simprocAttr,TF,ae];(refine ir.lax [] (by first|exact Nat.le_of_ble_eq_true rfl|(simp [dk];omega)) ?_ ?_<;>repeat' first|exact dz.nil|exact cb.nil|exact eh.same _|exact eh.nil _ _ _|exact eh.ly _ _|exact cb.refl _ _|apply dz.cons|apply cb.ghost|apply cb.same|apply cb.row)) ?_
 rintro ⟨i,x⟩ ⟨hR,hx⟩
 simp only at hR hx
 have hnb:=so n
 have hsm:=H9 he
 simp only [↓wR,RA,simprocAttr,TF,ae]
 rw [bb];refine ⟨fun h2=>?_,fun h2=>?_⟩
 ·obtain ⟨c,hc,hd,hlt⟩:=dq (decide_eq_true h2)
  rw [hd,List.flatMap_cons] at hR
  have hl:x.length+(gh c).length≤(n.flatMap gh).length:=by rw [← hR];simp
  rw [Ac] at hl
  simp only [↓wR,RA,simprocAttr,TF,ae,h2,hc];repeat (simp (disch:=omega) only [ag,bz,b9,bu,bw];try simp only [↓wR,RA,simprocAttr,TF,ae,h2,hc])
  refine ⟨(i+1,x++gh c),⟨by rw [← hR];simp,hlt⟩,by simp;omega,?_,by simp only [gh,List.map_append,List.map_cons,List.append_assoc,List.singleton_append,A9]⟩
  simp only [List.cons.injEq,and_true,true_and,AV.sc.injEq,Value.int.injEq,AV.sl.injEq,gh,List.length_append,List.length_cons]
  refine ⟨by (try simp (disch:=omega) only [ag,bz,b9,bu,bw]);simp,by simp;omega⟩
 ·rw [en (decide_eq_false h2)] at hR
  obtain rfl:x=n.flatMap gh:=by simpa using hR
  have hcl:(n.flatMap gh).length≤16777216:=by unfold bj at hn;omega
  simp only [↓wR,RA,simprocAttr,TF,ae,h2];repeat (simp (disch:=omega) only [ag,bz,b9,bu,bw];try simp only [↓wR,RA,simprocAttr,TF,ae,h2])
  rfl
noncomputable def oj (x:Name × Unit):Option AV:=if bj x.1 then some ((r2 (br bg) (ba .i64)).E true ((j5 x.1,dm x.1))) else none
set_option maxRecDepth 2000000 in
theorem Rg (x:Name × Unit) (r:AV) (h:oj x=some r):bc PP 190 ((aC aq a0).E x) r:=by
 by_cases hc:bj x.1
 case neg=>simp only [oj,if_neg hc] at h;cases h
 simp only [oj,if_pos hc] at h
 cases h
 exact au (ak.cons (aj A1) (ak.nil PP)) Tryz.func190 (by kernel_rfl) (by kernel_rfl) (by kernel_rfl) (Nat.le_of_ble_eq_true (by kernel_rfl)) (r2 (br bg) (ba .i64)) true ((j5 x.1,dm x.1)) (Yd x.1 hc)
noncomputable abbrev akk:Nat × Bool × (List AV→M AV):=(190,true,cx (aC aq a0) oj)
theorem avl {t:UInt16} {d:bo} (h:dw t d=0):(t.toNat:Int)=6→d.names.length=2∧d.texts=[]∧d.raw=[]:=by
 intro h6
 unfold dw at h
 split at h
 ·cases h
 split at h
 ·cases h
 rename_i hf
 have hf':qm (cz t) t d=true:=by cases hx:qm (cz t) t d with|true=>rfl|false=>exact absurd hx hf
 rw [← Ui] at hf'
 have hk:=Av t
 have hn:(cz t).names=2:=by unfold cz;rw [if_neg (by omega),if_neg (by omega),if_neg (by omega),if_neg (by omega),if_neg (by omega),if_pos h6]
 unfold Ck at hf'
 split at hf'
 ·cases hf'
 ·rename_i hb
  unfold n5 at hb
  exact ⟨by omega,List.eq_nil_of_length_eq_zero (by omega),List.eq_nil_of_length_eq_zero (by omega)⟩
noncomputable def Lh (t:UInt16) (d:bo):List UInt8:=if (t.toNat:Int)=6 then pr d else []
noncomputable def Zd (t:UInt16) (d:bo):List UInt8:=if (t.toNat:Int)=6 then [] else pr d
theorem apx {t:UInt16} {d:bo} (h:(t.toNat:Int)=6→d.texts=[]∧d.raw=[]):lq t d=Lh t d++tl t d++Zd t d++oy t d++d.raw:=by
 unfold lq Lh Zd
 split
 ·rename_i h6
  obtain ⟨e1,e2⟩:=h h6
  have:oy t d=[]:=by unfold oy;rw [e1];rfl
  rw [this,e2];simp
 ·simp
set_option maxHeartbeats 8000000 in
theorem aoj (t:UInt16) (d:bo) (hd:cr d) (h0:dw t d=0):wl PP [rOf,akk,auk] 0 (Tryz.f167.body.getD .skip) (db PP Tryz.f167.results.toList (fun r st=>(r1 (br bg)).get true st.h r=some (lq t d))) (cd 0 [cw.val false t,ay.val false d]) (bk []):=by
 have hsoa:=avl h0
 have hl:=hd.lens
 have hk:=hd.written t
 have hs:=yk t
 have hpl:(Lh t d).length≤16777216:=by unfold Lh;split;exact hk.2.1;simp
 have hml:(Zd t d).length≤16777216:=by unfold Zd;split;simp;exact hk.2.1
 rw [apx (fun e=>(hsoa e).2)]
 unfold Tryz.f167
 simp only [fy,cq]
 simp only [↓wR,RA,simprocAttr,TF,ae,acx,sm]
 rw [cj];refine ⟨fun ⟨h6,e6⟩=>?_,fun ⟨h6,e6⟩=>?_⟩
 simp only [↓wR,RA,simprocAttr,TF,ae,h6]
 have hn2:=(hsoa e6).1
 refine fo [0,3,5,8,7] (fun (x:Nat × List UInt8)=>[.sc (.int .u16 t.toNat),.ptr 0 0,.ptr 1 0,.sc (.int .i64 (x.1)),.sl 2 0 x.2.length 1]) (fun x=>[some (.row [.vl false 1 (d.names.map (aq.val false)),.vl false 1 (d.nums.map (cg.val false)),.vl false 1 (d.texts.map (ai.val false)),.vl false 1 (d.raw.map (bg.val false))] 0 2 101),some (.row [.sc (.int .i64 (cz t).names),.sc (.int .i64 (cz t).nums),.sc (.int .i64 (cz t).texts),.sc (.int .i64 (cz t).raw),.sc (.int .i64 (cz t).size)] 0 2 183),some (.row (x.2.map (bg.val false)) 0 0 5)]) (fun x=>x.1≤2∧x.2++(d.names.drop x.1).flatMap j5=pr d) (fun x=>2 - x.1) (0,[]) ⟨Nat.zero_le _,rfl⟩ (by simp only [↓wR,RA,simprocAttr,TF,ae];(refine ir.lax [] (by first|exact Nat.le_of_ble_eq_true rfl|(simp [dk];omega)) ?_ ?_<;>repeat' first|exact dz.nil|exact cb.nil|exact eh.same _|exact eh.nil _ _ _|exact eh.ly _ _|exact cb.refl _ _|apply dz.cons|apply cb.ghost|apply cb.same|apply cb.row)) ?_
 rintro ⟨i,x⟩ ⟨hi,hx⟩
 simp only at hi hx
 simp only [↓wR,RA,simprocAttr,TF,ae]
 rw [bb];refine ⟨fun h=>?_,fun h=>?_⟩
 ·obtain ⟨c,hc⟩:∃ c,d.names[i]? = some c:=⟨_,List.getElem?_eq_getElem (by omega)⟩
  have hd1:=Ak hc
  rw [xz _ hd1] at hx
  have hxl:x.length+(j5 c).length≤(pr d).length:=by rw [← hx];simp
  simp only [↓wR,RA,simprocAttr,TF,ae,h,hc,oj,hd.name c (List.mem_of_getElem? hc)];repeat (simp (disch:=omega) only [ag,bz,b9,bu,bw];try simp only [↓wR,RA,simprocAttr,TF,ae,h,hc,oj,hd.name c (List.mem_of_getElem? hc)])
  exact ⟨(i+1,x++j5 c),⟨by omega,by rw [List.append_assoc];exact hx⟩,by simp;omega,by (first|rfl|trivial|omega|((try (simp (disch:=omega) only [ag]));(try (simp only [FB]));first|done|rfl|omega)),by (first|rfl|trivial|omega|((try (simp (disch:=omega) only [ag]));(try (simp only [FB]));first|done|rfl|omega))⟩
 have hi2:d.names.drop i=[]:=List.drop_eq_nil_of_le (by omega)
 rw [hi2] at hx
 have hxe:Lh t d=x:=by unfold Lh;rw [if_pos e6];simpa using hx.symm
 obtain ⟨y1,hy1⟩:∃ y1,y1=x++tl t d:=⟨_,rfl⟩
 rw [hxe] at hpl ⊢
 rw [← hy1]
 have hyl:y1.length≤83886080:=by rw [hy1,List.length_append];omega
 simp only [↓wR,RA,simprocAttr,TF,ae,h]
 refine fo [0,3,5,11,7] (fun (x:Nat × List UInt8)=>[.sc (.int .u16 t.toNat),.ptr 0 0,.ptr 1 0,.sc (.int .i64 (x.1)),.sl 2 0 x.2.length 1]) (fun x=>[some (.row [.vl false 1 (d.names.map (aq.val false)),.vl false 1 (d.nums.map (cg.val false)),.vl false 1 (d.texts.map (ai.val false)),.vl false 1 (d.raw.map (bg.val false))] 0 2 101),some (.row [.sc (.int .i64 (cz t).names),.sc (.int .i64 (cz t).nums),.sc (.int .i64 (cz t).texts),.sc (.int .i64 (cz t).raw),.sc (.int .i64 (cz t).size)] 0 2 183),some (.row (x.2.map (bg.val false)) 0 0 5)]) (fun x=>x.1≤d.nums.length∧x.2++(d.nums.drop x.1).flatMap (yh t)=y1) (fun x=>d.nums.length - x.1) (0,x) ⟨Nat.zero_le _,hy1.symm⟩ (by simp only [↓wR,RA,simprocAttr,TF,ae];(refine ir.lax [] (by first|exact Nat.le_of_ble_eq_true rfl|(simp [dk];omega)) ?_ ?_<;>repeat' first|exact dz.nil|exact cb.nil|exact eh.same _|exact eh.nil _ _ _|exact eh.ly _ _|exact cb.refl _ _|apply dz.cons|apply cb.ghost|apply cb.same|apply cb.row)) ?_
 clear hx h hi hi2 h6 hxe
 rotate_left
 simp only [↓wR,RA,simprocAttr,TF,ae,h6]
 have hxe:Lh t d=[]:=by unfold Lh;rw [if_neg e6]
 obtain ⟨y1,hy1⟩:∃ y1,y1=[]++tl t d:=⟨_,rfl⟩
 rw [hxe,← hy1]
 have hyl:y1.length≤83886080:=by rw [hy1,List.nil_append];omega
 refine fo [0,3,5,11,7] (fun (x:Nat × List UInt8)=>[.sc (.int .u16 t.toNat),.ptr 0 0,.ptr 1 0,.sc (.int .i64 (x.1)),.sl 2 0 x.2.length 1]) (fun x=>[some (.row [.vl false 1 (d.names.map (aq.val false)),.vl false 1 (d.nums.map (cg.val false)),.vl false 1 (d.texts.map (ai.val false)),.vl false 1 (d.raw.map (bg.val false))] 0 2 101),some (.row [.sc (.int .i64 (cz t).names),.sc (.int .i64 (cz t).nums),.sc (.int .i64 (cz t).texts),.sc (.int .i64 (cz t).raw),.sc (.int .i64 (cz t).size)] 0 2 183),some (.row (x.2.map (bg.val false)) 0 0 5)]) (fun x=>x.1≤d.nums.length∧x.2++(d.nums.drop x.1).flatMap (yh t)=y1) (fun x=>d.nums.length - x.1) (0,[]) ⟨Nat.zero_le _,hy1.symm⟩ (by simp only [↓wR,RA,simprocAttr,TF,ae];(refine ir.lax [] (by first|exact Nat.le_of_ble_eq_true rfl|(simp [dk];omega)) ?_ ?_<;>repeat' first|exact dz.nil|exact cb.nil|exact eh.same _|exact eh.nil _ _ _|exact eh.ly _ _|exact cb.refl _ _|apply dz.cons|apply cb.ghost|apply cb.same|apply cb.row)) ?_
 clear h6 hxe
 all_goals
  clear hy1 hpl
  rintro ⟨i,x⟩ ⟨hi,hx⟩
  simp only at hi hx
  simp only [↓wR,RA,simprocAttr,TF,ae]
  rw [bb];refine ⟨fun h=>?_,fun h=>?_⟩
  ·obtain ⟨c,hc,hd1,hlt⟩:=dq (decide_eq_true h)
   rw [xz _ hd1] at hx
   have hxl:x.length+(yh t c).length≤y1.length:=by rw [← hx];simp
   simp only [↓wR,RA,simprocAttr,TF,ae,h]
   refine ⟨by kernel_rfl,.inl ?_⟩
   simp only [↓wR,RA,simprocAttr,TF,ae,hc,zo,hs,Mh];repeat (simp (disch:=omega) only [ag,bz,b9,bu,bw];try simp only [↓wR,RA,simprocAttr,TF,ae,hc,zo,hs,Mh])
   refine ⟨by kernel_rfl,?_⟩
   exact ⟨(i+1,x++yh t c),⟨hlt,by rw [List.append_assoc];exact hx⟩,by simp;omega,by (first|rfl|trivial|omega|((try (simp (disch:=omega) only [ag]));(try (simp only [FB]));first|done|rfl|omega)),by (first|rfl|trivial|omega|((try (simp (disch:=omega) only [ag]));(try (simp only [FB]));first|done|rfl|omega))⟩
  rw [en (decide_eq_false h)] at hx
  obtain rfl:x=y1:=by simpa using hx
  clear hx
  simp only [↓wR,RA,simprocAttr,TF,ae,h]
  clear h hi
  obtain ⟨y2,hy2⟩:∃ y2,y2=x++Zd t d:=⟨_,rfl⟩
  have hyl2:y2.length≤100663296:=by rw [hy2,List.length_append];omega
  rw [← hy2]
  refine fo [0,3,12,7] (fun (x:Nat × List UInt8)=>[.sc (.int .u16 t.toNat),.ptr 0 0,.sc (.int .i64 (x.1)),.sl 1 0 x.2.length 1]) (fun x=>[some (.row [.vl false 1 (d.names.map (aq.val false)),.vl false 1 (d.nums.map (cg.val false)),.vl false 1 (d.texts.map (ai.val false)),.vl false 1 (d.raw.map (bg.val false))] 0 2 101),some (.row (x.2.map (bg.val false)) 0 0 5)]) (fun p=>p.1≤d.names.length∧p.2++(if (t.toNat:Int)=6 then [] else (d.names.drop p.1).flatMap j5)=y2) (fun p=>d.names.length - p.1) (0,x) ⟨Nat.zero_le _,hy2.symm⟩ (by simp only [↓wR,RA,simprocAttr,TF,ae];(refine ir.lax [] (by first|exact Nat.le_of_ble_eq_true rfl|(simp [dk];omega)) ?_ ?_<;>repeat' first|exact dz.nil|exact cb.nil|exact eh.same _|exact eh.nil _ _ _|exact eh.ly _ _|exact cb.refl _ _|apply dz.cons|apply cb.ghost|apply cb.same|apply cb.row)) ?_
  clear hy2 hyl
  rintro ⟨i,z⟩ ⟨hi,hz⟩
  simp only at hi hz
  simp only [↓wR,RA,simprocAttr,TF,ae]
  rw [de];refine ⟨fun ⟨h7,e7⟩=>?_,fun ⟨h7,e7⟩=>?_⟩
  all_goals try exact absurd e6 e7
  all_goals try exact absurd e7 e6
  first
   |(
    rw [if_pos e7] at hz
    obtain rfl:z=y2:=by simpa using hz
    simp only [↓wR,RA,simprocAttr,TF,ae,h7])
   |(
    rw [if_neg e7] at hz
    simp only [↓wR,RA,simprocAttr,TF,ae,h7]
    rw [bb];refine ⟨fun h8=>?_,fun h8=>?_⟩
    ·obtain ⟨c,hc,hd1,hlt⟩:=dq (decide_eq_true h8)
     rw [xz _ hd1] at hz
     have hxl:z.length+(j5 c).length≤y2.length:=by rw [← hz];simp
     simp only [↓wR,RA,simprocAttr,TF,ae,h8,hc,oj,hd.name c (List.mem_of_getElem? hc)];repeat (simp (disch:=omega) only [ag,bz,b9,bu,bw];try simp only [↓wR,RA,simprocAttr,TF,ae,h8,hc,oj,hd.name c (List.mem_of_getElem? hc)])
     exact ⟨(i+1,z++j5 c),⟨hlt,by rw [if_neg e7,List.append_assoc];exact hz⟩,by simp;omega,by (first|rfl|trivial|omega|((try (simp (disch:=omega) only [ag]));(try (simp only [FB]));first|done|rfl|omega)),by (first|rfl|trivial|omega|((try (simp (disch:=omega) only [ag]));(try (simp only [FB]));first|done|rfl|omega))⟩
    rw [en (decide_eq_false h8)] at hz
    obtain rfl:z=y2:=by simpa using hz
    simp only [↓wR,RA,simprocAttr,TF,ae,h8])
  clear hz hi
  obtain ⟨y3,hy3⟩:∃ y3,y3=z++oy t d:=⟨_,rfl⟩
  have hyl3:y3.length≤117440512:=by rw [hy3,List.length_append];omega
  rw [← hy3]
  refine fo [0,3,15,7] (fun (x:Nat × List UInt8)=>[.sc (.int .u16 t.toNat),.ptr 0 0,.sc (.int .i64 (x.1)),.sl 1 0 x.2.length 1]) (fun x=>[some (.row [.vl false 1 (d.names.map (aq.val false)),.vl false 1 (d.nums.map (cg.val false)),.vl false 1 (d.texts.map (ai.val false)),.vl false 1 (d.raw.map (bg.val false))] 0 2 101),some (.row (x.2.map (bg.val false)) 0 0 5)]) (fun p=>p.1≤d.texts.length∧p.2++m9 t p.1 (d.texts.drop p.1)=y3) (fun p=>d.texts.length - p.1) (0,z) ⟨Nat.zero_le _,hy3.symm⟩ (by simp only [↓wR,RA,simprocAttr,TF,ae];(refine ir.lax [] (by first|exact Nat.le_of_ble_eq_true rfl|(simp [dk];omega)) ?_ ?_<;>repeat' first|exact dz.nil|exact cb.nil|exact eh.same _|exact eh.nil _ _ _|exact eh.ly _ _|exact cb.refl _ _|apply dz.cons|apply cb.ghost|apply cb.same|apply cb.row)) ?_
  clear hy3 hyl2
  rintro ⟨i,x⟩ ⟨hi,hx⟩
  simp only at hi hx
  simp only [↓wR,RA,simprocAttr,TF,ae]
  rw [bb];refine ⟨fun h=>?_,fun h=>?_⟩
  ·obtain ⟨c,hc,hd1,hlt⟩:=dq (decide_eq_true h)
   rw [W7 _ hd1] at hx
   have hxl:x.length+((if (t.toNat:Int)=16∨i=0 then [UInt8.ofNat c.size] else []).length+c.size)≤y3.length:=by rw [← hx];simp
   have hcs:c.data.toList.length=c.size:=by simp
   have fin:∀ b:List UInt8,x++(b++c.data.toList++m9 t (i+1) (d.texts.drop (i+1)))=y3→x++b++c.data.toList++m9 t (i+1) (d.texts.drop (i+1))=y3:=fun b hb=>by rw [← hb];simp
   simp only [↓wR,RA,simprocAttr,TF,ae,h,hc];repeat (simp (disch:=omega) only [ag,bz,b9,bu,bw];try simp only [↓wR,RA,simprocAttr,TF,ae,h,hc])
   rw [cj];refine ⟨fun ⟨h16,e16⟩=>?_,fun ⟨h16,e16⟩=>?_⟩
   ·rw [if_pos (.inl e16)] at hx hxl
    simp only [List.length_cons,List.length_nil] at hxl
    simp only [↓wR,RA,simprocAttr,TF,ae,h16,hc];repeat (simp (disch:=omega) only [ag,bz,b9,bu,bw];try simp only [↓wR,RA,simprocAttr,TF,ae,h16,hc])
    exact ⟨(i+1,x++[UInt8.ofNat c.size]++c.data.toList),⟨hlt,fin _ hx⟩,by simp;omega,by (first|rfl|trivial|omega|((try (simp (disch:=omega) only [ag]));(try (simp only [FB]));first|done|rfl|omega)),by (first|rfl|trivial|omega|((try (simp (disch:=omega) only [ag]));(try (simp only [FB]));first|done|rfl|omega))⟩
   ·simp only [↓wR,RA,simprocAttr,TF,ae,h16];repeat (simp (disch:=omega) only [ag,bz,b9,bu,bw];try simp only [↓wR,RA,simprocAttr,TF,ae,h16])
    rw [cj];refine ⟨fun ⟨h0,e0⟩=>?_,fun ⟨h0,e0⟩=>?_⟩
    ·rw [if_pos (.inr (by omega))] at hx hxl
     simp only [List.length_cons,List.length_nil] at hxl
     simp only [↓wR,RA,simprocAttr,TF,ae,h0,hc];repeat (simp (disch:=omega) only [ag,bz,b9,bu,bw];try simp only [↓wR,RA,simprocAttr,TF,ae,h0,hc])
     exact ⟨(i+1,x++[UInt8.ofNat c.size]++c.data.toList),⟨hlt,fin _ hx⟩,by simp;omega,by (first|rfl|trivial|omega|((try (simp (disch:=omega) only [ag]));(try (simp only [FB]));first|done|rfl|omega)),by (first|rfl|trivial|omega|((try (simp (disch:=omega) only [ag]));(try (simp only [FB]));first|done|rfl|omega))⟩
    ·rw [if_neg (by omega)] at hx hxl
     simp only [List.length_nil] at hxl
     simp only [↓wR,RA,simprocAttr,TF,ae,h0,hc];repeat (simp (disch:=omega) only [ag,bz,b9,bu,bw];try simp only [↓wR,RA,simprocAttr,TF,ae,h0,hc])
     exact ⟨(i+1,x++c.data.toList),⟨hlt,by have:=fin _ hx;simpa using this⟩,by simp;omega,by (first|rfl|trivial|omega|((try (simp (disch:=omega) only [ag]));(try (simp only [FB]));first|done|rfl|omega)),by (first|rfl|trivial|omega|((try (simp (disch:=omega) only [ag]));(try (simp only [FB]));first|done|rfl|omega))⟩
  rw [en (decide_eq_false h)] at hx
  obtain rfl:x=y3:=by simpa [m9] using hx
  clear hx
  simp only [↓wR,RA,simprocAttr,TF,ae,h];repeat (simp (disch:=omega) only [ag,bz,b9,bu,bw];try simp only [↓wR,RA,simprocAttr,TF,ae,h])
noncomputable def F2 (x:UInt16 × bo × Unit):Option AV:=if cr x.2.1∧dw x.1 x.2.1=0 then some ((r1 (br bg)).E true (lq x.1 x.2.1)) else none
set_option maxRecDepth 2000000 in
theorem ad7 (x:UInt16 × bo × Unit) (r:AV) (h:F2 x=some r):bc PP 167 ((aC cw (aC ay a0)).E x) r:=by
 by_cases hc:cr x.2.1∧dw x.1 x.2.1=0
 case neg=>simp only [F2,if_neg hc] at h;cases h
 simp only [F2,if_pos hc] at h
 cases h
 exact au (ak.cons (aj Pd) (ak.cons (aj Rg) (ak.cons (aj ade) (ak.nil PP)))) Tryz.func167 (by kernel_rfl) (by kernel_rfl) (by kernel_rfl) (Nat.le_of_ble_eq_true (by kernel_rfl)) (r1 (br bg)) true (lq x.1 x.2.1) (aoj x.1 x.2.1 hc.1 hc.2)
noncomputable abbrev avd:Nat × Bool × (List AV→M AV):=(167,true,cx (aC cw (aC ay a0)) F2)
noncomputable def ltD (t:UInt16) (a b:bo):Bool:=decide (Ae t a b<0)
theorem Yh (s:ByteArray):gz (fold s)=gz s:=by unfold gz;rw [D6]
theorem Ie (n:Name):dm (ey n)=dm n:=by
 have h:pg (ey n)=pg n:=by
  unfold pg ey
  rw [List.any_map]
  congr 1
  funext s
  simp only [Function.comp,Yh]
 unfold dm
 rw [h,Ap]
theorem Ya (l:List Name):jz (l.map ey)=jz l:=by
 induction l with
 |nil=>rfl
 |cons a l ih=>simp only [List.map_cons,jz,Ie,ih]
theorem adt (n:Name) (h:dm n=0):(j5 n).length=cf n:=by
 unfold j5
 rw [if_neg (by omega)]
 unfold nameBytes
 rw [List.length_append,List.length_singleton,so]
theorem Iq:∀ {l:List Name},jz l=0→∀ n ∈ l,dm n=0
 | [],_,n,h=>by cases h
 |a::l,e,n,h=>by
  rw [jz] at e
  split at e
  ·contradiction
  ·rename_i q
   rcases List.mem_cons.1 h with rfl|h
   ·omega
   ·exact Iq e n h
theorem ao7 {l:List Name} (h:∀ n ∈ l,dm n=0):((l.map ey).flatMap j5).length=(l.flatMap j5).length:=by
 induction l with
 |nil=>rfl
 |cons a l ih=>
  have ha:=h a List.mem_cons_self
  rw [List.map_cons,List.flatMap_cons,List.flatMap_cons,List.length_append,List.length_append,ih fun n hn=>h n (List.mem_cons_of_mem _ hn),adt _ (by rw [Ie];exact ha),adt _ ha,Ap]
theorem J6 {t:UInt16} {d:bo} (h:dw t d=0):dw t (kn t d)=0:=by
 unfold kn
 split
 case isFalse=>exact h
 unfold dw at h ⊢
 split at h
 ·cases h
 rename_i h1
 split at h
 ·cases h
 rename_i h2
 split at h
 ·contradiction
 rename_i h3
 have h4:=Iq (Decidable.not_not.1 h3)
 rw [if_neg h1,if_neg (by
  unfold qm at h2 ⊢
  simpa only [List.length_map] using h2),if_neg (by rw [Ya];exact h3)]
 have h5:(lq t { d with names:=d.names.map ey }).length=(lq t d).length:=by
  unfold lq pr tl oy
  split<;>simp only [List.length_append,ao7 h4]
 rw [h5];exact h
def Ts (l:List bf):Bool:=l.all fun s=>!decide ((20:Int)<s.data.length)
def Lb (z:be):Bool:=Ts z.ah && decide ((z.ah.length:Int)≤40)
theorem au1 (z:be) (hz:bq z):wl PP [] 0 (Tryz.f20.body.getD .skip) (db PP Tryz.f20.results.toList (fun r st=>(r1 az).get true st.h r=some (Lb z))) (cd 0 [ca.val false z]) (bk []):=by
 have hl:=hz.len
 unfold Tryz.f20
 simp only [fi]
 simp only [↓wR,RA,simprocAttr,TF,ae]
 refine dp [1,3] (fun (i:Nat)=>[.ptr 0 0,.sc (.int .i64 (i))]) (fun _=>[some (.row [.vl false 1 (z.origin.map (ai.val false)),.vl false 5 (z.ah.map (ar.val false))] 0 2 41)]) (fun i=>i≤z.ah.length∧Ts z.ah=Ts (z.ah.drop i)) (fun i=>z.ah.length - i) 0 ⟨Nat.zero_le _,rfl⟩ (by simp only [↓wR,RA,simprocAttr,TF,ae]<;>rfl) (by simp only [↓wR,RA,simprocAttr,TF,ae]<;>rfl) ?_
 rintro i ⟨hi,hx⟩
 simp only [↓wR,RA,simprocAttr,TF,ae]
 rw [bb];refine ⟨fun h=>?_,fun h=>?_⟩
 ·obtain ⟨c,hc,hd1,hlt⟩:=dq (decide_eq_true h)
  have hx':Ts z.ah=(!decide ((20:Int)<c.data.length) && Ts (z.ah.drop (i+1))):=by rw [hx,hd1];rfl
  simp only [↓wR,RA,simprocAttr,TF,ae,h,hc];repeat (simp (disch:=omega) only [ag,bz,b9,bu,bw];try simp only [↓wR,RA,simprocAttr,TF,ae,h,hc])
  rw [bb];refine ⟨fun h2=>?_,fun h2=>?_⟩
  ·rw [decide_eq_true h2,Bool.not_true,Bool.false_and] at hx'
   simp only [↓wR,RA,simprocAttr,TF,ae,h2];repeat (simp (disch:=omega) only [ag,bz,b9,bu,bw];try simp only [↓wR,RA,simprocAttr,TF,ae,h2])
   rw [Lb,hx'];rfl
  ·rw [decide_eq_false h2,Bool.not_false,Bool.true_and] at hx'
   simp only [↓wR,RA,simprocAttr,TF,ae,h2];repeat (simp (disch:=omega) only [ag,bz,b9,bu,bw];try simp only [↓wR,RA,simprocAttr,TF,ae,h2])
   exact ⟨i+1,⟨hlt,hx'⟩,by omega,by (first|rfl|trivial|omega|((try (simp (disch:=omega) only [ag]));(try (simp only [FB]));first|done|rfl|omega))⟩
 ·rw [en (decide_eq_false h)] at hx
  simp only [↓wR,RA,simprocAttr,TF,ae,h]
  rw [Lb,hx];rfl
noncomputable def P5 (x:be × Unit):Option AV:=if bq x.1 then some ((r1 az).E true (Lb x.1)) else none
set_option maxRecDepth 2000000 in
theorem aov (x:be × Unit) (r:AV) (h:P5 x=some r):bc PP 20 ((aC ca a0).E x) r:=by
 by_cases hc:bq x.1
 case neg=>simp only [P5,if_neg hc] at h;cases h
 simp only [P5,if_pos hc] at h
 cases h
 exact au (ak.nil PP) Tryz.func20 (by kernel_rfl) (by kernel_rfl) (by kernel_rfl) (Nat.le_of_ble_eq_true (by kernel_rfl)) (r1 az) true (Lb x.1) (au1 x.1 hc)
noncomputable abbrev av1:Nat × Bool × (List AV→M AV):=(20,true,cx (aC ca a0) P5)
noncomputable def abc (z:be) (n:Name):Int:=if lj z≠0 then lj z else if dm n≠0 then dm n else if eg n z.origin=false then 2 else 0
def ug (z:be):Name→Name
 | []=>[]
 |a::r=>if Fa z (a::r)=true then a::r else ug z r
noncomputable def akb (z:be) (n:Name):Yq × Int:=
 if abc z n≠0 then (mkP 0 [] [],abc z n)
 else match l0 z n with
  |some c=>(mkP 4 c [],0)
  |none=>
   if 0<(xb z n).length then (mkP 1 n (ug z n),0)
   else if (ug z n).length=n.length then (mkP 2 [] (ug z n),0)
   else if Fa z (G2::ug z n)=true then (mkP 3 (G2::ug z n) (ug z n),0)
   else (mkP 0 [] (ug z n),0)
def Bt (l:List bf):Prop:=ik nl l≤16777216
instance (l:List bf):Decidable (Bt l):=inferInstanceAs (Decidable (_≤_))
theorem Bt.mem {l:List bf} (h:Bt l):∀ s ∈ l,dg s:=fun s hs=>by
 have h1:nl s<ik nl l:=F3 hs
 unfold Bt at h;unfold dg;omega
theorem Bt.len {l:List bf} (h:Bt l):l.length≤16777216:=Nat.le_trans (zt nl l) h
theorem bq.ah {z:be} (h:bq z):Bt z.ah:=by unfold bq Ig at h;unfold Bt;omega
def Bz (l:List bf):Prop:=l.length≤281474976710656∧∀ s ∈ l,dg s
instance (l:List bf):Decidable (Bz l):=inferInstanceAs (Decidable (_∧_))
theorem bq.mid {z:be} (h:bq z):Bz z.ah:=⟨Nat.le_trans h.ah.len (by decide),h.ah.mem⟩
def awu (n:Name) (t:UInt16) (s:bf):Bool:=decide ((s.type.toNat:Int)=t.toNat) && (decide ((s.cls.toNat:Int)=1) && fg s.owner n)
def asc (l:List bf) (n:Name) (t:UInt16):Option bf:=l.find? (awu n t)
def avt:bf:=mkS [] 0 0 0 []
theorem ir.an9 {aw:Nat} {vs vs':List AV} {os os':List (Option bh)} (hp:aw≤1000) (hV:AV.dr.go (fun o=>idx (qa aw vs os) o 0) vs=vs') (hO:ju (bk os).h (fun o=>idx (qa aw vs os) o 0) (qa aw vs os)=os'):ir aw vs os vs' os':=by
 subst hV hO;exact ir.canon hp
noncomputable def amu (z:be) (n:Name) (t:UInt16):Yq × Int:=
 if (akb z n).2=0∧((t.toNat:Int)=0∨(t.toNat:Int)=41) then (mkP 0 [] [],6) else akb z n
theorem ajd {s:bf} (h:jr s=0):∀ d ∈ s.data,dw s.type d=0:=by
 have key:∀ (l pre:List bo),o0 s.type pre l=0→∀ d ∈ l,dw s.type d=0:=by
  intro l
  induction l with
  |nil=>intro pre _ d hd;cases hd
  |cons a l ih=>
   intro pre h d hd
   rw [o0] at h
   split at h
   ·contradiction
   split at h
   ·cases h
   rcases List.mem_cons.1 hd with rfl|hd
   ·omega
   ·exact ih _ h d hd
 unfold jr at h
 split at h
 ·contradiction
 split at h
 ·cases h
 split at h
 ·cases h
 exact key _ _ h
theorem alg {z:be} (h:lj z=0):∀ s ∈ z.ah,jr s=0:=by
 have hf:=(axo h).first
 unfold ni at hf
 split at hf
 ·contradiction
 have key:∀ (l:List bf) (e:Int),mo l e=0→e=0∧∀ s ∈ l,jr s=0:=by
  intro l
  induction l with
  |nil=>intro e h;exact ⟨h,fun s hs=>by cases hs⟩
  |cons a l ih=>
   intro e h
   rw [mo] at h
   obtain ⟨h1,h2⟩:=ih _ h
   split at h1
   ·rename_i e0
    exact ⟨e0,fun s hs=>(List.mem_cons.1 hs).elim (fun q=>q ▸ h1) (h2 s)⟩
   ·rename_i e0;exact (e0 h1).elim
 exact (key _ _ hf).2
def ax7 (n:Name) (s:bf):bf:=mkS n s.type s.cls s.gm s.data
def axm (t:UInt16) (l:List bf):aiz:=
 if (t.toNat:Int)=255∧0<l.length then Z7 0 l []
 else match l.find? (fun s=>decide ((s.type.toNat:Int)=t.toNat)) with
  |some x=>Z7 0 [x] []
  |none=>match l.find? (fun s=>decide ((s.type.toNat:Int)=5) && decide ((t.toNat:Int)≠255)) with
   |some x=>Z7 1 [x] (((x.data[0]?).bind fun d=>d.names[0]?).getD [])
   |none=>Z7 2 [] []
noncomputable def awt (z:be) (n:Name) (t:UInt16) (s:Yq):aiz:=
 if s.kind=4 then Z7 4 [(asc z.ah s.node 2).getD avt] []
 else if s.kind=0 then Z7 3 [] []
 else if s.kind=2 then Z7 2 [] []
 else axm t (if s.kind=3 then (xb z s.node).map (ax7 n) else xb z s.node)
def ax8 (a b:UInt32):UInt32:=if (a.toNat:Int)≤b.toNat then a else b
def ahf (z:be):bf:=
 let s:=(asc z.ah z.origin 6).getD avt
 mkS s.owner s.type s.cls (ax8 s.gm (((s.data[0]?).bind fun d=>d.nums[4]?).getD 0)) s.data
def axa (n:Name) (s:bf):Bool:=(decide ((s.type.toNat:Int)=1) || decide ((s.type.toNat:Int)=28)) && fg s.owner n
def asb (z:be):List Name→List Name→List bf
 |_,[]=>[]
 |pre,n::r=>(if pre.any (fun m=>fg m n)=true then [] else z.ah.filter (axa n))++asb z (pre++[n]) r
def axl (z:be) (l:List Name):List bf:=asb z [] l
def atu (l:List Name):Prop:=ik cf l≤16777216
instance (l:List Name):Decidable (atu l):=inferInstanceAs (Decidable (_≤_))
def awy (s:bf):Bool:=decide ((s.type.toNat:Int)=2) || (decide ((s.type.toNat:Int)=15) || decide ((s.type.toNat:Int)=33))
def akx (l:List bo):List Name:=l.flatMap fun d=>d.names
def ao8 (s:bf):List Name:=if awy s=true then akx s.data else []
def aul (l:List bf):List Name:=l.flatMap ao8
def axb (ans:List bf) (s:bf):Bool:=ans.any fun x=>decide ((x.type.toNat:Int)=s.type.toNat) && fg x.owner s.owner
def ar5 (z:be) (ans l:List bf):List bf:=(axl z (aul l)).filter fun s=>!axb ans s
def ayd (l:List Name) (n:Name):Bool:=l.any fun m=>fg m n
noncomputable def amk (z:be) (t:UInt16):Nat→Name→List Name→List bf→Jj
 |0,_,_,ans=>Vc 0 true ans [] []
 |k+1,n,seen,ans=>
  let x:=awt z n t (akb z n).1
  if x.turn=0 then Vc 0 true (ans++x.ah) [] (ar5 z (ans++x.ah) x.ah)
  else if x.turn=3 then Vc 3 true ans [ahf z] []
  else if x.turn=2 then Vc 0 true ans [ahf z] []
  else if x.turn=4 then Vc 0 (decide (0<ans.length)) ans x.ah (ar5 z ans x.ah)
  else if eg x.to z.origin=false then Vc 0 true (ans++x.ah) [] []
  else if ayd (seen++[n]) x.to=true then Vc 0 true (ans++x.ah) [] []
  else amk z t k x.to (seen++[n]) (ans++x.ah)
noncomputable def ofV (z:be) (n:Name) (t:UInt16):Jj × Int:=
 if (amu z n t).2≠0 then (Vc 0 false [] [] [],(amu z n t).2) else (amk z t 16 n [] [],0)
def wtW (w:Zi):Nat:=ik Ig w.ah6+(ik (fun h:ar8=>h.ah6.length) w.aw5+w.hints.length)
def au7 (w:Zi):Prop:=wtW w≤5242880
instance (w:Zi):Decidable (au7 w):=inferInstanceAs (Decidable (_≤_))
theorem Z4 (l:Name) (hl:l.length≤16777216):wl PP [] 0 (Tryz.f118.body.getD .skip) (db PP Tryz.f118.results.toList (fun r st=>(r1 aq).get true st.h r=some l)) (cd 0 [aq.val false l]) (bk []):=by
 have hlim:l.length * 16≤140737488355328:=by omega
 unfold Tryz.f118
 simp only [cq]
 simp only [↓wR,RA,simprocAttr,TF,ae,hlim]
noncomputable def uw (x:Name × Unit):Option AV:=if x.1.length≤16777216 then some ((r1 aq).E true (x.1)) else none
set_option maxRecDepth 2000000 in
theorem Fp (x:Name × Unit) (r:AV) (h:uw x=some r):bc PP 118 ((aC aq a0).E x) r:=by
 by_cases hc:x.1.length≤16777216
 case neg=>simp only [uw,if_neg hc] at h;cases h
 simp only [uw,if_pos hc] at h
 cases h
 exact au (ak.nil PP) Tryz.func118 (by kernel_rfl) (by kernel_rfl) (by kernel_rfl) (Nat.le_of_ble_eq_true (by kernel_rfl)) (r1 aq) true (x.1) (Z4 x.1 hc)
noncomputable abbrev Ve:Nat × Bool × (List AV→M AV):=(118,true,cx (aC aq a0) uw)
theorem aec (l:Name) (hl:l.length≤16777216):wl PP [Ve] 0 (Tryz.f67.body.getD .skip) (db PP Tryz.f67.results.toList (fun r st=>(r1 aq).get true st.h r=some l)) (cd 0 [aq.val false l]) (bk []):=by
 unfold Tryz.f67
 simp only [cq]
 simp only [↓wR,RA,simprocAttr,TF,ae,uw,hl]
noncomputable def mh (x:Name × Unit):Option AV:=if x.1.length≤16777216 then some ((r1 aq).E true (x.1)) else none
set_option maxRecDepth 2000000 in
theorem sr (x:Name × Unit) (r:AV) (h:mh x=some r):bc PP 67 ((aC aq a0).E x) r:=by
 by_cases hc:x.1.length≤16777216
 case neg=>simp only [mh,if_neg hc] at h;cases h
 simp only [mh,if_pos hc] at h
 cases h
 exact au (ak.cons (aj Fp) (ak.nil PP)) Tryz.func67 (by kernel_rfl) (by kernel_rfl) (by kernel_rfl) (Nat.le_of_ble_eq_true (by kernel_rfl)) (r1 aq) true (x.1) (aec x.1 hc)
noncomputable abbrev Dl:Nat × Bool × (List AV→M AV):=(67,true,cx (aC aq a0) mh)
theorem acf (l:List UInt8) (hl:l.length≤16777216):wl PP [] 0 (Tryz.f141.body.getD .skip) (db PP Tryz.f141.results.toList (fun r st=>(r1 (br bg)).get true st.h r=some l)) (cd 0 [(br bg).val false l]) (bk []):=by
 have hlim:l.length≤140737488355328:=by omega
 unfold Tryz.f141
 simp only [k7]
 simp only [↓wR,RA,simprocAttr,TF,ae,hlim]
noncomputable def yy (x:List UInt8 × Unit):Option AV:=if x.1.length≤16777216 then some ((r1 (br bg)).E true (x.1)) else none
set_option maxRecDepth 2000000 in
theorem Th (x:List UInt8 × Unit) (r:AV) (h:yy x=some r):bc PP 141 ((aC (br bg) a0).E x) r:=by
 by_cases hc:x.1.length≤16777216
 case neg=>simp only [yy,if_neg hc] at h;cases h
 simp only [yy,if_pos hc] at h
 cases h
 exact au (ak.nil PP) Tryz.func141 (by kernel_rfl) (by kernel_rfl) (by kernel_rfl) (Nat.le_of_ble_eq_true (by kernel_rfl)) (r1 (br bg)) true (x.1) (acf x.1 hc)
noncomputable abbrev ana:Nat × Bool × (List AV→M AV):=(141,true,cx (aC (br bg) a0) yy)
theorem aem (d:bo) (hd:cr d):wl PP [Ve,Dl,ana] 0 (Tryz.f101.body.getD .skip) (db PP Tryz.f101.results.toList (fun r st=>(r1 ay).get true st.h r=some d)) (cd 0 [ay.val false d]) (bk []):=by
 have hls:=hd.lens
 have hq:∀ a b c d,eu a b c=d→eu a b c=d:=fun _ _ _ _ h=>h
 unfold Tryz.f101
 simp only [fy]
 have hnl:=hls.1
 have hlim:d.nums.length * 4≤140737488355328:=by omega
 simp only [↓wR,RA,simprocAttr,TF,ae]
 refine ⟨by kernel_rfl,.inl ?_⟩
 simp only [↓wR,RA,simprocAttr,TF,ae,hlim,uw,yy,hls.2.2.1,hls.2.2.2]
 refine ⟨by apply hq;kernel_rfl,?_⟩
 refine fo [1,2,4,3] (fun (x:List Name)=>[.ptr 0 0,.ptr 1 0,.sc (.int .i64 (x.length)),.ptr 2 0]) (fun x=>[some (.row [.vl false 1 (d.names.map (aq.val false)),.vl false 1 (d.nums.map (cg.val false)),.vl false 1 (d.texts.map (ai.val false)),.vl false 1 (d.raw.map (bg.val false))] 0 2 101),some (.row [.sc (.slice none 0 0),.sc (.slice none 0 0),.sc (.slice none 0 0),.sc (.slice none 0 0)] 0 2 101),some (.row [.sl 3 0 x.length 1,.vl true 1 (d.nums.map (cg.val true)),.vl true 1 (d.texts.map (ai.val true)),.vl true 1 (d.raw.map (bg.val true))] 0 2 101),some (.row (x.map (aq.val true)) 0 0 24)]) (fun x=>x.length≤d.names.length∧x++d.names.drop x.length=d.names) (fun x=>d.names.length - x.length) [] ⟨Nat.zero_le _,rfl⟩ (by
  simp only [↓wR,RA,simprocAttr,TF,ae]
  refine .trans (vs':=[.ptr 0 0,.ptr 1 0,.sc (.int .i64 (0)),.ptr 2 0]) (os':=[some (.row [.vl false 1 (d.names.map (aq.val false)),.vl false 1 (d.nums.map (cg.val false)),.vl false 1 (d.texts.map (ai.val false)),.vl false 1 (d.raw.map (bg.val false))] 0 2 101),some (.row [.sc (.slice none 0 0),.sc (.slice none 0 0),.sc (.slice none 0 0),.sc (.slice none 0 0)] 0 2 101),some (.row [.sc (.slice none 0 0),.vl true 1 (d.nums.map (cg.val true)),.vl true 1 (d.texts.map (ai.val true)),.vl true 1 (d.raw.map (bg.val true))] 0 2 101),none]) (ir.lax [3] (Nat.le_of_ble_eq_true rfl) (dz.refl _ _) (.same (.same (.row (.cons (.same _) (.cons (.data (br cg) true d.nums _ ?_) (.cons (.same _) (.cons (.same _) .nil)))) (cb.refl _ _))))) (.trans (vs':=[.ptr 0 0,.ptr 1 0,.sc (.int .i64 (0)),.ptr 2 0]) (os':=[some (.row [.vl false 1 (d.names.map (aq.val false)),.vl false 1 (d.nums.map (cg.val false)),.vl false 1 (d.texts.map (ai.val false)),.vl false 1 (d.raw.map (bg.val false))] 0 2 101),some (.row [.sc (.slice none 0 0),.sc (.slice none 0 0),.sc (.slice none 0 0),.sc (.slice none 0 0)] 0 2 101),some (.row [.sc (.slice none 0 0),.vl true 1 (d.nums.map (cg.val true)),.vl true 1 (d.texts.map (ai.val true)),.vl true 1 (d.raw.map (bg.val true))] 0 2 101)]) (ir.an9 (by decide) ?_ ?_) (by (refine ir.lax [] (by first|exact Nat.le_of_ble_eq_true rfl|(simp [dk];omega)) ?_ ?_<;>repeat' first|exact dz.nil|exact cb.nil|exact eh.same _|exact eh.nil _ _ _|exact eh.ly _ _|exact cb.refl _ _|apply dz.cons|apply cb.ghost|apply cb.same|apply cb.row)))<;>simp only [↓wR,RA,simprocAttr,TF,ae,v5,yr,Ad,qa]) ?_
 rintro x ⟨hi,hx⟩
 simp only [↓wR,RA,simprocAttr,TF,ae]
 rw [bb];refine ⟨fun h=>?_,fun h=>?_⟩
 ·obtain ⟨c,hc,hd1,hlt⟩:=dq (decide_eq_true h)
  rw [hd1] at hx
  have hlim2:(x.length+1) * 24≤140737488355328:=by omega
  have hcl:c.length≤16777216:=by have:=(hd.name c (List.mem_of_getElem? hc));have:=(i6 c 0).2;unfold bj at *;omega
  simp only [↓wR,RA,simprocAttr,TF,ae,h]
  refine ⟨by kernel_rfl,.inl ?_⟩
  simp only [↓wR,RA,simprocAttr,TF,ae,hc,mh,hcl,hlim2];repeat (simp (disch:=omega) only [ag,bz,b9,bu,bw];try simp only [↓wR,RA,simprocAttr,TF,ae,hc,mh,hcl,hlim2])
  exact ⟨by apply hq;kernel_rfl,x++[c],⟨by simp;omega,by simpa using hx⟩,by simp;omega,by (first|rfl|trivial|omega|((try (simp (disch:=omega) only [ag]));(try (simp only [FB]));first|done|rfl|omega)),by (first|rfl|trivial|omega|((try (simp (disch:=omega) only [ag]));(try (simp only [FB]));first|done|rfl|omega))⟩
 ·rw [en (decide_eq_false h),List.append_nil] at hx
  subst hx
  simp only [↓wR,RA,simprocAttr,TF,ae,h]
noncomputable def rp (x:bo × Unit):Option AV:=if cr x.1 then some ((r1 ay).E true (x.1)) else none
set_option maxRecDepth 2000000 in
theorem Il (x:bo × Unit) (r:AV) (h:rp x=some r):bc PP 101 ((aC ay a0).E x) r:=by
 by_cases hc:cr x.1
 case neg=>simp only [rp,if_neg hc] at h;cases h
 simp only [rp,if_pos hc] at h
 cases h
 exact au (ak.cons (aj Fp) (ak.cons (aj sr) (ak.cons (aj Th) (ak.nil PP)))) Tryz.func101 (by kernel_rfl) (by kernel_rfl) (by kernel_rfl) (Nat.le_of_ble_eq_true (by kernel_rfl)) (r1 ay) true (x.1) (aem x.1 hc)
noncomputable abbrev aar:Nat × Bool × (List AV→M AV):=(101,true,cx (aC ay a0) rp)
theorem wa {n:Name} (h:bj n):n.length≤16777216:=by have:=(i6 n 0).2;unfold bj at h;omega
theorem ai8 (s:bf) (hs:dg s):wl PP [Dl,aar] 0 (Tryz.f46.body.getD .skip) (db PP Tryz.f46.results.toList (fun r st=>(r1 ar).get true st.h r=some s)) (cd 0 [ar.val false s]) (bk []):=by
 have hol:=wa hs.owner
 have hd:=hs.data
 have hn:=hd.len
 have hq:∀ a b c d,eu a b c=d→eu a b c=d:=fun _ _ _ _ h=>h
 unfold Tryz.f46
 simp only [gy]
 simp only [↓wR,RA,simprocAttr,TF,ae]
 refine ⟨by kernel_rfl,.inl ?_⟩
 simp only [↓wR,RA,simprocAttr,TF,ae,mh,hol]
 refine ⟨by apply hq;kernel_rfl,?_⟩
 refine fo [1,2,4,3] (fun (x:List bo)=>[.ptr 0 0,.ptr 1 0,.sc (.int .i64 (x.length)),.ptr 2 0]) (fun x=>[some (.row [.vl false 1 (s.owner.map (ai.val false)),.sc (.int .u16 s.type.toNat),.sc (.int .u16 s.cls.toNat),.sc (.int .u32 s.gm.toNat),.vl false 4 (s.data.map (ay.val false))] 0 2 31),some (.row [.sc (.slice none 0 0),.sc (.int .u16 0),.sc (.int .u16 0),.sc (.int .u32 0),.sc (.slice none 0 0)] 0 2 31),some (.row [aq.val true s.owner,.sc (.int .u16 s.type.toNat),.sc (.int .u16 s.cls.toNat),.sc (.int .u32 s.gm.toNat),.sl 3 0 x.length 4] 0 2 31),some (.row (cellsOf ay true x) 0 0 101)]) (fun x=>x.length≤s.data.length∧x++s.data.drop x.length=s.data) (fun x=>s.data.length - x.length) [] ⟨Nat.zero_le _,rfl⟩ (by simp only [↓wR,RA,simprocAttr,TF,ae];(refine ir.lax [] (by first|exact Nat.le_of_ble_eq_true rfl|(simp [dk];omega)) ?_ ?_<;>repeat' first|exact dz.nil|exact cb.nil|exact eh.same _|exact eh.nil _ _ _|exact eh.ly _ _|exact cb.refl _ _|apply dz.cons|apply cb.ghost|apply cb.same|apply cb.row)) ?_
 rintro x ⟨hi,hx⟩
 simp only [↓wR,RA,simprocAttr,TF,ae]
 rw [bb];refine ⟨fun h=>?_,fun h=>?_⟩
 ·obtain ⟨c,hc,hd1,hlt⟩:=dq (decide_eq_true h)
  rw [hd1] at hx
  have hcs:=hd.mem c (List.mem_of_getElem? hc)
  have hlim:(x.length * 4+4) * 96≤140737488355328:=by omega
  simp only [↓wR,RA,simprocAttr,TF,ae,h]
  refine ⟨by kernel_rfl,.inl ?_⟩
  simp only [↓wR,RA,simprocAttr,TF,ae,hc,rp,hcs,hlim];repeat (simp (disch:=omega) only [ag,bz,b9,bu,bw];try simp only [↓wR,RA,simprocAttr,TF,ae,hc,rp,hcs,hlim])
  refine ⟨by apply hq;kernel_rfl,x++[c],⟨by simp;omega,by simpa using hx⟩,by simp;omega,by (first|rfl|trivial|omega|((try (simp (disch:=omega) only [ag]));(try (simp only [FB]));first|done|rfl|omega)),?_⟩
  rw [Ij,List.length_append];rfl
 ·rw [en (decide_eq_false h),List.append_nil] at hx
  subst hx
  simp only [↓wR,RA,simprocAttr,TF,ae,h]
noncomputable def ui (x:bf × Unit):Option AV:=if dg x.1 then some ((r1 ar).E true (x.1)) else none
set_option maxRecDepth 2000000 in
theorem Kz (x:bf × Unit) (r:AV) (h:ui x=some r):bc PP 46 ((aC ar a0).E x) r:=by
 by_cases hc:dg x.1
 case neg=>simp only [ui,if_neg hc] at h;cases h
 simp only [ui,if_pos hc] at h
 cases h
 exact au (ak.cons (aj sr) (ak.cons (aj Il) (ak.nil PP))) Tryz.func46 (by kernel_rfl) (by kernel_rfl) (by kernel_rfl) (Nat.le_of_ble_eq_true (by kernel_rfl)) (r1 ar) true (x.1) (ai8 x.1 hc)
noncomputable abbrev agv:Nat × Bool × (List AV→M AV):=(46,true,cx (aC ar a0) ui)
theorem afp (l:List bf) (hl:Bz l) (hl2:l.length≤16777216):wl PP [agv] 0 (Tryz.f8.body.getD .skip) (db PP Tryz.f8.results.toList (fun r st=>(r1 (br ar)).get true st.h r=some l)) (cd 0 [(br ar).val false l]) (bk []):=by
 unfold Tryz.f8
 simp only [k7]
 simp only [↓wR,RA,simprocAttr,TF,ae]
 refine fo [0,4,3] (fun (x:List bf)=>[.vl false 5 (l.map (ar.val false)),.sc (.int .i64 (x.length)),.sl 0 0 x.length 5]) (fun x=>[some (.row (cellsOf ar true (x)) 0 0 31)]) (fun x=>x.length≤l.length∧x++l.drop x.length=l) (fun x=>l.length - x.length) [] ⟨Nat.zero_le _,rfl⟩ (by simp only [↓wR,RA,simprocAttr,TF,ae];(refine ir.lax [] (by first|exact Nat.le_of_ble_eq_true rfl|(simp [dk];omega)) ?_ ?_<;>repeat' first|exact dz.nil|exact cb.nil|exact eh.same _|exact eh.nil _ _ _|exact eh.ly _ _|exact cb.refl _ _|apply dz.cons|apply cb.ghost|apply cb.same|apply cb.row)) ?_
 rintro x ⟨hi,hx⟩
 simp only [↓wR,RA,simprocAttr,TF,ae]
 rw [bb];refine ⟨fun h=>?_,fun h=>?_⟩
 ·obtain ⟨c,hc,hd1,hlt⟩:=dq (decide_eq_true h)
  rw [hd1] at hx
  have hcs:=hl.2 c (List.mem_of_getElem? hc)
  have hlim:(x.length * 5+5) * 64≤140737488355328:=by omega
  simp only [↓wR,RA,simprocAttr,TF,ae,h,hc,ui,hcs,hlim];repeat (simp (disch:=omega) only [ag,bz,b9,bu,bw];try simp only [↓wR,RA,simprocAttr,TF,ae,h,hc,ui,hcs,hlim])
  refine ⟨x++[c],⟨by simp;omega,by simpa using hx⟩,by simp;omega,by (first|rfl|trivial|omega|((try (simp (disch:=omega) only [ag]));(try (simp only [FB]));first|done|rfl|omega)),?_⟩
  rw [C0]
 ·rw [en (decide_eq_false h),List.append_nil] at hx
  subst hx
  simp only [↓wR,RA,simprocAttr,TF,ae,h]
noncomputable def A6 (x:List bf × Unit):Option AV:=if Bz x.1∧x.1.length≤16777216 then some ((r1 (br ar)).E true (x.1)) else none
set_option maxRecDepth 2000000 in
theorem Yb (x:List bf × Unit) (r:AV) (h:A6 x=some r):bc PP 8 ((aC (br ar) a0).E x) r:=by
 by_cases hc:Bz x.1∧x.1.length≤16777216
 case neg=>simp only [A6,if_neg hc] at h;cases h
 simp only [A6,if_pos hc] at h
 cases h
 exact au (ak.cons (aj Kz) (ak.nil PP)) Tryz.func8 (by kernel_rfl) (by kernel_rfl) (by kernel_rfl) (Nat.le_of_ble_eq_true (by kernel_rfl)) (r1 (br ar)) true (x.1) (afp x.1 hc.1 hc.2)
noncomputable abbrev aqr:Nat × Bool × (List AV→M AV):=(8,true,cx (aC (br ar) a0) A6)
theorem afm (z:be) (hz:bq z):wl PP [Dl,aqr] 0 (Tryz.f21.body.getD .skip) (db PP Tryz.f21.results.toList (fun r st=>(r1 ca).get true st.h r=some z)) (cd 0 [ca.val false z]) (bk []):=by
 have hol:=wa hz.origin
 have hzl:=hz.len
 have hq:∀ a b c d,eu a b c=d→eu a b c=d:=fun _ _ _ _ h=>h
 unfold Tryz.f21
 simp only [fi]
 simp only [↓wR,RA,simprocAttr,TF,ae]
 refine ⟨by kernel_rfl,.inl ?_⟩
 simp only [↓wR,RA,simprocAttr,TF,ae,mh,hol,A6,hz.mid,hzl]
 apply hq;kernel_rfl
noncomputable def Bf (x:be × Unit):Option AV:=if bq x.1 then some ((r1 ca).E true (x.1)) else none
set_option maxRecDepth 2000000 in
theorem Yj (x:be × Unit) (r:AV) (h:Bf x=some r):bc PP 21 ((aC ca a0).E x) r:=by
 by_cases hc:bq x.1
 case neg=>simp only [Bf,if_neg hc] at h;cases h
 simp only [Bf,if_pos hc] at h
 cases h
 exact au (ak.cons (aj sr) (ak.cons (aj Yb) (ak.nil PP))) Tryz.func21 (by kernel_rfl) (by kernel_rfl) (by kernel_rfl) (Nat.le_of_ble_eq_true (by kernel_rfl)) (r1 ca) true (x.1) (afm x.1 hc)
noncomputable abbrev aaa:Nat × Bool × (List AV→M AV):=(21,true,cx (aC ca a0) Bf)
theorem dz.av8 {h:Tr bh}:∀ (a:List AV) {b c:List AV},dz h b c→dz h (a++b) (a++c)
 | [],_,_,q=>q
 |x::a,_,_,q=>.cons (.same x) (dz.av8 a q)
theorem ak5 {t:UInt16} {d:bo} (h:lf t=true):kn t d=d:=by
 have hk:(cz t).names=0:=by
  unfold lf at h
  unfold cz
  repeat' split
  all_goals first|rfl|(exfalso;simp at h;omega)
 unfold kn
 rw [hk,if_neg (by omega)]
theorem Yv (t:UInt16) : 0≤(cz t).names:=by
 unfold cz
 repeat' split
 all_goals decide
set_option maxHeartbeats 4000000 in
theorem ap3 (t:UInt16) (d:bo) (hd:cr d):wl PP [rOf,abl] 0 (Tryz.f168.body.getD .skip) (db PP Tryz.f168.results.toList (fun r st=>(r1 ay).get false st.h r=some (kn t d))) (cd 0 [cw.val false t,ay.val false d]) (bk []):=by
 have hl:=hd.lens
 have hn0:=Yv t
 unfold Tryz.f168
 simp only [fy,cq]
 simp only [↓wR,RA,simprocAttr,TF,ae,acx,sm]
 rw [cy];refine ⟨fun hb=>?_,fun hb=>?_⟩
 ·have hb':lf t=true:=by simpa using hb
  rw [ak5 hb']
  simp only [↓wR,RA,simprocAttr,TF,ae,hb]
 simp only [↓wR,RA,simprocAttr,TF,ae,hb]
 unfold kn
 rw [cj];refine ⟨fun ⟨h0,e0⟩=>?_,fun ⟨h0,e0⟩=>?_⟩
 ·rw [if_neg (by omega)]
  simp only [↓wR,RA,simprocAttr,TF,ae,h0]
 rw [if_pos (by omega)]
 simp only [↓wR,RA,simprocAttr,TF,ae,h0]
 refine Xf [3,4,8,7] (fun (x:List Name)=>[.ptr 0 0,.ptr 1 0,.sc (.int .i64 (x.length)),.ptr 2 0]) (fun x=>[some (.row [.vl false 1 (d.names.map (aq.val false)),.vl false 1 (d.nums.map (cg.val false)),.vl false 1 (d.texts.map (ai.val false)),.vl false 1 (d.raw.map (bg.val false))] 0 2 101),some (.row [.sc (.slice none 0 0),.sc (.slice none 0 0),.sc (.slice none 0 0),.sc (.slice none 0 0)] 0 2 101),some (.row [.sl 3 0 x.length 1,.vl false 1 (d.nums.map (cg.val false)),.vl false 1 (d.texts.map (ai.val false)),.vl false 1 (d.raw.map (bg.val false))] 0 2 101),some (.row (x.map (aq.val true)) 0 0 24)]) (fun x=>x.length≤d.names.length∧x++(d.names.drop x.length).map ey=d.names.map ey) (fun x=>d.names.length - x.length) [] ⟨Nat.zero_le _,rfl⟩ (by simp only [↓wR,RA,simprocAttr,TF,ae];(refine ir.lax [] (by first|exact Nat.le_of_ble_eq_true rfl|(simp [dk];omega)) ?_ ?_<;>repeat' first|exact dz.nil|exact cb.nil|exact eh.same _|exact eh.nil _ _ _|exact eh.ly _ _|exact cb.refl _ _|apply dz.cons|apply cb.ghost|apply cb.same|apply cb.row)) ?_
 rintro x ⟨hi,hx⟩
 simp only [↓wR,RA,simprocAttr,TF,ae]
 rw [bb];refine ⟨fun h=>?_,fun h=>?_⟩
 ·obtain ⟨c,hc,hd1,hlt⟩:=dq (decide_eq_true h)
  rw [hd1,List.map_cons] at hx
  have hnc:=hd.name c (List.mem_of_getElem? hc)
  have hcl:=hnc.lt
  simp only [↓wR,RA,simprocAttr,TF,ae,h]
  refine fo [3,4,8,10,7,9] (fun (y:Name)=>[.ptr 0 0,.ptr 1 0,.sc (.int .i64 (x.length)),.sc (.int .i64 (y.length)),.ptr 2 0,.sl 4 0 y.length 1]) (fun y=>[some (.row [.vl false 1 (d.names.map (aq.val false)),.vl false 1 (d.nums.map (cg.val false)),.vl false 1 (d.texts.map (ai.val false)),.vl false 1 (d.raw.map (bg.val false))] 0 2 101),some (.row [.sc (.slice none 0 0),.sc (.slice none 0 0),.sc (.slice none 0 0),.sc (.slice none 0 0)] 0 2 101),some (.row [.sl 3 0 x.length 1,.vl false 1 (d.nums.map (cg.val false)),.vl false 1 (d.texts.map (ai.val false)),.vl false 1 (d.raw.map (bg.val false))] 0 2 101),some (.row (x.map (aq.val true)) 0 0 24),some (.row (y.map (ai.val false)) 0 0 9)]) (fun y=>y.length≤c.length∧y++(c.drop y.length).map fold=ey c) (fun y=>c.length - y.length) [] ⟨Nat.zero_le _,rfl⟩ (by simp only [↓wR,RA,simprocAttr,TF,ae];(refine ir.lax [] (by first|exact Nat.le_of_ble_eq_true rfl|(simp [dk];omega)) ?_ ?_<;>repeat' first|exact dz.nil|exact cb.nil|exact eh.same _|exact eh.nil _ _ _|exact eh.ly _ _|exact cb.refl _ _|apply dz.cons|apply cb.ghost|apply cb.same|apply cb.row)) ?_
  rintro y ⟨hj,hy⟩
  simp only [↓wR,RA,simprocAttr,TF,ae,hc]
  rw [bb];refine ⟨fun h2=>?_,fun h2=>?_⟩
  ·obtain ⟨s,hs,hd2,hlt2⟩:=dq (decide_eq_true h2)
   rw [hd2,List.map_cons] at hy
   have hss:=hnc.label s (List.mem_of_getElem? hs)
   simp only [↓wR,RA,simprocAttr,TF,ae,h2,hc,hs,tv,hss,cq];repeat (simp (disch:=omega) only [ag,bz,b9,bu,bw];try simp only [↓wR,RA,simprocAttr,TF,ae,h2,hc,hs,tv,hss,cq])
   exact ⟨y++[fold s],⟨by simp;omega,by simpa using hy⟩,by simp;omega,by (first|rfl|trivial|omega|((try (simp (disch:=omega) only [ag]));(try (simp only [FB]));first|done|rfl|omega)),by (first|rfl|trivial|omega|((try (simp (disch:=omega) only [ag]));(try (simp only [FB]));first|done|rfl|omega))⟩
  rw [en (decide_eq_false h2)] at hy
  obtain rfl:y=ey c:=by simpa using hy
  simp only [↓wR,RA,simprocAttr,TF,ae,h2];repeat (simp (disch:=omega) only [ag,bz,b9,bu,bw];try simp only [↓wR,RA,simprocAttr,TF,ae,h2])
  have hfl:(ey c).length=c.length:=by simp [ey]
  refine ⟨x++[ey c],⟨by simp;omega,by simpa using hx⟩,by simp;omega,?_⟩
  rw [show ((x++[ey c]).length:Int)=(x.length:Int)+1 by simp,List.map_append,List.length_append,List.length_singleton,List.map_cons,List.map_nil]
  refine .trans (vs':=[.ptr 0 0,.ptr 1 0,.sc (.int .i64 ((x.length:Int)+1)),.ptr 2 0]) (os':=[some (.row [.vl false 1 (d.names.map (aq.val false)),.vl false 1 (d.nums.map (cg.val false)),.vl false 1 (d.texts.map (ai.val false)),.vl false 1 (d.raw.map (bg.val false))] 0 2 101),some (.row [.sc (.slice none 0 0),.sc (.slice none 0 0),.sc (.slice none 0 0),.sc (.slice none 0 0)] 0 2 101),some (.row [.sl 3 0 (x.length+1) 1,.vl false 1 (d.nums.map (cg.val false)),.vl false 1 (d.texts.map (ai.val false)),.vl false 1 (d.raw.map (bg.val false))] 0 2 101),some (.row (x.map (aq.val true)++[aq.val true (ey c)]) 0 0 24),none]) (ir.lax [4] (Nat.le_of_ble_eq_true rfl) (dz.refl _ _) (.same (.same (.same (.row (dz.av8 _ (.cons (.data (br ai) true (ey c) _ ?_) .nil)) (cb.refl _ _)))))) (ir.an9 (by decide) ?_ ?_)<;>simp only [↓wR,RA,simprocAttr,TF,ae,v5,yr,Ad,qa]
 ·rw [en (decide_eq_false h)] at hx
  have hxe:x=d.names.map ey:=by simpa using hx
  have hln:d.names.length=x.length:=by rw [hxe,List.length_map]
  rw [← hxe]
  simp only [↓wR,RA,simprocAttr,TF,ae,h]
  rfl
noncomputable def J5 (x:UInt16 × bo × Unit):Option AV:=if cr x.2.1 then some ((r1 ay).E false (kn x.1 x.2.1)) else none
set_option maxRecDepth 2000000 in
theorem ah5 (x:UInt16 × bo × Unit) (r:AV) (h:J5 x=some r):bc PP 168 ((aC cw (aC ay a0)).E x) r:=by
 by_cases hc:cr x.2.1
 case neg=>simp only [J5,if_neg hc] at h;cases h
 simp only [J5,if_pos hc] at h
 cases h
 exact au (ak.cons (aj Pd) (ak.cons (aj Iv) (ak.nil PP))) Tryz.func168 (by kernel_rfl) (by kernel_rfl) (by kernel_rfl) (Nat.le_of_ble_eq_true (by kernel_rfl)) (r1 ay) false (kn x.1 x.2.1) (ap3 x.1 x.2.1 hc)
noncomputable abbrev axg:Nat × Bool × (List AV→M AV):=(168,true,cx (aC cw (aC ay a0)) J5)
theorem Ph:∀ l m:List UInt8,Op.bytesLess l m=decide (Lib.compareBytes l m<0)
 | [],[]=>rfl
 |_::_,[]=>rfl
 | [],_::_=>rfl
 |a::l,b::m=>by
  have ih:=Ph l m
  simp only [Op.bytesLess,Lib.compareBytes,ih]
  by_cases h1:a<b
  ·simp [h1]
  ·by_cases h2:b<a
   ·have:¬ a=b:=fun e=>by subst e;exact h1 h2
    simp [h1,h2,this]
   ·have:a=b:=by rw [UInt8.lt_iff_toNat_lt] at h1 h2;exact UInt8.toNat_inj.1 (by omega)
    subst this
    simp [h1]
theorem adi:∀ l m:List UInt8,Lib.compareBytes l m = -1∨Lib.compareBytes l m=0∨Lib.compareBytes l m=1
 | [],[]=>.inr (.inl rfl)
 |_::_,[]=>.inr (.inr rfl)
 | [],_::_=>.inl rfl
 |a::l,b::m=>by
  have ih:=adi l m
  simp only [Lib.compareBytes]
  split
  ·exact .inl rfl
  ·split
   ·exact .inr (.inr rfl)
   ·exact ih
theorem cmp_eq (l m:List UInt8):(l == m)=decide (Lib.compareBytes l m=0):=by
 rw [Bool.eq_iff_iff]
 simp only [beq_iff_eq,decide_eq_true_eq]
 exact ⟨fun e=>by rw [e];exact U0 _,fun e=>U5 _ _ e⟩
theorem ahz {P:Program} {t:TypeId} (a b:ByteArray):ev P (binOp .lss t (.string a) (.string b))=some (.bool (decide (Lib.compareBytes a.data.toList b.data.toList<0))):=by
 rw [← Ph,← ByteArray.toList_eq,← ByteArray.toList_eq];rfl
theorem ah0 {P:Program} {t:TypeId} (a b:ByteArray):ev P (binOp .gtr t (.string a) (.string b))=some (.bool (decide (0<Lib.compareBytes a.data.toList b.data.toList))):=by
 have h:(!(Op.bytesLess a.toList b.toList || (a.toList == b.toList)))=decide (0<Lib.compareBytes a.data.toList b.data.toList):=by
  rw [Ph,cmp_eq,ByteArray.toList_eq,ByteArray.toList_eq,Bool.eq_iff_iff]
  simp
  omega
 rw [← h];rfl
theorem S3 (t:UInt16) (a b:bo) (ha:cr a) (hb:cr b):wl PP [Hn,axg,avd] 0 (Tryz.f128.body.getD .skip) (db PP Tryz.f128.results.toList (fun r st=>(r1 (ba .i64)).get true st.h r=some (if dw t a≠0∨dw t b≠0 then 0 else Ae t a b))) (cd 0 [cw.val false t,ay.val false a,ay.val false b]) (bk []):=by
 unfold Tryz.f128
 simp only [fy,cq]
 simp only [↓wR,RA,simprocAttr,TF,ae,m5,ha,hb]
 rw [de];refine ⟨fun ⟨h1,e1⟩=>?_,fun ⟨h1,e1⟩=>?_⟩
 ·rw [if_pos (.inl e1)]
  simp only [↓wR,RA,simprocAttr,TF,ae,h1]
 simp only [↓wR,RA,simprocAttr,TF,ae,h1,m5,ha,hb]
 rw [de];refine ⟨fun ⟨h2,e2⟩=>?_,fun ⟨h2,e2⟩=>?_⟩
 ·rw [if_pos (.inr e2)]
  simp only [↓wR,RA,simprocAttr,TF,ae,h2]
 rw [if_neg (by omega)]
 simp only [↓wR,RA,simprocAttr,TF,ae,h2]
 refine ⟨by kernel_rfl,.inl ?_⟩
 have ea:=J6 e1
 have eb:=J6 e2
 have fa:=cr.fold ha t
 have fb:=cr.fold hb t
 simp only [↓wR,RA,simprocAttr,TF,ae,J5,ha,hb,F2,ea,eb,fa,fb]
 refine ⟨by kernel_rfl,?_⟩
 have hv:Ae t a b=Lib.compareBytes (lq t (kn t a)) (lq t (kn t b)):=by
  unfold Ae Dt Ub
  rw [if_neg (by omega),if_neg (by omega),if_neg (by omega)]
 rw [hv]
 obtain ⟨x,hx⟩:∃ x,x=lq t (kn t a):=⟨_,rfl⟩
 obtain ⟨y,hy⟩:∃ y,y=lq t (kn t b):=⟨_,rfl⟩
 rw [← hx,← hy]
 have h3:=adi x y
 simp only [↓wR,RA,simprocAttr,TF,ae,ahz]
 rw [bb];refine ⟨fun h4=>?_,fun h4=>?_⟩
 ·have h5:Lib.compareBytes x y = -1:=by omega
  rw [h5]
  simp only [↓wR,RA,simprocAttr,TF,ae,h4]
 ·simp only [↓wR,RA,simprocAttr,TF,ae,h4,ah0]
  rw [bb];refine ⟨fun h6=>?_,fun h6=>?_⟩
  ·have h5:Lib.compareBytes x y=1:=by omega
   rw [h5]
   simp only [↓wR,RA,simprocAttr,TF,ae,h6]
  ·have h5:Lib.compareBytes x y=0:=by omega
   rw [h5]
   simp only [↓wR,RA,simprocAttr,TF,ae,h6]
noncomputable def kz (x:UInt16 × bo × bo × Unit):Option AV:=if cr x.2.1∧cr x.2.2.1 then some ((r1 (ba .i64)).E true ((if dw x.1 x.2.1≠0∨dw x.1 x.2.2.1≠0 then 0 else Ae x.1 x.2.1 x.2.2.1))) else none
set_option maxRecDepth 2000000 in
theorem B9 (x:UInt16 × bo × bo × Unit) (r:AV) (h:kz x=some r):bc PP 128 ((aC cw (aC ay (aC ay a0))).E x) r:=by
 by_cases hc:cr x.2.1∧cr x.2.2.1
 case neg=>simp only [kz,if_neg hc] at h;cases h
 simp only [kz,if_pos hc] at h
 cases h
 exact au (ak.cons (aj x8) (ak.cons (aj ah5) (ak.cons (aj ad7) (ak.nil PP)))) Tryz.func128 (by kernel_rfl) (by kernel_rfl) (by kernel_rfl) (Nat.le_of_ble_eq_true (by kernel_rfl)) (r1 (ba .i64)) true ((if dw x.1 x.2.1≠0∨dw x.1 x.2.2.1≠0 then 0 else Ae x.1 x.2.1 x.2.2.1)) (S3 x.1 x.2.1 x.2.2.1 hc.1 hc.2)
noncomputable abbrev Jp:Nat × Bool × (List AV→M AV):=(128,true,cx (aC cw (aC ay (aC ay a0))) kz)
theorem aah (t:UInt16) (a b:bo) (ha:cr a) (hb:cr b):wl PP [Hn,Jp] 0 (Tryz.f157.body.getD .skip) (db PP Tryz.f157.results.toList (fun r st=>(r1 az).get true st.h r=some (vw t a b))) (cd 0 [cw.val false t,ay.val false a,ay.val false b]) (bk []):=by
 unfold vw
 unfold Tryz.f157
 simp only [fy,cq]
 simp only [↓wR,RA,simprocAttr,TF,ae,m5,ha,hb]
 rw [cj];refine ⟨fun ⟨h1,e1⟩=>?_,fun ⟨h1,e1⟩=>?_⟩
 ·simp only [↓wR,RA,simprocAttr,TF,ae,h1,m5,ha,hb,e1]
  rw [cj];refine ⟨fun ⟨h2,e2⟩=>?_,fun ⟨h2,e2⟩=>?_⟩
  ·simp only [↓wR,RA,simprocAttr,TF,ae,h2,kz,ha,hb,e1,e2]
   rw [if_neg (by simp)]
   rfl
  ·simp only [↓wR,RA,simprocAttr,TF,ae,h2]
   simp [e2]
 ·simp only [↓wR,RA,simprocAttr,TF,ae,h1]
  simp [e1]
noncomputable def xn (x:UInt16 × bo × bo × Unit):Option AV:=if cr x.2.1∧cr x.2.2.1 then some ((r1 az).E true (vw x.1 x.2.1 x.2.2.1)) else none
set_option maxRecDepth 2000000 in
theorem Tz (x:UInt16 × bo × bo × Unit) (r:AV) (h:xn x=some r):bc PP 157 ((aC cw (aC ay (aC ay a0))).E x) r:=by
 by_cases hc:cr x.2.1∧cr x.2.2.1
 case neg=>simp only [xn,if_neg hc] at h;cases h
 simp only [xn,if_pos hc] at h
 cases h
 exact au (ak.cons (aj x8) (ak.cons (aj B9) (ak.nil PP))) Tryz.func157 (by kernel_rfl) (by kernel_rfl) (by kernel_rfl) (Nat.le_of_ble_eq_true (by kernel_rfl)) (r1 az) true (vw x.1 x.2.1 x.2.2.1) (aah x.1 x.2.1 x.2.2.1 hc.1 hc.2)
noncomputable abbrev am5:Nat × Bool × (List AV→M AV):=(157,true,cx (aC cw (aC ay (aC ay a0))) xn)
theorem avm (t:UInt16) (l:List bo) (d:bo) (hl:mf l) (hd:cr d):wl PP [am5] 0 (Tryz.f114.body.getD .skip) (db PP Tryz.f114.results.toList (fun r st=>(r1 az).get true st.h r=some (zj t l d))) (cd 0 [cw.val false t,(br ay).val false l,ay.val false d]) (bk []):=by
 have hll:=hl.len
 unfold zj
 unfold Tryz.f114
 simp only [fy,cq]
 simp only [↓wR,RA,simprocAttr,TF,ae]
 refine dp [0,1,5,7] (fun (i:Nat)=>[.sc (.int .u16 t.toNat),.vl false 4 (l.map (ay.val false)),.ptr 0 0,.sc (.int .i64 (i))]) (fun _=>[some (.row [.vl false 1 (d.names.map (aq.val false)),.vl false 1 (d.nums.map (cg.val false)),.vl false 1 (d.texts.map (ai.val false)),.vl false 1 (d.raw.map (bg.val false))] 0 2 101)]) (fun i=>i≤l.length∧(l.any fun x=>vw t x d)=((l.drop i).any fun x=>vw t x d)) (fun i=>l.length - i) 0 ⟨Nat.zero_le _,rfl⟩ (by simp only [↓wR,RA,simprocAttr,TF,ae]<;>rfl) (by simp only [↓wR,RA,simprocAttr,TF,ae]<;>rfl) ?_
 rintro i ⟨hi,hx⟩
 simp only [↓wR,RA,simprocAttr,TF,ae]
 rw [bb];refine ⟨fun h=>?_,fun h=>?_⟩
 ·obtain ⟨c,hc,hd1,hlt⟩:=dq (decide_eq_true h)
  have hsc:=hl.mem c (List.mem_of_getElem? hc)
  rw [hd1,List.any_cons] at hx
  simp only [↓wR,RA,simprocAttr,TF,ae,h]
  refine ⟨by kernel_rfl,.inl ?_⟩
  simp only [↓wR,RA,simprocAttr,TF,ae,hc,xn,hsc,hd]
  refine ⟨by kernel_rfl,?_⟩
  rw [cy];refine ⟨fun h2=>?_,fun h2=>?_⟩
  ·rw [hx,h2]
   simp only [↓wR,RA,simprocAttr,TF,ae,h2]
  ·rw [h2,Bool.false_or] at hx
   simp only [↓wR,RA,simprocAttr,TF,ae,h2];repeat (simp (disch:=omega) only [ag,bz,b9,bu,bw];try simp only [↓wR,RA,simprocAttr,TF,ae,h2])
   exact ⟨i+1,⟨hlt,hx⟩,by omega,by (first|rfl|trivial|omega|((try (simp (disch:=omega) only [ag]));(try (simp only [FB]));first|done|rfl|omega))⟩
 ·rw [en (decide_eq_false h)] at hx
  rw [hx]
  simp only [↓wR,RA,simprocAttr,TF,ae,h]
  try rfl
noncomputable def ab5 (x:UInt16 × List bo × bo × Unit):Option AV:=if mf x.2.1∧cr x.2.2.1 then some ((r1 az).E true (zj x.1 x.2.1 x.2.2.1)) else none
set_option maxRecDepth 2000000 in
theorem aqa (x:UInt16 × List bo × bo × Unit) (r:AV) (h:ab5 x=some r):bc PP 114 ((aC cw (aC (br ay) (aC ay a0))).E x) r:=by
 by_cases hc:mf x.2.1∧cr x.2.2.1
 case neg=>simp only [ab5,if_neg hc] at h;cases h
 simp only [ab5,if_pos hc] at h
 cases h
 exact au (ak.cons (aj Tz) (ak.nil PP)) Tryz.func114 (by kernel_rfl) (by kernel_rfl) (by kernel_rfl) (Nat.le_of_ble_eq_true (by kernel_rfl)) (r1 az) true (zj x.1 x.2.1 x.2.2.1) (avm x.1 x.2.1 x.2.2.1 hc.1 hc.2)
noncomputable abbrev rIn:Nat × Bool × (List AV→M AV):=(114,true,cx (aC cw (aC (br ay) (aC ay a0))) ab5)
def js (s:bf):List lu:=s.data.map fun d=>mkR s.owner s.type s.cls s.gm d
theorem ajn (s:bf) (hs:dg s):wl PP [fw,Aa,acg] 0 (Tryz.f68.body.getD .skip) (db PP Tryz.f68.results.toList (fun r st=>(r2 (br dv) (ba .i64)).get true st.h r=some (if jr s=0 then js s else [],jr s))) (cd 0 [ar.val false s]) (bk []):=by
 have hq:∀ a b c d,eu a b c=d→eu a b c=d:=fun _ _ _ _ h=>h
 have ho:=hs.owner
 have hd:=hs.data
 have hn:=hd.len
 unfold Tryz.f68
 simp only [gy]
 simp only [↓wR,RA,simprocAttr,TF,ae,tp,hs]
 rw [de];refine ⟨fun ⟨h2,e2⟩=>?_,fun ⟨h2,e2⟩=>?_⟩
 ·rw [if_neg e2]
  simp only [↓wR,RA,simprocAttr,TF,ae,h2]
 rw [if_pos (by omega),show jr s=0 by omega]
 simp only [↓wR,RA,simprocAttr,TF,ae,h2]
 refine fo [1,14,15,16,5] (fun (i:Nat)=>[.ptr 0 0,.vl false 4 (s.data.map (ay.val false)),.sc (.int .i64 (s.data.length)),.sc (.int .i64 (i)),.sl 1 0 i 8]) (fun i=>[some (.row [.vl false 1 (s.owner.map (ai.val false)),.sc (.int .u16 s.type.toNat),.sc (.int .u16 s.cls.toNat),.sc (.int .u32 s.gm.toNat),.vl false 4 (s.data.map (ay.val false))] 0 2 31),some (.row (cellsOf dv true (((js s).take i))) 0 0 121)]) (fun i=>i≤s.data.length) (fun i=>s.data.length - i) 0 (Nat.zero_le _) (by simp only [↓wR,RA,simprocAttr,TF,ae];(refine ir.lax [] (by first|exact Nat.le_of_ble_eq_true rfl|(simp [dk];omega)) ?_ ?_<;>repeat' first|exact dz.nil|exact cb.nil|exact eh.same _|exact eh.nil _ _ _|exact eh.ly _ _|exact cb.refl _ _|apply dz.cons|apply cb.ghost|apply cb.same|apply cb.row)) ?_
 intro i hi
 simp only [↓wR,RA,simprocAttr,TF,ae]
 rw [bb];refine ⟨fun h=>?_,fun h=>?_⟩
 ·obtain ⟨c,hc,hd1,hlt⟩:=dq (decide_eq_true h)
  have hcs:=hd.mem c (List.mem_of_getElem? hc)
  have hlim:(i * 8+8) * 160≤140737488355328:=by omega
  have hr:(js s)[i]? = some (mkR s.owner s.type s.cls s.gm c):=by unfold js;rw [List.getElem?_map,hc];rfl
  have hrl:((js s).take i).length=i:=by rw [List.length_take];unfold js;rw [List.length_map];omega
  simp only [↓wR,RA,simprocAttr,TF,ae,h,hc]
  refine ⟨by kernel_rfl,.inl ?_⟩
  simp only [↓wR,RA,simprocAttr,TF,ae,mj,ho,ue,hcs,hrl,hlim];repeat (simp (disch:=omega) only [ag,bz,b9,bu,bw];try simp only [↓wR,RA,simprocAttr,TF,ae,mj,ho,ue,hcs,hrl,hlim])
  refine ⟨by apply hq;kernel_rfl,i+1,hlt,by omega,by (first|rfl|trivial|omega|((try (simp (disch:=omega) only [ag]));(try (simp only [FB]));first|done|rfl|omega)),?_⟩
  rw [Eb hr,Ko,cq]
  rfl
 ·have hin:i=s.data.length:=by omega
  subst hin
  have hrl:(js s).length=s.data.length:=by unfold js;rw [List.length_map]
  rw [List.take_of_length_le (by omega)]
  simp only [↓wR,RA,simprocAttr,TF,ae,h]
  rw [ow dv true _ true (js s) 0 0 _ s.data.length hrl.symm rfl (by kernel_rfl)]
noncomputable def uu (x:bf × Unit):Option AV:=if dg x.1 then some ((r2 (br dv) (ba .i64)).E true ((if jr x.1=0 then js x.1 else [],jr x.1))) else none
set_option maxRecDepth 2000000 in
theorem Tw (x:bf × Unit) (r:AV) (h:uu x=some r):bc PP 68 ((aC ar a0).E x) r:=by
 by_cases hc:dg x.1
 case neg=>simp only [uu,if_neg hc] at h;cases h
 simp only [uu,if_pos hc] at h
 cases h
 exact au (ak.cons (aj B2) (ak.cons (aj pj) (ak.cons (aj Ib) (ak.nil PP)))) Tryz.func68 (by kernel_rfl) (by kernel_rfl) (by kernel_rfl) (Nat.le_of_ble_eq_true (by kernel_rfl)) (r2 (br dv) (ba .i64)) true ((if jr x.1=0 then js x.1 else [],jr x.1)) (ajn x.1 hc)
noncomputable abbrev an0:Nat × Bool × (List AV→M AV):=(68,true,cx (aC ar a0) uu)
theorem aa5 (s:bf) (hs:dg s):wl PP [Sb,Hn,rIn] 0 (Tryz.f86.body.getD .skip) (db PP Tryz.f86.results.toList (fun r st=>(r1 (ba .i64)).get true st.h r=some (jr s))) (cd 0 [ar.val false s]) (bk []):=by
 have ho:=hs.owner
 have hd:=hs.data
 have hn:=hd.len
 unfold Tryz.f86
 simp only [gy]
 simp only [↓wR,RA,simprocAttr,TF,ae,xl,ho.fit]
 unfold jr
 rw [de];refine ⟨fun ⟨h,he⟩=>?_,fun ⟨h,he⟩=>?_⟩
 ·rw [if_pos he]
  simp only [↓wR,RA,simprocAttr,TF,ae,h]
 rw [if_neg (by omega)]
 simp only [↓wR,RA,simprocAttr,TF,ae,h]
 rw [cj];refine ⟨fun ⟨h1,e1⟩=>?_,fun ⟨h1,e1⟩=>?_⟩
 ·rw [if_pos (by omega)]
  simp only [↓wR,RA,simprocAttr,TF,ae,h1]
 rw [if_neg (by omega)]
 simp only [↓wR,RA,simprocAttr,TF,ae,h1]
 rw [bb];refine ⟨fun h2=>?_,fun h2=>?_⟩
 ·rw [if_pos (by omega)]
  simp only [↓wR,RA,simprocAttr,TF,ae,h2]
 rw [if_neg (by omega)]
 simp only [↓wR,RA,simprocAttr,TF,ae,h2]
 refine dp [1,4] (fun (i:Nat)=>[.ptr 0 0,.sc (.int .i64 (i))]) (fun _=>[some (.row [.vl false 1 (s.owner.map (ai.val false)),.sc (.int .u16 s.type.toNat),.sc (.int .u16 s.cls.toNat),.sc (.int .u32 s.gm.toNat),.vl false 4 (s.data.map (ay.val false))] 0 2 31)]) (fun i=>i≤s.data.length∧o0 s.type [] s.data=o0 s.type (s.data.take i) (s.data.drop i)) (fun i=>s.data.length - i) 0 ⟨Nat.zero_le _,rfl⟩ (by simp only [↓wR,RA,simprocAttr,TF,ae]<;>rfl) (by simp only [↓wR,RA,simprocAttr,TF,ae]<;>rfl) ?_
 rintro i ⟨hi,hx⟩
 simp only [↓wR,RA,simprocAttr,TF,ae]
 rw [bb];refine ⟨fun h3=>?_,fun h3=>?_⟩
 ·obtain ⟨c,hc,hd1,hlt⟩:=dq (decide_eq_true h3)
  rw [Oe _ hc] at hx
  have hcs:=hd.mem c (List.mem_of_getElem? hc)
  simp only [↓wR,RA,simprocAttr,TF,ae,h3]
  refine ⟨by kernel_rfl,.inl ?_⟩
  simp only [↓wR,RA,simprocAttr,TF,ae,hc,m5,hcs]
  refine ⟨by kernel_rfl,?_⟩
  rw [de];refine ⟨fun ⟨h4,he4⟩=>?_,fun ⟨h4,he4⟩=>?_⟩
  ·rw [if_pos he4] at hx
   rw [hx]
   simp only [↓wR,RA,simprocAttr,TF,ae,h4]
  ·rw [if_neg (by omega)] at hx
   simp only [↓wR,RA,simprocAttr,TF,ae,h4]
   refine ⟨by kernel_rfl,.inl ?_⟩
   simp only [↓wR,RA,simprocAttr,TF,ae,hi,hc,ab5,hd.take i,hcs]
   refine ⟨by kernel_rfl,?_⟩
   rw [cy];refine ⟨fun h5=>?_,fun h5=>?_⟩
   ·rw [if_pos h5] at hx
    rw [hx]
    simp only [↓wR,RA,simprocAttr,TF,ae,h5]
   ·rw [if_neg (by rw [h5];decide)] at hx
    simp only [↓wR,RA,simprocAttr,TF,ae,h5];repeat (simp (disch:=omega) only [ag,bz,b9,bu,bw];try simp only [↓wR,RA,simprocAttr,TF,ae,h5])
    exact ⟨i+1,⟨hlt,hx⟩,by omega,by (first|rfl|trivial|omega|((try (simp (disch:=omega) only [ag]));(try (simp only [FB]));first|done|rfl|omega))⟩
 ·rw [en (decide_eq_false h3)] at hx
  rw [hx]
  simp only [↓wR,RA,simprocAttr,TF,ae,h3]
  try rfl
noncomputable def xt (x:bf × Unit):Option AV:=if dg x.1 then some ((r1 (ba .i64)).E true (jr x.1)) else none
set_option maxRecDepth 2000000 in
theorem T3 (x:bf × Unit) (r:AV) (h:xt x=some r):bc PP 86 ((aC ar a0).E x) r:=by
 by_cases hc:dg x.1
 case neg=>simp only [xt,if_neg hc] at h;cases h
 simp only [xt,if_pos hc] at h
 cases h
 exact au (ak.cons (aj A1) (ak.cons (aj x8) (ak.cons (aj aqa) (ak.nil PP)))) Tryz.func86 (by kernel_rfl) (by kernel_rfl) (by kernel_rfl) (Nat.le_of_ble_eq_true (by kernel_rfl)) (r1 (ba .i64)) true (jr x.1) (aa5 x.1 hc)
noncomputable abbrev aol:Nat × Bool × (List AV→M AV):=(86,true,cx (aC ar a0) xt)
theorem aur (s:bf) (hs:dg s):wl PP [Dl,aar] 0 (Tryz.f69.body.getD .skip) (db PP Tryz.f69.results.toList (fun r st=>(r1 (br dv)).get true st.h r=some (js s))) (cd 0 [ar.val false s]) (bk []):=by
 have hq:∀ a b c d,eu a b c=d→eu a b c=d:=fun _ _ _ _ h=>h
 have ho:=hs.owner
 have hol:s.owner.length≤16777216:=by have:=ho.lt;omega
 have hd:=hs.data
 have hn:=hd.len
 unfold Tryz.f69
 simp only [gy]
 simp only [↓wR,RA,simprocAttr,TF,ae]
 refine fo [1,4,3] (fun (i:Nat)=>[.ptr 0 0,.sc (.int .i64 (i)),.sl 1 0 i 8]) (fun i=>[some (.row [.vl false 1 (s.owner.map (ai.val false)),.sc (.int .u16 s.type.toNat),.sc (.int .u16 s.cls.toNat),.sc (.int .u32 s.gm.toNat),.vl false 4 (s.data.map (ay.val false))] 0 2 31),some (.row (cellsOf dv true (((js s).take i))) 0 0 121)]) (fun i=>i≤s.data.length) (fun i=>s.data.length - i) 0 (Nat.zero_le _) (by simp only [↓wR,RA,simprocAttr,TF,ae];(refine ir.lax [] (by first|exact Nat.le_of_ble_eq_true rfl|(simp [dk];omega)) ?_ ?_<;>repeat' first|exact dz.nil|exact cb.nil|exact eh.same _|exact eh.nil _ _ _|exact eh.ly _ _|exact cb.refl _ _|apply dz.cons|apply cb.ghost|apply cb.same|apply cb.row)) ?_
 intro i hi
 simp only [↓wR,RA,simprocAttr,TF,ae]
 rw [bb];refine ⟨fun h=>?_,fun h=>?_⟩
 ·obtain ⟨c,hc,hd1,hlt⟩:=dq (decide_eq_true h)
  have hcs:=hd.mem c (List.mem_of_getElem? hc)
  have hlim:(i * 8+8) * 160≤140737488355328:=by omega
  have hr:(js s)[i]? = some (mkR s.owner s.type s.cls s.gm c):=by unfold js;rw [List.getElem?_map,hc];rfl
  have hrl:((js s).take i).length=i:=by rw [List.length_take];unfold js;rw [List.length_map];omega
  simp only [↓wR,RA,simprocAttr,TF,ae,h]
  refine ⟨by kernel_rfl,.inl ?_⟩
  simp only [↓wR,RA,simprocAttr,TF,ae,hc,mh,hol,rp,hcs,hrl,hlim];repeat (simp (disch:=omega) only [ag,bz,b9,bu,bw];try simp only [↓wR,RA,simprocAttr,TF,ae,hc,mh,hol,rp,hcs,hrl,hlim])
  refine ⟨by apply hq;kernel_rfl,i+1,hlt,by omega,by (first|rfl|trivial|omega|((try (simp (disch:=omega) only [ag]));(try (simp only [FB]));first|done|rfl|omega)),?_⟩
  rw [Eb hr,Ko,cq]
  rfl
 ·have hin:i=s.data.length:=by omega
  subst hin
  have hrl:(js s).length=s.data.length:=by unfold js;rw [List.length_map]
  rw [List.take_of_length_le (by omega)]
  simp only [↓wR,RA,simprocAttr,TF,ae,h]
  rw [ow dv true _ true (js s) 0 0 _ s.data.length hrl.symm rfl (by kernel_rfl)]
noncomputable def Mf (x:bf × Unit):Option AV:=if dg x.1 then some ((r1 (br dv)).E true (js x.1)) else none
set_option maxRecDepth 2000000 in
theorem amz (x:bf × Unit) (r:AV) (h:Mf x=some r):bc PP 69 ((aC ar a0).E x) r:=by
 by_cases hc:dg x.1
 case neg=>simp only [Mf,if_neg hc] at h;cases h
 simp only [Mf,if_pos hc] at h
 cases h
 exact au (ak.cons (aj sr) (ak.cons (aj Il) (ak.nil PP))) Tryz.func69 (by kernel_rfl) (by kernel_rfl) (by kernel_rfl) (Nat.le_of_ble_eq_true (by kernel_rfl)) (r1 (br dv)) true (js x.1) (aur x.1 hc)
noncomputable abbrev ax6:Nat × Bool × (List AV→M AV):=(69,true,cx (aC ar a0) Mf)
noncomputable def gi (s:bf):bf:=if s.data.all (fun d=>decide (dw s.type d=0))=true then mkS s.owner s.type s.cls s.gm (aki (ltD s.type) s.data) else s
theorem alx (a b:bf) (ha:dg a) (hb:dg b):wl PP [ari] 0 (Tryz.f127.body.getD .skip) (db PP Tryz.f127.results.toList (fun r st=>(r1 az).get true st.h r=some (decide (xf a b<0)))) (cd 0 [ar.val false a,ar.val false b]) (bk []):=by
 have hna:=ha.owner
 have hnb:=hb.owner
 unfold xf K6 K6 K6
 unfold Tryz.f127
 simp only [gy]
 simp only [↓wR,RA,simprocAttr,TF,ae,A8,hna,hnb]
 rw [de];refine ⟨fun ⟨h1,e1⟩=>?_,fun ⟨h1,e1⟩=>?_⟩
 ·rw [if_pos e1]
  simp only [↓wR,RA,simprocAttr,TF,ae,h1]
 rw [if_neg (by omega)]
 simp only [↓wR,RA,simprocAttr,TF,ae,h1]
 congr 1
 rw [decide_eq_decide]
 unfold Tk
 repeat' split
 all_goals omega
noncomputable def Cv (x:bf × bf × Unit):Option AV:=if dg x.1∧dg x.2.1 then some ((r1 az).E true (decide (xf x.1 x.2.1<0))) else none
set_option maxRecDepth 2000000 in
theorem aex (x:bf × bf × Unit) (r:AV) (h:Cv x=some r):bc PP 127 ((aC ar (aC ar a0)).E x) r:=by
 by_cases hc:dg x.1∧dg x.2.1
 case neg=>simp only [Cv,if_neg hc] at h;cases h
 simp only [Cv,if_pos hc] at h
 cases h
 exact au (ak.cons (aj Xy) (ak.nil PP)) Tryz.func127 (by kernel_rfl) (by kernel_rfl) (by kernel_rfl) (Nat.le_of_ble_eq_true (by kernel_rfl)) (r1 az) true (decide (xf x.1 x.2.1<0)) (alx x.1 x.2.1 hc.1 hc.2)
noncomputable abbrev avr:Nat × Bool × (List AV→M AV):=(127,true,cx (aC ar (aC ar a0)) Cv)
theorem arv (z:be) (n:Name) (hz:bq z) (hn:bj n):wl PP [m6,agv] 0 (Tryz.f30.body.getD .skip) (db PP Tryz.f30.results.toList (fun r st=>(r1 (br ar)).get true st.h r=some (xb z n))) (cd 0 [ca.val false z,aq.val false n]) (bk []):=by
 have hlen:=hz.len
 unfold Tryz.f30
 simp only [fi,cq]
 simp only [↓wR,RA,simprocAttr,TF,ae]
 refine fo [1,2,6,5] (fun (x:Nat × List bf)=>[.vl false 1 (n.map (ai.val false)),.ptr 0 0,.sc (.int .i64 (x.1)),.sl 1 0 x.2.length 5]) (fun x=>[some (.row [.vl false 1 (z.origin.map (ai.val false)),.vl false 5 (z.ah.map (ar.val false))] 0 2 41),some (.row (cellsOf ar true (x.2)) 0 0 31)]) (fun x=>x.1≤z.ah.length∧x.2++(z.ah.drop x.1).filter (fun s=>fg s.owner n)=xb z n∧x.2.length≤x.1) (fun x=>z.ah.length - x.1) (0,[]) ⟨Nat.zero_le _,rfl,Nat.le_refl _⟩ (by simp only [↓wR,RA,simprocAttr,TF,ae];(refine ir.lax [] (by first|exact Nat.le_of_ble_eq_true rfl|(simp [dk];omega)) ?_ ?_<;>repeat' first|exact dz.nil|exact cb.nil|exact eh.same _|exact eh.nil _ _ _|exact eh.ly _ _|exact cb.refl _ _|apply dz.cons|apply cb.ghost|apply cb.same|apply cb.row)) ?_
 rintro ⟨i,x⟩ ⟨hi,hx,hxl⟩
 simp only at hi hx hxl
 simp only [↓wR,RA,simprocAttr,TF,ae]
 rw [bb];refine ⟨fun h=>?_,fun h=>?_⟩
 ·obtain ⟨c,hc,hd1,hlt⟩:=dq (decide_eq_true h)
  have hcs:=hz.ah.mem c (List.mem_of_getElem? hc)
  rw [hd1,List.filter_cons] at hx
  have hlim:(x.length * 5+5) * 56≤140737488355328:=by omega
  simp only [↓wR,RA,simprocAttr,TF,ae,h,hc,vj,hcs.owner,hn]
  rw [cy];refine ⟨fun h2=>?_,fun h2=>?_⟩
  ·rw [if_pos h2] at hx
   simp only [↓wR,RA,simprocAttr,TF,ae,h2,hc,ui,hcs,hlim];repeat (simp (disch:=omega) only [ag,bz,b9,bu,bw];try simp only [↓wR,RA,simprocAttr,TF,ae,h2,hc,ui,hcs,hlim])
   refine ⟨(i+1,x++[c]),⟨hlt,by simpa using hx,by simp;omega⟩,by simp;omega,by (first|rfl|trivial|omega|((try (simp (disch:=omega) only [ag]));(try (simp only [FB]));first|done|rfl|omega)),?_⟩
   rw [C0]
  ·rw [if_neg (by rw [h2];decide)] at hx
   simp only [↓wR,RA,simprocAttr,TF,ae,h2];repeat (simp (disch:=omega) only [ag,bz,b9,bu,bw];try simp only [↓wR,RA,simprocAttr,TF,ae,h2])
   exact ⟨(i+1,x),⟨hlt,hx,by show x.length≤i+1;omega⟩,by simp;omega,by (first|rfl|trivial|omega|((try (simp (disch:=omega) only [ag]));(try (simp only [FB]));first|done|rfl|omega)),rfl⟩
 ·rw [en (decide_eq_false h),List.filter_nil,List.append_nil] at hx
  have hd:∀ fr h k st et,B8 fr st 5 ar.kd et=true→kq ar fr h 0 x.length (.row (cellsOf ar true x) k st et)=some x:=fun fr h k st et hro=>ow ar fr h true x k st et x.length rfl (by cases fr<;>rfl) hro
  rw [← hx]
  simp only [↓wR,RA,simprocAttr,TF,ae,h,hd]
noncomputable def Gs (x:be × Name × Unit):Option AV:=if bq x.1∧bj x.2.1 then some ((r1 (br ar)).E true (xb x.1 x.2.1)) else none
set_option maxRecDepth 2000000 in
theorem Tc (x:be × Name × Unit) (r:AV) (h:Gs x=some r):bc PP 30 ((aC ca (aC aq a0)).E x) r:=by
 by_cases hc:bq x.1∧bj x.2.1
 case neg=>simp only [Gs,if_neg hc] at h;cases h
 simp only [Gs,if_pos hc] at h
 cases h
 exact au (ak.cons (aj u3) (ak.cons (aj Kz) (ak.nil PP))) Tryz.func30 (by kernel_rfl) (by kernel_rfl) (by kernel_rfl) (Nat.le_of_ble_eq_true (by kernel_rfl)) (r1 (br ar)) true (xb x.1 x.2.1) (arv x.1 x.2.1 hc.1 hc.2)
noncomputable abbrev ai0:Nat × Bool × (List AV→M AV):=(30,true,cx (aC ca (aC aq a0)) Gs)
def qf (z:be) (s:bf):Bool:=decide ((s.type.toNat:Int)=2) && (eg s.owner z.origin && !fg s.owner z.origin)
def qn (z:be):List Name:=(z.ah.filter (qf z)).map (·.owner)
theorem ahd {z:be} {l:List bf} {i:Nat} {c:bf} (h:l.drop i=c::l.drop (i+1)):((l.drop i).filter (qf z)).map (·.owner)=(if qf z c=true then [c.owner] else [])++((l.drop (i+1)).filter (qf z)).map (·.owner):=by
 rw [h,List.filter_cons];split<;>rfl
theorem ara (z:be) (hz:bq z):wl PP [ma,m6,Dl] 0 (Tryz.f36.body.getD .skip) (db PP Tryz.f36.results.toList (fun r st=>(r1 (br aq)).get true st.h r=some (qn z))) (cd 0 [ca.val false z]) (bk []):=by
 have hlen:=hz.len
 have hzo:=hz.origin
 unfold Tryz.f36
 simp only [fi]
 simp only [↓wR,RA,simprocAttr,TF,ae]
 refine fo [1,4,3] (fun (x:Nat × List Name)=>[.ptr 0 0,.sc (.int .i64 (x.1)),.sl 1 0 x.2.length 1]) (fun x=>[some (.row [.vl false 1 (z.origin.map (ai.val false)),.vl false 5 (z.ah.map (ar.val false))] 0 2 41),some (.row (x.2.map (aq.val true)) 0 0 24)]) (fun x=>x.1≤z.ah.length∧x.2++((z.ah.drop x.1).filter (qf z)).map (·.owner)=qn z∧x.2.length≤x.1) (fun x=>z.ah.length - x.1) (0,[]) ⟨Nat.zero_le _,rfl,Nat.le_refl _⟩ (by simp only [↓wR,RA,simprocAttr,TF,ae];(refine ir.lax [] (by first|exact Nat.le_of_ble_eq_true rfl|(simp [dk];omega)) ?_ ?_<;>repeat' first|exact dz.nil|exact cb.nil|exact eh.same _|exact eh.nil _ _ _|exact eh.ly _ _|exact cb.refl _ _|apply dz.cons|apply cb.ghost|apply cb.same|apply cb.row)) ?_
 rintro ⟨i,x⟩ ⟨hi,hx,hxl⟩
 simp only at hi hx hxl
 simp only [↓wR,RA,simprocAttr,TF,ae]
 rw [bb];refine ⟨fun h=>?_,fun h=>?_⟩
 ·obtain ⟨c,hc,hd1,hlt⟩:=dq (decide_eq_true h)
  have hcs:=hz.ah.mem c (List.mem_of_getElem? hc)
  have hol:=wa hcs.owner
  rw [ahd hd1] at hx
  have hlim:(x.length+1) * 24≤140737488355328:=by omega
  have hlim2:(x.length+1) * 16≤140737488355328:=by omega
  simp only [↓wR,RA,simprocAttr,TF,ae,h,hc]
  rw [cj];refine ⟨fun ⟨h1,e1⟩=>?_,fun ⟨h1,e1⟩=>?_⟩
  ·simp only [↓wR,RA,simprocAttr,TF,ae,h1,u0,hcs.owner,hzo]
   rw [cy];refine ⟨fun h2=>?_,fun h2=>?_⟩
   ·simp only [↓wR,RA,simprocAttr,TF,ae,h2,vj,hcs.owner,hzo]
    rw [cy];refine ⟨fun h3=>?_,fun h3=>?_⟩
    ·have h3':fg c.owner z.origin=false:=by simpa using h3
     have hp:qf z c=true:=by simp [qf,e1,h2,h3']
     rw [if_pos hp] at hx
     simp only [↓wR,RA,simprocAttr,TF,ae,h3,mh,hol,hlim,hlim2];repeat (simp (disch:=omega) only [ag,bz,b9,bu,bw];try simp only [↓wR,RA,simprocAttr,TF,ae,h3,mh,hol,hlim,hlim2])
     refine ⟨(i+1,x++[c.owner]),⟨hlt,by simpa using hx,by simp;omega⟩,by simp;omega,by (first|rfl|trivial|omega|((try (simp (disch:=omega) only [ag]));(try (simp only [FB]));first|done|rfl|omega)),by (first|rfl|trivial|omega|((try (simp (disch:=omega) only [ag]));(try (simp only [FB]));first|done|rfl|omega))⟩
    ·have h3':fg c.owner z.origin=true:=by simpa using h3
     have hp:qf z c=false:=by simp [qf,h3']
     rw [hp,if_neg (by decide),List.nil_append] at hx
     simp only [↓wR,RA,simprocAttr,TF,ae,h3];repeat (simp (disch:=omega) only [ag,bz,b9,bu,bw];try simp only [↓wR,RA,simprocAttr,TF,ae,h3])
     exact ⟨(i+1,x),⟨hlt,hx,by show x.length≤i+1;omega⟩,by simp;omega,by (first|rfl|trivial|omega|((try (simp (disch:=omega) only [ag]));(try (simp only [FB]));first|done|rfl|omega)),rfl⟩
   ·have hp:qf z c=false:=by simp [qf,h2]
    rw [hp,if_neg (by decide),List.nil_append] at hx
    simp only [↓wR,RA,simprocAttr,TF,ae,h2];repeat (simp (disch:=omega) only [ag,bz,b9,bu,bw];try simp only [↓wR,RA,simprocAttr,TF,ae,h2])
    exact ⟨(i+1,x),⟨hlt,hx,by show x.length≤i+1;omega⟩,by simp;omega,by (first|rfl|trivial|omega|((try (simp (disch:=omega) only [ag]));(try (simp only [FB]));first|done|rfl|omega)),rfl⟩
  ·have hp:qf z c=false:=by simp [qf,e1]
   rw [hp,if_neg (by decide),List.nil_append] at hx
   simp only [↓wR,RA,simprocAttr,TF,ae,h1];repeat (simp (disch:=omega) only [ag,bz,b9,bu,bw];try simp only [↓wR,RA,simprocAttr,TF,ae,h1])
   exact ⟨(i+1,x),⟨hlt,hx,by show x.length≤i+1;omega⟩,by simp;omega,by (first|rfl|trivial|omega|((try (simp (disch:=omega) only [ag]));(try (simp only [FB]));first|done|rfl|omega)),rfl⟩
 ·rw [en (decide_eq_false h)] at hx
  have hx':x=qn z:=by simpa using hx
  rw [← hx']
  simp only [↓wR,RA,simprocAttr,TF,ae,h]
noncomputable def Gj (x:be × Unit):Option AV:=if bq x.1 then some ((r1 (br aq)).E true (qn x.1)) else none
set_option maxRecDepth 2000000 in
theorem Q5 (x:be × Unit) (r:AV) (h:Gj x=some r):bc PP 36 ((aC ca a0).E x) r:=by
 by_cases hc:bq x.1
 case neg=>simp only [Gj,if_neg hc] at h;cases h
 simp only [Gj,if_pos hc] at h
 cases h
 exact au (ak.cons (aj A0) (ak.cons (aj u3) (ak.cons (aj sr) (ak.nil PP)))) Tryz.func36 (by kernel_rfl) (by kernel_rfl) (by kernel_rfl) (Nat.le_of_ble_eq_true (by kernel_rfl)) (r1 (br aq)) true (qn x.1) (ara x.1 hc)
noncomputable abbrev aio:Nat × Bool × (List AV→M AV):=(36,true,cx (aC ca a0) Gj)
def As (n:Name) (best:Option Name) (m:Name):Option Name:=if (eg n m && Ah m best)=true then some m else best
theorem Vp (n top:Name):wx n top=(eg n top && !fg n top):=by
 have e1:(ey top).length=top.length:=by simp [ey]
 have e2:(ey n).length=n.length:=by simp [ey]
 unfold wx eg fg
 by_cases hs:ey top <:+ ey n
 ·have hl:=hs.length_le
  rw [decide_eq_true hs,Bool.and_true,Bool.true_and,Bool.eq_iff_iff]
  simp only [decide_eq_true_eq,Bool.not_eq_true',decide_eq_false_iff_not]
  refine ⟨fun h q=>?_,fun h=>?_⟩
  ·have:=congrArg List.length q;omega
  ·rcases Nat.lt_or_ge top.length n.length with q|q
   ·exact q
   ·exact absurd (hs.eq_of_length (by omega)).symm h
 ·rw [decide_eq_false hs,Bool.and_false,Bool.false_and]
theorem aqo (z:be) (n:Name) (best:Option Name) (s:bf):jt z n best s=if qf z s=true then As n best s.owner else best:=by
 unfold jt qf As
 rw [Vp]
 cases decide ((s.type.toNat:Int)=2)<;>cases eg s.owner z.origin<;>cases fg s.owner z.origin<;>simp
theorem aqv (z:be) (n:Name):l0 z n=(qn z).foldl (As n) none:=by
 unfold l0 qn
 generalize (none:Option Name)=b
 induction z.ah generalizing b with
 |nil=>rfl
 |cons s l ih=>
  rw [List.foldl_cons,aqo,List.filter_cons]
  split
  ·rw [List.map_cons,List.foldl_cons];exact ih _
  ·exact ih _
def Mo:Option Nat→Int
 |none=>-1
 |some k=>k
theorem S1 {z:be} (hz:bq z):(qn z).length≤16777216∧∀ m ∈ qn z,bj m:=by
 unfold qn
 refine ⟨by rw [List.length_map];exact Nat.le_trans (List.length_filter_le _ _) hz.len,fun m hm=>?_⟩
 obtain ⟨s,hs,rfl⟩:=List.mem_map.1 hm
 exact (hz.ah.mem s (List.mem_filter.1 hs).1).owner
theorem ald {α β:Type} (f : β → α → β) (b : β) {l:List α} {i:Nat} {c : α} (h:l[i]? = some c):(l.take (i+1)).foldl f b=f ((l.take i).foldl f b) c:=by
 obtain ⟨hi,rfl⟩:=List.getElem?_eq_some_iff.1 h
 rw [List.take_succ_eq_append_getElem hi,List.foldl_append];rfl
theorem atl (z:be) (n:Name) (hz:bq z) (hn:bj n):wl PP [aio,ma] 0 (Tryz.f26.body.getD .skip) (db PP Tryz.f26.results.toList (fun r st=>(r2 aq az).get true st.h r=some ((l0 z n).getD [],(l0 z n).isSome))) (cd 0 [ca.val false z,aq.val false n]) (bk []):=by
 obtain ⟨hL1,hL2⟩:=S1 hz
 rw [aqv]
 obtain ⟨L,hL⟩:∃ L,L=qn z:=⟨_,rfl⟩
 rw [← hL] at hL1 hL2 ⊢
 unfold Tryz.f26
 simp only [fi,cq]
 simp only [↓wR,RA,simprocAttr,TF,ae,Gj,hz,← hL]
 refine dp [1,6,7,8] (fun (x:Nat × Option Nat)=>[.vl false 1 (n.map (ai.val false)),.vl true 1 (L.map (aq.val true)),.sc (.int .i64 (Mo x.2)),.sc (.int .i64 (x.1))]) (fun _=>[]) (fun x=>x.1≤L.length∧(L.take x.1).foldl (As n) none=x.2.bind (fun k=>L[k]?)∧∀ k,x.2=some k→k<L.length) (fun x=>L.length - x.1) (0,none) ⟨Nat.zero_le _,rfl,fun k h=>by cases h⟩ (by simp only [↓wR,RA,simprocAttr,TF,ae]<;>rfl) (by simp only [↓wR,RA,simprocAttr,TF,ae]<;>rfl) ?_
 rintro ⟨i,b⟩ ⟨hi,hx,hb⟩
 simp only at hi hx hb
 simp only [↓wR,RA,simprocAttr,TF,ae]
 rw [bb];refine ⟨fun h=>?_,fun h=>?_⟩
 ·obtain ⟨c,hc,hd1,hlt⟩:=dq (decide_eq_true h)
  have hcs:=hL2 c (List.mem_of_getElem? hc)
  have hf:=ald (As n) none hc
  rw [hx] at hf
  simp only [↓wR,RA,simprocAttr,TF,ae,h]
  refine ⟨by kernel_rfl,.inl ?_⟩
  simp only [↓wR,RA,simprocAttr,TF,ae,hc,u0,hn,hcs,cq]
  rw [cy];refine ⟨fun h2=>?_,fun h2=>?_⟩
  ·cases b with
   |none=>
    have hv:(L.take (i+1)).foldl (As n) none=(some i).bind (fun k=>L[k]?):=by
     rw [hf]
     show As n none c=L[i]?
     unfold As Ah
     rw [h2,hc];rfl
    simp only [↓wR,RA,simprocAttr,TF,ae,h2,Mo];repeat (simp (disch:=omega) only [ag,bz,b9,bu,bw];try simp only [↓wR,RA,simprocAttr,TF,ae,h2,Mo])
    exact ⟨by kernel_rfl,(i+1,some i),⟨hlt,hv,fun k e=>by cases e;exact hlt⟩,by simp;omega,by (first|rfl|trivial|omega|((try (simp (disch:=omega) only [ag]));(try (simp only [FB]));first|done|rfl|omega))⟩
   |some k=>
    have hk:=hb k rfl
    obtain ⟨m,hm⟩:∃ m,L[k]? = some m:=⟨_,List.getElem?_eq_getElem hk⟩
    have hf':(L.take (i+1)).foldl (As n) none=if c.length<m.length then some c else some m:=by
     rw [hf]
     show As n (L[k]?) c=_
     rw [hm]
     unfold As Ah
     simp only [h2,Bool.true_and,decide_eq_true_eq]
    have h0:¬ (k:Int)<0:=by omega
    rw [show Mo (some k)=(k:Int) from rfl]
    simp only [↓wR,RA,simprocAttr,TF,ae,h2,hc,hm,cq,h0];repeat (simp (disch:=omega) only [ag,bz,b9,bu,bw];try simp only [↓wR,RA,simprocAttr,TF,ae,h2,hc,hm,cq,h0])
    refine ⟨by kernel_rfl,?_⟩
    rw [bb];refine ⟨fun h3=>?_,fun h3=>?_⟩
    ·rw [if_pos (by omega)] at hf'
     simp only [↓wR,RA,simprocAttr,TF,ae,h3];repeat (simp (disch:=omega) only [ag,bz,b9,bu,bw];try simp only [↓wR,RA,simprocAttr,TF,ae,h3])
     exact ⟨(i+1,some i),⟨hlt,by rw [hf'];exact hc.symm,fun k e=>by cases e;exact hlt⟩,by simp;omega,by (first|rfl|trivial|omega|((try (simp (disch:=omega) only [ag]));(try (simp only [FB]));first|done|rfl|omega))⟩
    ·rw [if_neg (by omega)] at hf'
     simp only [↓wR,RA,simprocAttr,TF,ae,h3];repeat (simp (disch:=omega) only [ag,bz,b9,bu,bw];try simp only [↓wR,RA,simprocAttr,TF,ae,h3])
     exact ⟨(i+1,some k),⟨hlt,by rw [hf'];exact hm.symm,hb⟩,by simp;omega,by (first|rfl|trivial|omega|((try (simp (disch:=omega) only [ag]));(try (simp only [FB]));first|done|rfl|omega))⟩
  ·have hv:(L.take (i+1)).foldl (As n) none=b.bind (fun k=>L[k]?):=by
    rw [hf];unfold As;rw [h2,Bool.false_and,if_neg (by decide)]
   simp only [↓wR,RA,simprocAttr,TF,ae,h2];repeat (simp (disch:=omega) only [ag,bz,b9,bu,bw];try simp only [↓wR,RA,simprocAttr,TF,ae,h2])
   exact ⟨by kernel_rfl,(i+1,b),⟨hlt,hv,hb⟩,by simp;omega,by (first|rfl|trivial|omega|((try (simp (disch:=omega) only [ag]));(try (simp only [FB]));first|done|rfl|omega))⟩
 ·have hil:L.take i=L:=List.take_of_length_le (by omega)
  rw [hil] at hx
  rw [hx]
  simp only [↓wR,RA,simprocAttr,TF,ae,h]
  cases b with
  |none=>
   simp only [↓wR,RA,simprocAttr,TF,ae,Mo]
   try rfl
  |some k=>
   have hk:=hb k rfl
   obtain ⟨m,hm⟩:∃ m,L[k]? = some m:=⟨_,List.getElem?_eq_getElem hk⟩
   rw [show Mo (some k)=(k:Int) from rfl]
   simp only [↓wR,RA,simprocAttr,TF,ae,hm]
   rw [bb];refine ⟨fun h3=>?_,fun h3=>?_⟩
   ·exfalso;omega
   simp only [↓wR,RA,simprocAttr,TF,ae,h3,hm,cq]
   try rfl
noncomputable def L8 (x:be × Name × Unit):Option AV:=if bq x.1∧bj x.2.1 then some ((r2 aq az).E true (((l0 x.1 x.2.1).getD [],(l0 x.1 x.2.1).isSome))) else none
set_option maxRecDepth 2000000 in
theorem Vx (x:be × Name × Unit) (r:AV) (h:L8 x=some r):bc PP 26 ((aC ca (aC aq a0)).E x) r:=by
 by_cases hc:bq x.1∧bj x.2.1
 case neg=>simp only [L8,if_neg hc] at h;cases h
 simp only [L8,if_pos hc] at h
 cases h
 exact au (ak.cons (aj Q5) (ak.cons (aj A0) (ak.nil PP))) Tryz.func26 (by kernel_rfl) (by kernel_rfl) (by kernel_rfl) (Nat.le_of_ble_eq_true (by kernel_rfl)) (r2 aq az) true (((l0 x.1 x.2.1).getD [],(l0 x.1 x.2.1).isSome)) (atl x.1 x.2.1 hc.1 hc.2)
noncomputable abbrev arj:Nat × Bool × (List AV→M AV):=(26,true,cx (aC ca (aC aq a0)) L8)
theorem at8 (z:be) (n:Name) (hz:bq z) (hn:bj n):wl PP [ma,m6] 0 (Tryz.f32.body.getD .skip) (db PP Tryz.f32.results.toList (fun r st=>(r1 az).get true st.h r=some (Fa z n))) (cd 0 [ca.val false z,aq.val false n]) (bk []):=by
 have hlen:=hz.len
 have hzo:=hz.origin
 unfold Fa
 unfold Tryz.f32
 simp only [fi,cq]
 simp only [↓wR,RA,simprocAttr,TF,ae,u0,hn,hzo]
 rw [cy];refine ⟨fun h1=>?_,fun h1=>?_⟩
 ·have h1':eg n z.origin=false:=by simpa using h1
  rw [h1']
  simp only [↓wR,RA,simprocAttr,TF,ae,h1]
  try rfl
 have h1':eg n z.origin=true:=by simpa using h1
 rw [h1',Bool.true_and]
 simp only [↓wR,RA,simprocAttr,TF,ae,h1,vj,hn,hzo]
 rw [cy];refine ⟨fun h2=>?_,fun h2=>?_⟩
 ·rw [h2]
  simp only [↓wR,RA,simprocAttr,TF,ae,h2]
  try rfl
 rw [h2,Bool.false_or]
 simp only [↓wR,RA,simprocAttr,TF,ae,h2]
 refine dp [1,2,5] (fun (i:Nat)=>[.vl false 1 (n.map (ai.val false)),.ptr 0 0,.sc (.int .i64 (i))]) (fun _=>[some (.row [.vl false 1 (z.origin.map (ai.val false)),.vl false 5 (z.ah.map (ar.val false))] 0 2 41)]) (fun i=>i≤z.ah.length∧(z.ah.any fun s=>eg s.owner n)=((z.ah.drop i).any fun s=>eg s.owner n)) (fun i=>z.ah.length - i) 0 ⟨Nat.zero_le _,rfl⟩ (by simp only [↓wR,RA,simprocAttr,TF,ae]<;>rfl) (by simp only [↓wR,RA,simprocAttr,TF,ae]<;>rfl) ?_
 rintro i ⟨hi,hx⟩
 simp only [↓wR,RA,simprocAttr,TF,ae]
 rw [bb];refine ⟨fun h=>?_,fun h=>?_⟩
 ·obtain ⟨c,hc,hd1,hlt⟩:=dq (decide_eq_true h)
  have hcs:=hz.ah.mem c (List.mem_of_getElem? hc)
  rw [hd1,List.any_cons] at hx
  simp only [↓wR,RA,simprocAttr,TF,ae,h,hc,u0,hcs.owner,hn]
  rw [cy];refine ⟨fun h3=>?_,fun h3=>?_⟩
  ·rw [hx,h3]
   simp only [↓wR,RA,simprocAttr,TF,ae,h3]
   try rfl
  ·rw [h3,Bool.false_or] at hx
   simp only [↓wR,RA,simprocAttr,TF,ae,h3];repeat (simp (disch:=omega) only [ag,bz,b9,bu,bw];try simp only [↓wR,RA,simprocAttr,TF,ae,h3])
   exact ⟨i+1,⟨hlt,hx⟩,by omega,by (first|rfl|trivial|omega|((try (simp (disch:=omega) only [ag]));(try (simp only [FB]));first|done|rfl|omega))⟩
 ·rw [en (decide_eq_false h)] at hx
  rw [hx]
  simp only [↓wR,RA,simprocAttr,TF,ae,h]
  try rfl
noncomputable def Td (x:be × Name × Unit):Option AV:=if bq x.1∧bj x.2.1 then some ((r1 az).E true (Fa x.1 x.2.1)) else none
set_option maxRecDepth 2000000 in
theorem amo (x:be × Name × Unit) (r:AV) (h:Td x=some r):bc PP 32 ((aC ca (aC aq a0)).E x) r:=by
 by_cases hc:bq x.1∧bj x.2.1
 case neg=>simp only [Td,if_neg hc] at h;cases h
 simp only [Td,if_pos hc] at h
 cases h
 exact au (ak.cons (aj A0) (ak.cons (aj u3) (ak.nil PP))) Tryz.func32 (by kernel_rfl) (by kernel_rfl) (by kernel_rfl) (Nat.le_of_ble_eq_true (by kernel_rfl)) (r1 az) true (Fa x.1 x.2.1) (at8 x.1 x.2.1 hc.1 hc.2)
noncomputable abbrev avy:Nat × Bool × (List AV→M AV):=(32,true,cx (aC ca (aC aq a0)) Td)
def k9 (z:be) (s:bf):Bool:=decide ((s.type.toNat:Int)=5) && (decide ((s.data.length:Int)≠1) || (fg s.owner z.origin || decide ((1:Int)<(xb z s.owner).length)))
theorem ang (z:be) (s:bf) (hz:bq z) (hs:dg s):wl PP [m6,ai0] 0 (Tryz.f129.body.getD .skip) (db PP Tryz.f129.results.toList (fun r st=>(r1 az).get true st.h r=some (k9 z s))) (cd 0 [ca.val false z,ar.val false s]) (bk []):=by
 have hso:=hs.owner
 have hzo:=hz.origin
 unfold k9
 unfold Tryz.f129
 simp only [fi,gy]
 simp only [↓wR,RA,simprocAttr,TF,ae]
 rw [cj];refine ⟨fun ⟨h1,e1⟩=>?_,fun ⟨h1,e1⟩=>?_⟩
 ·rw [decide_eq_true e1,Bool.true_and]
  simp only [↓wR,RA,simprocAttr,TF,ae,h1]
  rw [de];refine ⟨fun ⟨h2,e2⟩=>?_,fun ⟨h2,e2⟩=>?_⟩
  ·rw [decide_eq_true e2,Bool.true_or]
   simp only [↓wR,RA,simprocAttr,TF,ae,h2]
   try rfl
  ·rw [decide_eq_false (by omega),Bool.false_or]
   simp only [↓wR,RA,simprocAttr,TF,ae,h2,vj,hso,hzo]
   rw [cy];refine ⟨fun h3=>?_,fun h3=>?_⟩
   ·rw [h3,Bool.true_or]
    simp only [↓wR,RA,simprocAttr,TF,ae,h3]
    try rfl
   ·rw [h3,Bool.false_or]
    simp only [↓wR,RA,simprocAttr,TF,ae,h3,Gs,hz,hso]
    try rfl
 ·rw [decide_eq_false e1,Bool.false_and]
  simp only [↓wR,RA,simprocAttr,TF,ae,h1]
  try rfl
noncomputable def Fo (x:be × bf × Unit):Option AV:=if bq x.1∧dg x.2.1 then some ((r1 az).E true (k9 x.1 x.2.1)) else none
set_option maxRecDepth 2000000 in
theorem afg (x:be × bf × Unit) (r:AV) (h:Fo x=some r):bc PP 129 ((aC ca (aC ar a0)).E x) r:=by
 by_cases hc:bq x.1∧dg x.2.1
 case neg=>simp only [Fo,if_neg hc] at h;cases h
 simp only [Fo,if_pos hc] at h
 cases h
 exact au (ak.cons (aj u3) (ak.cons (aj Tc) (ak.nil PP))) Tryz.func129 (by kernel_rfl) (by kernel_rfl) (by kernel_rfl) (Nat.le_of_ble_eq_true (by kernel_rfl)) (r1 az) true (k9 x.1 x.2.1) (ang x.1 x.2.1 hc.1 hc.2)
noncomputable abbrev n7:Nat × Bool × (List AV→M AV):=(129,true,cx (aC ca (aC ar a0)) Fo)
theorem Rs {z:be} {n m:Name} (hz:bq z) (h:l0 z n=some m):bj m:=W3 (n:=n) hz z.ah none (fun _ h=>h) (fun m hm=>by cases hm) m h
theorem aip (a b:Name):fg a b=fg b a:=by unfold fg;rw [decide_eq_decide];exact eq_comm
theorem aae (z:be) (s:bf) (hz:bq z) (hs:dg s):wl PP [arj,m6] 0 (Tryz.f130.body.getD .skip) (db PP Tryz.f130.results.toList (fun r st=>(r1 az).get true st.h r=some (!ki z s))) (cd 0 [ca.val false z,ar.val false s]) (bk []):=by
 have hso:=hs.owner
 unfold ki
 unfold Tryz.f130
 simp only [fi,gy]
 simp only [↓wR,RA,simprocAttr,TF,ae,L8,hz,hso]
 cases hc:l0 z s.owner with
 |none=>
  simp only [↓wR,RA,simprocAttr,TF,ae,Option.isSome_none,Option.getD_none]
  try rfl
 |some c=>
  have hcs:=Rs hz hc
  simp only [↓wR,RA,simprocAttr,TF,ae,Option.isSome_some,Option.getD_some]
  rw [cj];refine ⟨fun ⟨h1,e1⟩=>?_,fun ⟨h1,e1⟩=>?_⟩
  ·rw [if_pos e1]
   simp only [↓wR,RA,simprocAttr,TF,ae,h1]
   try rfl
  rw [if_neg e1]
  simp only [↓wR,RA,simprocAttr,TF,ae,h1]
  rw [cj];refine ⟨fun ⟨h2,e2⟩=>?_,fun ⟨h2,e2⟩=>?_⟩
  ·rw [if_pos e2]
   simp only [↓wR,RA,simprocAttr,TF,ae,h2]
   try rfl
  rw [if_neg e2]
  simp only [↓wR,RA,simprocAttr,TF,ae,h2]
  rw [de];refine ⟨fun ⟨h3,e3⟩=>?_,fun ⟨h3,e3⟩=>?_⟩
  ·rw [if_neg e3]
   simp only [↓wR,RA,simprocAttr,TF,ae,h3]
   try rfl
  rw [if_pos (by omega),aip]
  simp only [↓wR,RA,simprocAttr,TF,ae,h3,cq,vj,hso,hcs]
  try rfl
noncomputable def yg (x:be × bf × Unit):Option AV:=if bq x.1∧dg x.2.1 then some ((r1 az).E true ((!ki x.1 x.2.1))) else none
set_option maxRecDepth 2000000 in
theorem T7 (x:be × bf × Unit) (r:AV) (h:yg x=some r):bc PP 130 ((aC ca (aC ar a0)).E x) r:=by
 by_cases hc:bq x.1∧dg x.2.1
 case neg=>simp only [yg,if_neg hc] at h;cases h
 simp only [yg,if_pos hc] at h
 cases h
 exact au (ak.cons (aj Vx) (ak.cons (aj u3) (ak.nil PP))) Tryz.func130 (by kernel_rfl) (by kernel_rfl) (by kernel_rfl) (Nat.le_of_ble_eq_true (by kernel_rfl)) (r1 az) true ((!ki x.1 x.2.1)) (aae x.1 x.2.1 hc.1 hc.2)
noncomputable abbrev jw:Nat × Bool × (List AV→M AV):=(130,true,cx (aC ca (aC ar a0)) yg)
def allI (p:Nat→bf→Bool):Nat→List bf→Bool
 |_,[]=>true
 |i,s::r=>p i s && allI p (i+1) r
theorem atg {p:Nat→bf→Bool} {l:List bf} {i:Nat} {c:bf} (h:l.drop i=c::l.drop (i+1)) (k:Nat):allI p k (l.drop i)=(p k c && allI p (k+1) (l.drop (i+1))):=by rw [h];rfl
noncomputable def okZ (z:be):Bool:=z.ah.all fun s=>s.data.all fun d=>decide (dw s.type d=0)
theorem afb (z:be) (hz:bq z) (hok:okZ z=true):wl PP [avr,Jp] 0 (Tryz.f87.body.getD .skip) (db PP Tryz.f87.results.toList (fun r st=>(r1 az).get true st.h r=some (allI (fu z) 0 z.ah))) (cd 0 [ca.val false z]) (bk []):=by
 have hlen:=hz.len
 unfold Tryz.f87
 simp only [fi]
 simp only [↓wR,RA,simprocAttr,TF,ae]
 refine dp [1,3] (fun (i:Nat)=>[.ptr 0 0,.sc (.int .i64 (i))]) (fun _=>[some (.row [.vl false 1 (z.origin.map (ai.val false)),.vl false 5 (z.ah.map (ar.val false))] 0 2 41)]) (fun i=>i≤z.ah.length∧allI (fu z) 0 z.ah=allI (fu z) i (z.ah.drop i)) (fun i=>z.ah.length - i) 0 ⟨Nat.zero_le _,rfl⟩ (by simp only [↓wR,RA,simprocAttr,TF,ae]<;>rfl) (by simp only [↓wR,RA,simprocAttr,TF,ae]<;>rfl) ?_
 rintro i ⟨hi,hx⟩
 simp only [↓wR,RA,simprocAttr,TF,ae]
 rw [bb];refine ⟨fun h=>?_,fun h=>?_⟩
 ·obtain ⟨c,hc,hd1,hlt⟩:=dq (decide_eq_true h)
  have hcs:=hz.ah.mem c (List.mem_of_getElem? hc)
  have hce:=List.all_eq_true.1 (List.all_eq_true.1 hok c (List.mem_of_getElem? hc))
  have hdl:=hcs.data.len
  rw [atg hd1] at hx
  simp only [↓wR,RA,simprocAttr,TF,ae,h,hc]
  refine ⟨by kernel_rfl,.inl ?_⟩
  rw [bb];refine ⟨fun h1=>?_,fun h1=>?_⟩
  ·cases i with
   |zero=>omega
   |succ j=>
   obtain ⟨a,ha⟩:∃ a,z.ah[j]? = some a:=⟨_,List.getElem?_eq_getElem (by omega)⟩
   have has:=hz.set a (List.mem_of_getElem? ha)
   simp only [↓wR,RA,simprocAttr,TF,ae,h1,ha,hc,Int.natCast_add,Int.add_sub_cancel,Cv,has,hcs];repeat (simp (disch:=omega) only [ag,bz,b9,bu,bw];try simp only [↓wR,RA,simprocAttr,TF,ae,h1,ha,hc,Int.natCast_add,Int.add_sub_cancel,Cv,has,hcs])
   refine ⟨by kernel_rfl,?_⟩
   rw [cy];refine ⟨fun h2=>?_,fun h2=>?_⟩
   ·simp only [Bool.not_eq_true',decide_eq_false_iff_not] at h2
    have hv:fu z (j+1) c=false:=by simp only [fu,ha];simp;omega
    rw [hv,Bool.false_and] at hx
    rw [hx]
    simp only [↓wR,RA,simprocAttr,TF,ae,h2]
    try rfl
   ·simp only [Bool.not_eq_false',decide_eq_true_eq] at h2
    have hv:fu z (j+1) c=ng c.type c.data:=by simp only [fu,ha];simp [h2]
    rw [hv] at hx
    simp only [↓wR,RA,simprocAttr,TF,ae,h2,decide_true,Bool.not_true]
    refine dp [1,3,4,5] (fun (k:Nat)=>[.ptr 0 0,.sc (.int .i64 ((j:Int)+1)),.ptr 1 0,.sc (.int .i64 ((k:Int)+1))]) (fun _=>[some (.row [.vl false 1 (z.origin.map (ai.val false)),.vl false 5 (z.ah.map (ar.val false))] 0 2 41),some (.row [.vl false 1 (c.owner.map (ai.val false)),.sc (.int .u16 c.type.toNat),.sc (.int .u16 c.cls.toNat),.sc (.int .u32 c.gm.toNat),.vl false 4 (c.data.map (ay.val false))] 0 2 31)]) (fun k=>(k=0∨k+1≤c.data.length)∧ng c.type c.data=ng c.type (c.data.drop k)) (fun k=>c.data.length - k) 0 ⟨.inl rfl,rfl⟩ (by simp only [↓wR,RA,simprocAttr,TF,ae]<;>rfl) (by simp only [↓wR,RA,simprocAttr,TF,ae]<;>rfl) ?_
    rintro k ⟨hk,hy⟩
    simp only [↓wR,RA,simprocAttr,TF,ae]
    rw [bb];refine ⟨fun h5=>?_,fun h5=>?_⟩
    ·obtain ⟨a,ha⟩:∃ a,c.data[k]? = some a:=⟨_,List.getElem?_eq_getElem (by omega)⟩
     obtain ⟨b,hb⟩:∃ b,c.data[k+1]? = some b:=⟨_,List.getElem?_eq_getElem (by omega)⟩
     have has:=hcs.data.mem a (List.mem_of_getElem? ha)
     have hbs:=hcs.data.mem b (List.mem_of_getElem? hb)
     have hae:=of_decide_eq_true (hce a (List.mem_of_getElem? ha))
     have hbe:=of_decide_eq_true (hce b (List.mem_of_getElem? hb))
     rw [Ei _ ha hb] at hy
     simp only [↓wR,RA,simprocAttr,TF,ae,h5]
     refine ⟨by kernel_rfl,.inl ?_⟩
     simp only [↓wR,RA,simprocAttr,TF,ae,ha,hb,Int.add_sub_cancel,qc,xa,kz,has,hbs,hae,hbe];repeat (simp (disch:=omega) only [ag,bz,b9,bu,bw];try simp only [↓wR,RA,simprocAttr,TF,ae,ha,hb,Int.add_sub_cancel,qc,xa,kz,has,hbs,hae,hbe])
     rw [if_neg (by simp)]
     refine ⟨by kernel_rfl,?_⟩
     rw [bb];refine ⟨fun h6=>?_,fun h6=>?_⟩
     ·rw [if_pos h6] at hy
      rw [hy,Bool.false_and] at hx
      rw [hx]
      simp only [↓wR,RA,simprocAttr,TF,ae,h6]
      try rfl
     ·rw [if_neg h6] at hy
      simp only [↓wR,RA,simprocAttr,TF,ae,h6];repeat (simp (disch:=omega) only [ag,bz,b9,bu,bw];try simp only [↓wR,RA,simprocAttr,TF,ae,h6])
      exact ⟨k+1,⟨.inr (by omega),hy⟩,by omega,by (first|rfl|trivial|omega|((try (simp (disch:=omega) only [ag]));(try (simp only [FB]));first|done|rfl|omega))⟩
    ·rw [Cb _ (by omega)] at hy
     rw [hy,Bool.true_and] at hx
     simp only [↓wR,RA,simprocAttr,TF,ae,h5]
     refine ⟨j+1+1,⟨hlt,hx⟩,by omega,by (first|rfl|trivial|omega|((try (simp (disch:=omega) only [ag]));(try (simp only [FB]));first|done|rfl|omega))⟩
  ·have hi0:i=0:=by omega
   have hv:fu z i c=ng c.type c.data:=by rw [hi0];simp [fu]
   rw [hv] at hx
   simp only [↓wR,RA,simprocAttr,TF,ae,h1]
   refine ⟨by kernel_rfl,?_⟩
   refine dp [1,3,4,5] (fun (k:Nat)=>[.ptr 0 0,.sc (.int .i64 (i)),.ptr 1 0,.sc (.int .i64 ((k:Int)+1))]) (fun _=>[some (.row [.vl false 1 (z.origin.map (ai.val false)),.vl false 5 (z.ah.map (ar.val false))] 0 2 41),some (.row [.vl false 1 (c.owner.map (ai.val false)),.sc (.int .u16 c.type.toNat),.sc (.int .u16 c.cls.toNat),.sc (.int .u32 c.gm.toNat),.vl false 4 (c.data.map (ay.val false))] 0 2 31)]) (fun k=>(k=0∨k+1≤c.data.length)∧ng c.type c.data=ng c.type (c.data.drop k)) (fun k=>c.data.length - k) 0 ⟨.inl rfl,rfl⟩ (by simp only [↓wR,RA,simprocAttr,TF,ae]<;>rfl) (by simp only [↓wR,RA,simprocAttr,TF,ae]<;>rfl) ?_
   rintro k ⟨hk,hy⟩
   simp only [↓wR,RA,simprocAttr,TF,ae]
   rw [bb];refine ⟨fun h5=>?_,fun h5=>?_⟩
   ·obtain ⟨a,ha⟩:∃ a,c.data[k]? = some a:=⟨_,List.getElem?_eq_getElem (by omega)⟩
    obtain ⟨b,hb⟩:∃ b,c.data[k+1]? = some b:=⟨_,List.getElem?_eq_getElem (by omega)⟩
    have has:=hcs.data.mem a (List.mem_of_getElem? ha)
    have hbs:=hcs.data.mem b (List.mem_of_getElem? hb)
    have hae:=of_decide_eq_true (hce a (List.mem_of_getElem? ha))
    have hbe:=of_decide_eq_true (hce b (List.mem_of_getElem? hb))
    rw [Ei _ ha hb] at hy
    simp only [↓wR,RA,simprocAttr,TF,ae,h5]
    refine ⟨by kernel_rfl,.inl ?_⟩
    simp only [↓wR,RA,simprocAttr,TF,ae,ha,hb,Int.add_sub_cancel,qc,xa,kz,has,hbs,hae,hbe];repeat (simp (disch:=omega) only [ag,bz,b9,bu,bw];try simp only [↓wR,RA,simprocAttr,TF,ae,ha,hb,Int.add_sub_cancel,qc,xa,kz,has,hbs,hae,hbe])
    rw [if_neg (by simp)]
    refine ⟨by kernel_rfl,?_⟩
    rw [bb];refine ⟨fun h6=>?_,fun h6=>?_⟩
    ·rw [if_pos h6] at hy
     rw [hy,Bool.false_and] at hx
     rw [hx]
     simp only [↓wR,RA,simprocAttr,TF,ae,h6]
     try rfl
    ·rw [if_neg h6] at hy
     simp only [↓wR,RA,simprocAttr,TF,ae,h6];repeat (simp (disch:=omega) only [ag,bz,b9,bu,bw];try simp only [↓wR,RA,simprocAttr,TF,ae,h6])
     exact ⟨k+1,⟨.inr (by omega),hy⟩,by omega,by (first|rfl|trivial|omega|((try (simp (disch:=omega) only [ag]));(try (simp only [FB]));first|done|rfl|omega))⟩
   ·rw [Cb _ (by omega)] at hy
    rw [hy,Bool.true_and] at hx
    simp only [↓wR,RA,simprocAttr,TF,ae,h5]
    refine ⟨i+1,⟨hlt,hx⟩,by omega,by (first|rfl|trivial|omega|((try (simp (disch:=omega) only [ag]));(try (simp only [FB]));first|done|rfl|omega))⟩
 ·rw [en (decide_eq_false h)] at hx
  rw [hx]
  simp only [↓wR,RA,simprocAttr,TF,ae,h]
  try rfl
noncomputable def Bw (x:be × Unit):Option AV:=if bq x.1∧okZ x.1=true then some ((r1 az).E true (allI (fu x.1) 0 x.1.ah)) else none
set_option maxRecDepth 2000000 in
theorem Xt (x:be × Unit) (r:AV) (h:Bw x=some r):bc PP 87 ((aC ca a0).E x) r:=by
 by_cases hc:bq x.1∧okZ x.1=true
 case neg=>simp only [Bw,if_neg hc] at h;cases h
 simp only [Bw,if_pos hc] at h
 cases h
 exact au (ak.cons (aj aex) (ak.cons (aj B9) (ak.nil PP))) Tryz.func87 (by kernel_rfl) (by kernel_rfl) (by kernel_rfl) (Nat.le_of_ble_eq_true (by kernel_rfl)) (r1 az) true (allI (fu x.1) 0 x.1.ah) (afb x.1 hc.1 hc.2)
noncomputable abbrev aqy:Nat × Bool × (List AV→M AV):=(87,true,cx (aC ca a0) Bw)
end Go.Proofs.YtgencolcibpcaaaGreat
end
namespace Go.Vm
variable [TK]
noncomputable section
def SW (P:Program) (nt:NT) (c:Code) (Q:QL) (L:SL) (st:St):Prop:=
 ∀ (N:Nat) (B:fj) (g:Gh) (a:Act) (w:World),B.lr→B.aw=0→B.n0≤B.w.heap.size→k8 B nt L st g a w→c.wpIn (g8 none) N P (Fin B nt Q) a w
def rq (keep:List Nat) (V:List AV) (O:List (Option bh)):QL:=fun e L st=>
 match e with
 |.normal=>gi 0 keep L st=V∧ep 0 keep L st=O
 |_=>False
theorem ek {keep V O L st}:rq keep V O .normal L st=(gi 0 keep L st=V∧ep 0 keep L st=O):=rfl
variable {P : Program} [KP P] {nt : NT} {Q : QL} {L : SL} {st : St}
theorem Sx {T:ec} (hT:ak P T) (hm:P.follows .mixedOrders=true) {c:Code} (hs:du nt c=true) (h:wl P T 0 c Q L st):SW P nt c Q L st:=by
 intro N B g a w hnf hp hn0 hh
 refine wpIn_mono (piece hT hm (N:=N) hnf (by omega) hn0 hs (by rw [hp];exact h) hh) ?_
 rintro ex a' w' ⟨e,L',st',g',rfl,hq,hh',_⟩
 exact ⟨e,L',st',g',rfl,hq,hh'.cur,hh'.sl,hh'.Fs⟩
theorem Gv {c:Code} {Q':QL} (hq:∀ e L st,Q e L st→Q' e L st) (h:SW P nt c Q L st):SW P nt c Q' L st:=by
 intro N B g a w hnf hp hn0 hh
 refine wpIn_mono (h N B g a w hnf hp hn0 hh) ?_
 rintro ex a' w' ⟨e,L',st',g',rfl,h0,h1,h2,h3⟩
 exact ⟨e,L',st',g',rfl,hq _ _ _ h0,h1,h2,h3⟩
theorem Lc {x y:Code} (h:SW P nt x (Fb (SW P nt y) Q) L st):SW P nt (.seq x y) Q L st:=by
 intro N B g a w hnf hp hn0 hh
 refine wpIn_seq (wpIn_mono (h N B g a w hnf hp hn0 hh) ?_)
 rintro ex a' w' ⟨e,L',st',g',rfl,hq,h1,h2,h3⟩
 cases e with
 |normal=>exact hq N B g' a' w' hnf hp hn0 ⟨h1,h2,h3⟩
 |ret=>exact ⟨.ret,L',st',g',rfl,hq,h1,h2,h3⟩
 |exit id=>exact ⟨.exit id,L',st',g',rfl,hq,h1,h2,h3⟩
theorem adp {id:Nat} {c:Code} (h:SW P nt c (Hh id Q) L st):SW P nt (.block id c) Q L st:=by
 intro N B g a w hnf hp hn0 hh
 refine wpIn_block (wpIn_mono (h N B g a w hnf hp hn0 hh) ?_)
 rintro ex a' w' ⟨e,L',st',g',rfl,hq,h1,h2,h3⟩
 cases e with
 |normal=>exact ⟨.normal,L',st',g',rfl,hq,h1,h2,h3⟩
 |ret=>exact ⟨.ret,L',st',g',rfl,hq,h1,h2,h3⟩
 |exit j=>
  simp only [Hh] at hq
  by_cases e:j=id
  ·subst e
   simp only [Nat.beq_refl,cond_true] at hq
   simp only [pz,Exit.inBlock,if_true]
   exact ⟨.normal,L',st',g',rfl,hq,h1,h2,h3⟩
  ·rw [n8 e,cond_false] at hq
   simp only [pz,Exit.inBlock,if_neg e]
   exact ⟨.exit j,L',st',g',rfl,hq,h1,h2,h3⟩
theorem Ga {c:Code} (keep:List Nat) (V:List AV) (O:List (Option bh)) (hv:ir 0 (gi 0 keep L st) (ep 0 keep L st) V O) (h:SW P nt c Q (gu keep V) (bk O)):SW P nt c Q L st:=by
 intro N B g a w hnf hp hn0 hh
 obtain ⟨V',O',g1,⟨rfl,rfl⟩,k1,k2,k3,_⟩:=Lw (X:=fun vs os=>vs=V∧os=O) hnf (by omega) keep (by rw [hp];exact ⟨_,_,hv,rfl,rfl⟩) hh.cur hh.sl
 exact h N B g1 a w hnf hp hn0 ⟨k1,k2,k3 _ _ _ (A2 (by omega) keep hh.Fs)⟩
theorem xc {T:ec} (hT:ak P T) (hm:P.follows .mixedOrders=true) {x y:Code} (keep:List Nat) (V:List AV) (O:List (Option bh)) (hs:du nt x=true) (h:wl P T 0 x (rq keep V O) L st) (k:SW P nt y Q (gu keep V) (bk O)):SW P nt (.seq x y) Q L st:=by
 refine Lc (Gv ?_ (Sx hT hm hs h))
 intro e L' st' hq
 cases e with
 |normal=>exact Ga keep V O (by rw [hq.1,hq.2];exact ir.refl _ _ _) k
 |ret=>exact hq.elim
 |exit id=>exact hq.elim
theorem ala {T:ec} (hT:ak P T) (hm:P.follows .mixedOrders=true) {x:Code} (keep:List Nat) (V:List AV) (O:List (Option bh)) (hs:du nt x=true) (h:wl P T 0 x (rq keep V O) L st) (k:∀ L st,gi 0 keep L st=V→ep 0 keep L st=O→Q .normal L st):SW P nt x Q L st:=by
 refine Gv ?_ (Sx hT hm hs h)
 intro e L' st' hq
 cases e with
 |normal=>exact k L' st' hq.1 hq.2
 |ret=>exact hq.elim
 |exit id=>exact hq.elim
theorem ati {c:Code} {α:Type} (keep:List Nat) (V : α→List AV) (O : α→List (Option bh)) (I : α→Prop) (μ : α→Nat) (x : α) (hx:I x)
 (hv:ir 0 (gi 0 keep L st) (ep 0 keep L st) (V x) (O x))
 (step:∀ x,I x→SW P nt c (uq 0 keep (fun vs os=>∃ y,I y ∧ μ y < μ x∧vs=V y∧os=O y) Q) (gu keep (V x)) (bk (O x))):SW P nt (.loop c) Q L st:=by
 refine Ga keep (V x) (O x) hv ?_
 intro N B g a w hnf hp hn0 hh
 refine akd (fun x a w=>I x∧∃ g,k8 B nt (gu keep (V x)) (bk (O x)) g a w) μ ?_ x a w ⟨hx,g,hh⟩
 rintro x a w ⟨hi,g,hh⟩
 refine wpIn_mono (step x hi N B g a w hnf hp hn0 hh) ?_
 rintro ex a' w' ⟨e,L',st',g',rfl,hq,h1,h2,h3⟩
 cases e with
 |normal=>
  obtain ⟨y,hy,hlt,e1,e2⟩:=hq
  have hc:=k8.canon hnf (by omega) keep (⟨h1,h2,h3⟩:k8 B nt L' st' g' a' w')
  rw [hp,e1,e2] at hc
  exact ⟨y,hlt,hy,_,hc⟩
 |ret=>exact ⟨.ret,L',st',g',rfl,hq,h1,h2,h3⟩
 |exit id=>exact ⟨.exit id,L',st',g',rfl,hq,h1,h2,h3⟩
def ajg (k:Nat) (keep:List Nat) (V:List AV) (O:List (Option bh)):QL:=fun e L st=>
 match e with
 |.exit j=>j=k∧gi 0 keep L st=V∧ep 0 keep L st=O
 |_=>False
theorem aty {k keep V O L st j}:ajg k keep V O (.exit j) L st=(j=k∧gi 0 keep L st=V∧ep 0 keep L st=O):=rfl
theorem amy {T:ec} (hT:ak P T) (hm:P.follows .mixedOrders=true) (n:Nat) {c:Code} (hsp:Jn (n+1) c=true) (hs:du nt c=true) (h:wl P T 0 (mr (n+1) c) (Fb (SW P nt (i9 (n+1) c)) Q) L st):SW P nt c Q L st:=by
 intro N B g a w hnf hp hn0 hh
 refine Jy hT hm (N:=N) hnf (by omega) hn0 n c hsp hs (X:=Fin B nt Q) (Q:=Fb (SW P nt (i9 (n+1) c)) Q) ?_ L st g a w (by rw [hp];exact h) hh
 intro e L' st' g' a' w' hq hh'
 cases e with
 |normal=>exact hq N B g' a' w' hnf hp hn0 hh'
 |ret=>exact ⟨.ret,L',st',g',rfl,hq,hh'.cur,hh'.sl,hh'.Fs⟩
 |exit id=>exact ⟨.exit id,L',st',g',rfl,hq,hh'.cur,hh'.sl,hh'.Fs⟩
theorem Tn {f:Nat} {fn:Func} {body:Code} (hf:P.funcs[f]? = some fn) (hb:fn.body=some body) (he:nv P f=true) {args:List AV} (hl:args.length≤fn.ntmps) {ρ:Type} (R:RC ρ) (fr:Bool) (x : ρ)
 (h:SW P fn.ntmps body (db P fn.results.toList (fun r st=>R.get fr st.h r=some x)) (cd 0 args) (bk [])):bc P f args (R.E fr x):=
 C6 hf hb he hl R fr x (fun B g a w hnf hp _ hn0 hh=>h 0 B g a w hnf hp hn0 hh)
end
end Go.Vm
