/- A piece of the proof. Proved: where the arguments are together of bulk at most 1048576, the law LookupHosts returns true (what is true hangs on zones alone), and what it was given reads afterwards as it did before. No other conditions. -/
import Derived.WalkKit
import Derived.CallsIn
import Derived.RangeFuncIn
import Derived.RangeFuncLeaves
import Derived.Orders
import Derived.OrdersIn
import Derived.Scope
import Derived.RangeFuncOwn
import Derived.Stop.SameAnswer
import Derived.Laws.Externs
import Derived.Lib.Bytealg
import Derived.ProofKit
import Derived.OpenShut
import Derived.ReadAgain
import Derived.Deep.Slices
import Derived.ChangeSame
import Derived.Test.YtajammoepjpiiaaGreatProg
import Derived.KernelRfl
import Derived.Test.YtajammoepjpiiaaGreatRows
import Derived.Maps.RangeRun
import Derived.JoinedCond
import Derived.Test.YtajammoepjpiiaaGreatH3
set_option linter.unusedSimpArgs false
set_option linter.unusedVariables false
section
namespace Go.Proofs.YtajammoepjpiiaaGreat
open Go.Vm
set_option maxRecDepth 2000000
def adh (t:UInt16) (l:List bo):tu:=
 if (t.toNat:Int)=255∧0<l.length then Ab 0 l []
 else match l.find? (fun s=>decide ((s.type.toNat:Int)=t.toNat)) with
  |some x=>Ab 0 [x] []
  |none=>match l.find? (fun s=>decide ((s.type.toNat:Int)=5) && decide ((t.toNat:Int)≠255)) with
   |some x=>Ab 1 [x] (((x.data[0]?).bind fun d=>d.names[0]?).getD [])
   |none=>Ab 2 [] []
noncomputable def tc (z:be) (n:Name) (t:UInt16) (s:C1):tu:=
 if s.kind=4 then Ab 4 [(jh z.ar s.node 2).getD m5] []
 else if s.kind=0 then Ab 3 [] []
 else if s.kind=2 then Ab 2 [] []
 else adh t (if s.kind=3 then (kg z s.node).map (zl n) else kg z s.node)
theorem m11:ti 1 [1]=true:=id rfl
theorem m01:ti 0 [1]=false:=id rfl
set_option maxHeartbeats 4000000 in
theorem aA8 (z:be) (n:Name) (t:UInt16) (s:C1) (hz:cy z) (hn:bj n) (he:fq z=0) (hsn:bj s.node):wl PP [Bi,dx,E4,qf] 0 (Tryz.f59.body.getD .skip) (dj PP Tryz.f59.results.toList (fun r st=>(r1 oj).get true st.h r=some (tc z n t s))) (b9 0 [bf.val false z,aw.val false n,da.val false t,sm.val false s]) (bq []):=by
 have hl:=hz.len
 have ok:aj PP [Bi,dx,E4,qf]:=aj.cons (ai tl) (aj.cons (ai gi) (aj.cons (ai Ax) (aj.cons (ai ky) (aj.nil PP))))
 unfold Tryz.f59
 simp only [gz,dm,Iq]
 simp only [↓wR,RA,simprocAttr,TF,ae]
 unfold tc
 rw [c9];refine ⟨fun ⟨h4,e4⟩=>?_,fun ⟨h4,e4⟩=>?_⟩
 ·rw [if_pos e4]
  simp only [↓wR,RA,simprocAttr,TF,ae,h4,Oe,uh,hz.mid,hsn,Ny]
 rw [if_neg e4]
 simp only [↓wR,RA,simprocAttr,TF,ae,h4]
 rw [c9];refine ⟨fun ⟨h0,e0⟩=>?_,fun ⟨h0,e0⟩=>?_⟩
 ·rw [if_pos e0]
  simp only [↓wR,RA,simprocAttr,TF,ae,h0]
 rw [if_neg e0]
 simp only [↓wR,RA,simprocAttr,TF,ae,h0]
 rw [c9];refine ⟨fun ⟨h2,e2⟩=>?_,fun ⟨h2,e2⟩=>?_⟩
 ·rw [if_pos e2]
  simp only [↓wR,RA,simprocAttr,TF,ae,h2]
 rw [if_neg e2]
 simp only [↓wR,RA,simprocAttr,TF,ae,h2]
 refine eb (fun r st'=>r = .sl 3 0 (kg z s.node).length 5∧st'=bq [some (.row [.vl false 1 (z.origin.map (aq.val false)),.vl false 5 (z.ar.map (ak.val false))] 0 2 26),some (.row [.sc (.int .u8 s.kind),.vl false 1 (s.node.map (aq.val false)),.vl false 1 (s.wv.map (aq.val false))] 0 2 90),some (.row [.sc (.int .u8 0),.sc (.slice none 0 0),.sc (.slice none 0 0)] 0 2 64),some (.row (cellsOf ak true (kg z s.node)) 0 0 40)]) rfl ?_ ?_
 ·refine bt (T:=[Bi,dx,E4,qf]) ok mixed Tryz.func96 rfl (by kernel_rfl) (by kernel_rfl) (by kernel_rfl) (by kernel_rfl) ?_;unfold Tryz.f96
  simp only [↓wR,RA,simprocAttr,TF,ae]
  refine ji [1,9,10,11,5] (fun (x:Nat × List bo)=>[.vl false 1 (s.node.map (aq.val false)),.vl false 5 (z.ar.map (ak.val false)),.sc (.int .i64 (z.ar.length)),.sc (.int .i64 (x.1)),.sl 3 0 x.2.length 5]) (fun x=>[some (.row [.vl false 1 (z.origin.map (aq.val false)),.vl false 5 (z.ar.map (ak.val false))] 0 2 26),some (.row [.sc (.int .u8 s.kind),.vl false 1 (s.node.map (aq.val false)),.vl false 1 (s.wv.map (aq.val false))] 0 2 90),some (.row [.sc (.int .u8 0),.sc (.slice none 0 0),.sc (.slice none 0 0)] 0 2 64),some (.row (cellsOf ak true (x.2)) 0 0 40)]) (fun x=>x.1≤z.ar.length∧x.2++(z.ar.drop x.1).filter (fun q=>fi q.owner s.node)=kg z s.node) (fun x=>z.ar.length - x.1) (0,[]) ⟨Nat.zero_le _,rfl⟩ (by simp only [↓wR,RA,simprocAttr,TF,ae];(refine jt.lax [] (by first|exact Nat.le_of_ble_eq_true rfl|(simp [cw];omega)) ?_ ?_<;>repeat' first|exact fc.nil|exact c7.nil|exact gu.same _|exact gu.nil _ _ _|exact gu.se _ _|exact c7.refl _ _|apply fc.cons|apply c7.ghost|apply c7.same|apply c7.row)) ?_
  rintro ⟨i,x⟩ ⟨hi,hx⟩
  simp only at hi hx
  have hxl:x.length≤z.ar.length:=by
   have h1:=u0 (l:=z.ar) (fun q=>fi q.owner s.node)
   have h2:=congrArg List.length hx
   simp only [List.length_append,kg] at h2
   omega
  simp only [↓wR,RA,simprocAttr,TF,ae]
  rw [bm];refine ⟨fun h=>?_,fun h=>?_⟩
  ·obtain ⟨c,hc,hd1,hlt⟩:=dv (decide_eq_true h)
   rw [O0 hd1] at hx
   have hcs:=hz.set c (List.mem_of_getElem? hc)
   simp only [↓wR,RA,simprocAttr,TF,ae,h,hc,jc,hcs.owner,hsn]
   rw [br];refine ⟨fun h1=>?_,fun h1=>?_⟩
   ·rw [if_pos h1] at hx
    have hlim:(x.length * 5+5) * 64≤140737488355328:=by omega
    simp only [↓wR,RA,simprocAttr,TF,ae,h1,te,hcs,hlim];repeat (simp (disch:=omega) only [ah,cb,cd,cg,cf];try simp only [↓wR,RA,simprocAttr,TF,ae,h1,te,hcs,hlim])
    refine ⟨(i+1,x++[c]),⟨hlt,by rw [← hx];simp⟩,by simp;omega,by (first|rfl|trivial|omega|((try (simp (disch:=omega) only [ah]));(try (simp only [FB]));first|done|rfl|omega)),?_⟩
    rw [Bg]
   ·rw [if_neg (by rw [h1];decide)] at hx
    simp only [↓wR,RA,simprocAttr,TF,ae,h1];repeat (simp (disch:=omega) only [ah,cb,cd,cg,cf];try simp only [↓wR,RA,simprocAttr,TF,ae,h1])
    exact ⟨(i+1,x),⟨hlt,hx⟩,by simp;omega,by (first|rfl|trivial|omega|((try (simp (disch:=omega) only [ah]));(try (simp only [FB]));first|done|rfl|omega)),by (first|rfl|trivial|omega|((try (simp (disch:=omega) only [ah]));(try (simp only [FB]));first|done|rfl|omega))⟩
  ·rw [dz (decide_eq_false h)] at hx
   rw [List.filter_nil,List.append_nil] at hx
   subst hx
   simp only [↓wR,RA,simprocAttr,TF,ae,h,i7,ir,ic]
 rintro _ _ ⟨rfl,rfl⟩
 simp only [↓wR,RA,simprocAttr,TF,ae,g8]
 rw [c9];refine ⟨fun ⟨h3,e3⟩=>?_,fun ⟨h3,e3⟩=>?_⟩
 rotate_left
 rw [if_neg e3]
 simp only [↓wR,RA,simprocAttr,TF,ae,h3]
 obtain ⟨L,hLe⟩:∃ L,L=kg z s.node:=⟨_,rfl⟩
 have hLd:∀ x ∈ L,∃ y ∈ z.ar,x.data=y.data∧x.type=y.type:=fun x hx=>⟨x,by rw [hLe] at hx;exact (List.mem_filter.1 hx).1,rfl,rfl⟩
 have hLl:L.length=(kg z s.node).length:=by rw [hLe]
 rw [← hLl,← hLe]
 clear hLe
 rotate_left
 rw [if_pos e3]
 simp only [↓wR,RA,simprocAttr,TF,ae,h3]
 refine eb (fun r st'=>r = .sl 3 0 (kg z s.node).length 5∧st'=bq [some (.row [.vl false 1 (z.origin.map (aq.val false)),.vl false 5 (z.ar.map (ak.val false))] 0 2 26),some (.row [.sc (.int .u8 s.kind),.vl false 1 (s.node.map (aq.val false)),.vl false 1 (s.wv.map (aq.val false))] 0 2 90),some (.row [.sc (.int .u8 0),.sc (.slice none 0 0),.sc (.slice none 0 0)] 0 2 64),some (.row (cellsOf ak true ((kg z s.node).map (zl n))) 0 0 40)]) rfl ?_ ?_
 ·refine bt (T:=[Bi,dx,E4,qf]) ok mixed Tryz.func97 rfl (by kernel_rfl) (by kernel_rfl) (by kernel_rfl) (by kernel_rfl) ?_;unfold Tryz.f97
  simp only [↓wR,RA,simprocAttr,TF,ae]
  refine di [0,1,7,8] (fun (i:Nat)=>[.sl 3 0 (kg z s.node).length 5,.vl false 1 (n.map (aq.val false)),.sc (.int .i64 ((kg z s.node).length)),.sc (.int .i64 (i))]) (fun i=>[some (.row [.vl false 1 (z.origin.map (aq.val false)),.vl false 5 (z.ar.map (ak.val false))] 0 2 26),some (.row [.sc (.int .u8 s.kind),.vl false 1 (s.node.map (aq.val false)),.vl false 1 (s.wv.map (aq.val false))] 0 2 90),some (.row [.sc (.int .u8 0),.sc (.slice none 0 0),.sc (.slice none 0 0)] 0 2 64),some (.row (cellsOf ak true (((kg z s.node).take i).map (zl n)++(kg z s.node).drop i)) 0 0 40)]) (fun i=>i≤(kg z s.node).length) (fun i=>(kg z s.node).length - i) 0 (Nat.zero_le _) (by simp only [↓wR,RA,simprocAttr,TF,ae]<;>rfl) (by simp only [↓wR,RA,simprocAttr,TF,ae]<;>rfl) ?_
  intro i hi
  have hal:(kg z s.node).length≤z.ar.length:=u0 _
  simp only [↓wR,RA,simprocAttr,TF,ae]
  rw [bm];refine ⟨fun h=>?_,fun h=>?_⟩
  ·obtain ⟨c,hc,hd1,hlt⟩:=dv (decide_eq_true h)
   have hys:(((kg z s.node).take i).map (zl n)++(kg z s.node).drop i)[i]? = some c:=by
    rw [List.getElem?_append_right (by simp;omega),hd1]
    simp [Nat.min_eq_left (show i≤(kg z s.node).length by omega)]
   have hst:=asu (xs:=((kg z s.node).take i).map (zl n)++(kg z s.node).drop i) n 0 40 3 hys
   have hyt:(((kg z s.node).take i).map (zl n)++(kg z s.node).drop i).take i++zl n c::(((kg z s.node).take i).map (zl n)++(kg z s.node).drop i).drop (i+1)=((kg z s.node).take (i+1)).map (zl n)++(kg z s.node).drop (i+1):=by
    obtain ⟨_,rfl⟩:=List.getElem?_eq_some_iff.1 hc
    have hlm:(((kg z s.node).take i).map (zl n)).length=i:=by simp;omega
    rw [List.take_left' hlm,List.drop_append,hlm,List.take_succ_eq_append_getElem hlt,List.map_append]
    rw [List.drop_eq_nil_of_le (by omega),List.drop_drop,Nat.add_sub_cancel_left]
    simp
   rw [hyt] at hst
   simp only [↓wR,RA,simprocAttr,TF,ae,h,j8,hn,↓hst];repeat (simp (disch:=omega) only [ah,cb,cd,cg,cf];try simp only [↓wR,RA,simprocAttr,TF,ae,h,j8,hn,↓hst])
   exact ⟨i+1,hlt,by omega,by (first|rfl|trivial|omega|((try (simp (disch:=omega) only [ah]));(try (simp only [FB]));first|done|rfl|omega))⟩
  ·have hin:i=(kg z s.node).length:=by omega
   subst hin
   simp only [↓wR,RA,simprocAttr,TF,ae,h,i7,ir,ic,List.take_length,List.drop_length,List.append_nil]
 rintro _ _ ⟨rfl,rfl⟩
 simp only [↓wR,RA,simprocAttr,TF,ae,g8]
 obtain ⟨L,hLe⟩:∃ L,L=(kg z s.node).map (zl n):=⟨_,rfl⟩
 have hLd:∀ x ∈ L,∃ y ∈ z.ar,x.data=y.data∧x.type=y.type:=fun x hx=>by
  rw [hLe] at hx
  obtain ⟨y,hy,rfl⟩:=List.mem_map.1 hx
  exact ⟨y,(List.mem_filter.1 hy).1,rfl,rfl⟩
 have hLl:L.length=(kg z s.node).length:=by rw [hLe,List.length_map]
 rw [← hLl,← hLe]
 clear hLe
 all_goals
  unfold adh
  have hL0:L.length≤z.ar.length:=by rw [hLl];exact u0 _
  by_cases hany:(t.toNat:Int)=255∧0<L.length
  ·rw [if_pos hany]
   have e5:((t.toNat:Int) == 255)=true:=by rw [hany.1];rfl
   have e6:decide ((L.length:Int) > 0)=true:=decide_eq_true (by omega)
   simp only [↓wR,RA,simprocAttr,TF,ae,e5,e6]
  rw [if_neg hany]
  by_cases h5:(t.toNat:Int)=255
  rotate_left
  have e5:((t.toNat:Int) == 255)=false:=by simpa using h5
  simp only [↓wR,RA,simprocAttr,TF,ae,e5]
  rotate_left
  have e5:((t.toNat:Int) == 255)=true:=by rw [h5];rfl
  have e6:decide ((L.length:Int) > 0)=false:=decide_eq_false (by omega)
  simp only [↓wR,RA,simprocAttr,TF,ae,e5,e6]
  all_goals
   refine ji [2,8,11,56,57,58] (fun (i:Nat)=>[.sc (.int .u16 t.toNat),.ptr 0 0,.vl true 5 (L.map (ak.val true)),.vl true 5 (L.map (ak.val true)),.sc (.int .i64 (L.length)),.sc (.int .i64 (i))]) (fun _=>[some (.row [.sc (.int .u8 0),.sc (.slice none 0 0),.sc (.slice none 0 0)] 0 2 64)]) (fun i=>i≤L.length∧L.find? (fun s=>decide ((s.type.toNat:Int)=t.toNat))=(L.drop i).find? (fun s=>decide ((s.type.toNat:Int)=t.toNat))) (fun i=>L.length - i) 0 ⟨Nat.zero_le _,rfl⟩ (by simp only [↓wR,RA,simprocAttr,TF,ae];refine .trans (jt.lax [1] (Nat.le_of_ble_eq_true rfl) (.cons (.same _) (.cons (.same _) (.cons (.data (ca ak) true L _ ?_) (.cons (.data (ca ak) true L _ ?_) (.cons (.same _) (.cons (.same _) .nil)))))) (.same (.same .nil))) (jt.Pe (by decide) ?_ ?_)<;>simp only [↓wR,RA,simprocAttr,TF,ae,vo,w7,m11,m01,pq]) ?_
   rintro i ⟨hi,hx⟩
   simp only [↓wR,RA,simprocAttr,TF,ae]
   rw [bm];refine ⟨fun h=>?_,fun h=>?_⟩
   ·obtain ⟨c,hc,hd1,hlt⟩:=dv (decide_eq_true h)
    by_cases h5:(t.toNat:Int)=255
    ·omega
    rw [Yb hd1] at hx
    simp only [↓wR,RA,simprocAttr,TF,ae,h,hc]
    rw [c9];refine ⟨fun ⟨h1,e1⟩=>?_,fun ⟨h1,e1⟩=>?_⟩
    ·rw [if_pos (decide_eq_true e1)] at hx
     simp only [↓wR,RA,simprocAttr,TF,ae,h1,hx,Ny]
    ·rw [decide_eq_false e1,if_neg (by decide)] at hx
     simp only [↓wR,RA,simprocAttr,TF,ae,h1];repeat (simp (disch:=omega) only [ah,cb,cd,cg,cf];try simp only [↓wR,RA,simprocAttr,TF,ae,h1])
     exact ⟨i+1,⟨hlt,hx⟩,by omega,by (first|rfl|trivial|omega|((try (simp (disch:=omega) only [ah]));(try (simp only [FB]));first|done|rfl|omega))⟩
   rw [dz (decide_eq_false h),List.find?_nil] at hx
   rw [hx]
   simp only [↓wR,RA,simprocAttr,TF,ae,h]
   clear h hx hi
   refine di [2,8,70,71,72] (fun (i:Nat)=>[.sc (.int .u16 t.toNat),.ptr 0 0,.vl true 5 (L.map (ak.val true)),.sc (.int .i64 (L.length)),.sc (.int .i64 (i))]) (fun _=>[some (.row [.sc (.int .u8 0),.sc (.slice none 0 0),.sc (.slice none 0 0)] 0 2 64)]) (fun i=>i≤L.length∧L.find? (fun s=>decide ((s.type.toNat:Int)=5) && decide ((t.toNat:Int)≠255))=(L.drop i).find? (fun s=>decide ((s.type.toNat:Int)=5) && decide ((t.toNat:Int)≠255))) (fun i=>L.length - i) 0 ⟨Nat.zero_le _,rfl⟩ (by simp only [↓wR,RA,simprocAttr,TF,ae]<;>rfl) (by simp only [↓wR,RA,simprocAttr,TF,ae]<;>rfl) ?_
   rintro i ⟨hi,hx⟩
   simp only [↓wR,RA,simprocAttr,TF,ae]
   rw [bm];refine ⟨fun h=>?_,fun h=>?_⟩
   ·obtain ⟨c,hc,hd1,hlt⟩:=dv (decide_eq_true h)
    by_cases h5:(t.toNat:Int)=255
    ·omega
    have hne:((t.toNat:Int) != 255)=true:=by simpa using h5
    rw [Yb hd1] at hx
    simp only [↓wR,RA,simprocAttr,TF,ae,h,hc]
    rw [c9];refine ⟨fun ⟨h1,e1⟩=>?_,fun ⟨h1,e1⟩=>?_⟩
    ·have hp:(decide ((c.type.toNat:Int)=5) && decide ((t.toNat:Int)≠255))=true:=by rw [decide_eq_true e1,decide_eq_true h5];rfl
     rw [if_pos hp] at hx
     obtain ⟨y,hy,hyd,hyt⟩:=hLd c (List.mem_of_getElem? hc)
     obtain ⟨d,m,hd,hm⟩:=avv (Di he y hy) (by rw [← hyt];exact e1)
     rw [← hyd] at hd
     have hms:bj m:=by
      have:=(hz.set y hy).data.mem d (by rw [← hyd];exact List.mem_of_getElem? hd)
      exact this.name m (List.mem_of_getElem? hm)
     simp only [↓wR,RA,simprocAttr,TF,ae,h1,hne]
     refine ⟨by kernel_rfl,.inl ?_⟩
     simp only [↓wR,RA,simprocAttr,TF,ae,hd,hm,hx,j8,hms,Ny]
     exact (by kernel_rfl)
    ·have hp:(decide ((c.type.toNat:Int)=5) && decide ((t.toNat:Int)≠255))=false:=by rw [decide_eq_false e1];rfl
     rw [hp,if_neg (by decide)] at hx
     simp only [↓wR,RA,simprocAttr,TF,ae,h1];repeat (simp (disch:=omega) only [ah,cb,cd,cg,cf];try simp only [↓wR,RA,simprocAttr,TF,ae,h1])
     exact ⟨i+1,⟨hlt,hx⟩,by omega,by (first|rfl|trivial|omega|((try (simp (disch:=omega) only [ah]));(try (simp only [FB]));first|done|rfl|omega))⟩
   rw [dz (decide_eq_false h),List.find?_nil] at hx
   rw [hx]
   simp only [↓wR,RA,simprocAttr,TF,ae,h]
noncomputable def M7 (x:be × Name × UInt16 × C1 × Unit):Option AV:=if (cy x.1∧bj x.2.1)∧(fq x.1=0∧bj x.2.2.2.1.node) then some ((r1 oj).E true (tc x.1 x.2.1 x.2.2.1 x.2.2.2.1)) else none
set_option maxRecDepth 2000000 in
theorem apm (x:be × Name × UInt16 × C1 × Unit) (r:AV) (h:M7 x=some r):bc PP 59 ((aC bf (aC aw (aC da (aC sm a0)))).E x) r:=by
 by_cases hc:(cy x.1∧bj x.2.1)∧(fq x.1=0∧bj x.2.2.2.1.node)
 case neg=>simp only [M7,if_neg hc] at h;cases h
 simp only [M7,if_pos hc] at h
 cases h
 exact ba (aj.cons (ai tl) (aj.cons (ai gi) (aj.cons (ai Ax) (aj.cons (ai ky) (aj.nil PP))))) Tryz.func59 (by kernel_rfl) (by kernel_rfl) (by kernel_rfl) (Nat.le_of_ble_eq_true (by kernel_rfl)) (r1 oj) true (tc x.1 x.2.1 x.2.2.1 x.2.2.2.1) (aA8 x.1 x.2.1 x.2.2.1 x.2.2.2.1 hc.1.1 hc.1.2 hc.2.1 hc.2.2)
noncomputable abbrev aE0:Nat × Bool × (List AV→M AV):=(59,true,cx (aC bf (aC aw (aC da (aC sm a0)))) M7)
end Go.Proofs.YtajammoepjpiiaaGreat
end
section
set_option maxRecDepth 4000
namespace Go.Vm
noncomputable section
def agp (a b:AV) (e:M AV):M AV:=
 match a,b with
 |.sc (.int k x),.sc (.int _ y)=>.pure (.sc (.int k (if y<x then y else x)))
 |_,_=>e
def ah9 (a b:AV) (e:M AV):M AV:=
 match a,b with
 |.sc (.int k x),.sc (.int _ y)=>.pure (.sc (.int k (if y > x then y else x)))
 |_,_=>e
theorem aui (k k' x y e):agp (.sc (.int k x)) (.sc (.int k' y)) e = .pure (.sc (.int k (if y<x then y else x))):=id rfl
theorem atw (k k' x y e):ah9 (.sc (.int k x)) (.sc (.int k' y)) e = .pure (.sc (.int k (if y > x then y else x))):=id rfl
theorem aqh (P:Program) (ρ:Operand→AV) (d ty pos af gd) (x y:Operand) (ts):il P ρ ⟨d,.call { callee:=.builtin .min,args:=#[x,y],argTypes:=ts },ty,pos,af,gd⟩ [x,y]=agp (ρ x) (ρ y) (zn P ρ ⟨d,.call { callee:=.builtin .min,args:=#[x,y],argTypes:=ts },ty,pos,af,gd⟩ [x,y]):=by
 unfold agp
 split
 ·rename_i k a k' b hx hy
  have h2:execOp (fun z=>((ρ z).ft).getD undef) ⟨d,.call { callee:=.builtin .min,args:=#[x,y],argTypes:=ts },ty,pos,af,gd⟩=(do pure (Next.value (← Builtin.min_ ts ty #[.int k a,.int k' b]))):=by
   simp [execOp,resolve,invoke,builtin,hx,hy,AV.ft]
  have h3:ev P (Builtin.min_ ts ty #[.int k a,.int k' b])=some (.int k (if b<a then b else a)):=by
   simp [Builtin.min_,Builtin.min2,ev]
   rfl
  unfold il ko si
  simp [hx,hy,AV.ft]
  rw [h2,Js,h3]
  rfl
 ·rfl
theorem anv (P:Program) (ρ:Operand→AV) (d ty pos af gd) (x y:Operand) (ts):il P ρ ⟨d,.call { callee:=.builtin .max,args:=#[x,y],argTypes:=ts },ty,pos,af,gd⟩ [x,y]=ah9 (ρ x) (ρ y) (zn P ρ ⟨d,.call { callee:=.builtin .max,args:=#[x,y],argTypes:=ts },ty,pos,af,gd⟩ [x,y]):=by
 unfold ah9
 split
 ·rename_i k a k' b hx hy
  have h2:execOp (fun z=>((ρ z).ft).getD undef) ⟨d,.call { callee:=.builtin .max,args:=#[x,y],argTypes:=ts },ty,pos,af,gd⟩=(do pure (Next.value (← Builtin.max_ ts ty #[.int k a,.int k' b]))):=by
   simp [execOp,resolve,invoke,builtin,hx,hy,AV.ft]
  have h3:ev P (Builtin.max_ ts ty #[.int k a,.int k' b])=some (.int k (if b > a then b else a)):=by
   simp [Builtin.max_,Builtin.max2,ev]
   rfl
  unfold il ko si
  simp [hx,hy,AV.ft]
  rw [h2,Js,h3]
  rfl
 ·rfl
theorem Pd (P:Program) (T:eg) (ρ:Operand→AV) (d ty pos af gd) (s x ts):fo P T ⟨d,.call { callee:=.builtin .min,args:=#[s,x],argTypes:=ts },ty,pos,af,gd⟩ ρ=mono (agp (ρ s) (ρ x) (zn P ρ ⟨d,.call { callee:=.builtin .min,args:=#[s,x],argTypes:=ts },ty,pos,af,gd⟩ [s,x])):=by
 rw [← aqh];rfl
theorem amj {P:Program} {T:eg} {d ty pos af gd recs K L st} (s x ts):fy P T ⟨d,.call { callee:=.builtin .min,args:=#[s,x],argTypes:=ts },ty,pos,af,gd⟩ recs K L st=fl (true) (reach st.h fh (AV.names.go ([s,x].map (db L))) []) ⟨d,.call { callee:=.builtin .min,args:=#[s,x],argTypes:=ts },ty,pos,af,gd⟩ recs K L st (mono (agp (db L s) (db L x) (zn P (ct ⟨d,.call { callee:=.builtin .min,args:=#[s,x],argTypes:=ts },ty,pos,af,gd⟩ L) ⟨d,.call { callee:=.builtin .min,args:=#[s,x],argTypes:=ts },ty,pos,af,gd⟩ [s,x]))):=by
 unfold fy kp mj fl
 simp only [jk,cond_false]
 have hm:∀ y,y ∈ ([s,x]:List Operand)→ct ⟨d,.call { callee:=.builtin .min,args:=#[s,x],argTypes:=ts },ty,pos,af,gd⟩ L y=db L y:=fun y hy=>ey (by simpa [Op.operands,Call.operands] using hy)
 have hmap:([s,x]:List Operand).map (ct ⟨d,.call { callee:=.builtin .min,args:=#[s,x],argTypes:=ts },ty,pos,af,gd⟩ L)=([s,x]:List Operand).map (db L):=ib (fun y hy=>by simpa [Op.operands,Call.operands] using hy)
 have ho:(⟨d,.call { callee:=.builtin .min,args:=#[s,x],argTypes:=ts },ty,pos,af,gd⟩:Oper).op.operands.toList=[s,x]:=by simp [Op.operands,Call.operands]
 rw [ho,hmap]
 rw [Pd,hm s (by simp),hm x (by simp)]
 rfl
theorem N0 (P:Program) (T:eg) (ρ:Operand→AV) (d ty pos af gd) (s x ts):fo P T ⟨d,.call { callee:=.builtin .max,args:=#[s,x],argTypes:=ts },ty,pos,af,gd⟩ ρ=mono (ah9 (ρ s) (ρ x) (zn P ρ ⟨d,.call { callee:=.builtin .max,args:=#[s,x],argTypes:=ts },ty,pos,af,gd⟩ [s,x])):=by
 rw [← anv];rfl
theorem alu {P:Program} {T:eg} {d ty pos af gd recs K L st} (s x ts):fy P T ⟨d,.call { callee:=.builtin .max,args:=#[s,x],argTypes:=ts },ty,pos,af,gd⟩ recs K L st=fl (true) (reach st.h fh (AV.names.go ([s,x].map (db L))) []) ⟨d,.call { callee:=.builtin .max,args:=#[s,x],argTypes:=ts },ty,pos,af,gd⟩ recs K L st (mono (ah9 (db L s) (db L x) (zn P (ct ⟨d,.call { callee:=.builtin .max,args:=#[s,x],argTypes:=ts },ty,pos,af,gd⟩ L) ⟨d,.call { callee:=.builtin .max,args:=#[s,x],argTypes:=ts },ty,pos,af,gd⟩ [s,x]))):=by
 unfold fy kp mj fl
 simp only [jk,cond_false]
 have hm:∀ y,y ∈ ([s,x]:List Operand)→ct ⟨d,.call { callee:=.builtin .max,args:=#[s,x],argTypes:=ts },ty,pos,af,gd⟩ L y=db L y:=fun y hy=>ey (by simpa [Op.operands,Call.operands] using hy)
 have hmap:([s,x]:List Operand).map (ct ⟨d,.call { callee:=.builtin .max,args:=#[s,x],argTypes:=ts },ty,pos,af,gd⟩ L)=([s,x]:List Operand).map (db L):=ib (fun y hy=>by simpa [Op.operands,Call.operands] using hy)
 have ho:(⟨d,.call { callee:=.builtin .max,args:=#[s,x],argTypes:=ts },ty,pos,af,gd⟩:Oper).op.operands.toList=[s,x]:=by simp [Op.operands,Call.operands]
 rw [ho,hmap]
 rw [N0,hm s (by simp),hm x (by simp)]
 rfl
theorem MM0:type_of% @aui∧type_of% @atw∧type_of% @Pd∧type_of% @N0∧type_of% @amj∧type_of% @alu:=
 ⟨@aui,@atw,@Pd,@N0,@amj,@alu⟩
end
end Go.Vm
end
section
namespace Go.Proofs.YtajammoepjpiiaaGreat
open Go.Vm
set_option maxRecDepth 2000000
theorem as3 {z:be} {n:Name} (hz:cy z) (hn:bj n):bj (jj z n).1.node:=by
 by_cases h:jl z n=0
 ·rcases X7 h with ⟨c,hc,e⟩|⟨hc,_,_,e⟩|⟨hc,_,_,e⟩|⟨hc,_,_,_,e⟩|⟨hc,_,_,_,e⟩<;>rw [e]
  ·exact abn hz z.ar none (fun _ h=>h) (fun m hm=>by cases hm) c hc
  ·exact hn
  ·show bw []≤_;decide
  ·exact We (Gy h).2.1
  ·show bw []≤_;decide
 ·rw [ai1 h];show bw []≤_;decide
theorem aAx {z:be} {n:Name} (h:(jj z n).2=0):jl z n=0:=by
 by_cases e:jl z n=0
 ·exact e
 ·rw [ai1 e] at h;exact h
theorem aso {z:be} {n:Name} {t:UInt16} (h:(qk z n t).2=0):jl z n=0∧(t.toNat:Int)≠0∧(t.toNat:Int)≠41∧(qk z n t).1=(jj z n).1:=by
 unfold qk at h ⊢
 split at h
 ·cases h
 ·rename_i q
  rw [if_neg q]
  exact ⟨aAx h,fun e=>q ⟨h,.inl e⟩,fun e=>q ⟨h,.inr e⟩,rfl⟩
noncomputable def Li (z:be) (n:Name) (t:UInt16):tu × Int:=if (qk z n t).2≠0 then (Ab 0 [] [],(qk z n t).2) else (tc z n t (jj z n).1,0)
theorem az1 (z:be) (n:Name) (t:UInt16) (hz:cy z) (hn:bj n):wl PP [aD8,aE0] 0 (Tryz.f23.body.getD .skip) (dj PP Tryz.f23.results.toList (fun r st=>(r2 oj (ay .i64)).get true st.h r=some (Li z n t))) (b9 0 [bf.val false z,aw.val false n,da.val false t]) (bq []):=by
 unfold Tryz.f23
 simp only [gz,dm]
 unfold Li
 by_cases he:(qk z n t).2=0
 ·obtain ⟨h1,h2,h3,h4⟩:=aso he
  obtain ⟨a1,a2,a3⟩:=Gy h1
  have hsp:=as3 hz hn
  rw [if_neg (by omega)]
  rcases hf:jj z n with ⟨⟨k,nd,cl⟩,e⟩
  rw [hf] at h4 hsp
  rcases ha:qk z n t with ⟨sp,e'⟩
  rw [ha] at h4 he
  simp only at h4 he hsp
  subst h4 he
  simp only [↓wR,RA,simprocAttr,TF,ae,E8,hz,hn,ha,bne_self_eq_false,M7,a1,hsp]
  rfl
 ·rw [if_pos he]
  rcases ha:qk z n t with ⟨⟨k,nd,cl⟩,e⟩
  rw [ha] at he
  have hb:(e != 0)=true:=by simpa using he
  simp only [↓wR,RA,simprocAttr,TF,ae,E8,hz,hn,ha,hb]
noncomputable def N2 (x:be × Name × UInt16 × Unit):Option AV:=if cy x.1∧bj x.2.1 then some ((r2 oj (ay .i64)).E true (Li x.1 x.2.1 x.2.2.1)) else none
set_option maxRecDepth 2000000 in
theorem aou (x:be × Name × UInt16 × Unit) (r:AV) (h:N2 x=some r):bc PP 23 ((aC bf (aC aw (aC da a0))).E x) r:=by
 by_cases hc:cy x.1∧bj x.2.1
 case neg=>simp only [N2,if_neg hc] at h;cases h
 simp only [N2,if_pos hc] at h
 cases h
 exact ba (aj.cons (ai ajk) (aj.cons (ai apm) (aj.nil PP))) Tryz.func23 (by kernel_rfl) (by kernel_rfl) (by kernel_rfl) (Nat.le_of_ble_eq_true (by kernel_rfl)) (r2 oj (ay .i64)) true (Li x.1 x.2.1 x.2.2.1) (az1 x.1 x.2.1 x.2.2.1 hc.1 hc.2)
noncomputable abbrev aEn:Nat × Bool × (List AV→M AV):=(23,true,cx (aC bf (aC aw (aC da a0))) N2)
def awy (a b:UInt32):UInt32:=if (a.toNat:Int)≤b.toNat then a else b
def nf (z:be):bo:=
 let s:=(jh z.ar z.origin 6).getD m5
 mkS s.owner s.type s.cls (awy s.ot (((s.data[0]?).bind fun d=>d.nums[4]?).getD 0)) s.data
theorem avw (z:be):∀ (l:List bo) (p:Nat × Nat),p.2<(l.foldl (kh z) p).2→∃ s ∈ l,(s.type.toNat:Int)=6∧fi s.owner z.origin=true:=by
 intro l
 induction l with
 |nil=>intro p h;exact absurd h (Nat.lt_irrefl _)
 |cons a l ih=>
  intro p h
  rw [List.foldl_cons] at h
  by_cases h2:(kh z p a).2<(l.foldl (kh z) (kh z p a)).2
  ·obtain ⟨s,hs,h3⟩:=ih _ h2
   exact ⟨s,by simp [hs],h3⟩
  ·have h3:(kh z p a).2≠p.2:=by omega
   refine ⟨a,by simp,?_⟩
   unfold kh at h3
   split at h3
   ·rename_i e6
    dsimp only at h3
    split at h3
    ·rename_i e7
     rw [Bool.and_eq_true] at e7
     exact ⟨e6,e7.1⟩
    ·exact (h3 rfl).elim
   ·exact (h3 rfl).elim
theorem afm {s:bo} (h:ow s=true):(s.cls.toNat:Int)=1∧(s.type.toNat:Int)≠255:=by
 unfold ow at h
 split at h
 ·cases h
 split at h
 ·cases h
 split at h
 ·cases h
 ·rename_i q _ _;exact ⟨by omega,by simpa using h⟩
theorem aao {z:be} (h:fq z=0):∃ s,jh z.ar z.origin 6=some s:=by
 have hg:=Qk h
 have h2:(0:Nat)<(gy z).2:=by rw [hg.aHh.2];decide
 obtain ⟨s,hs,e6,hso⟩:=avw z z.ar (0,0) h2
 have hc:=(afm (hg.cls s hs)).1
 have hp:vm z.origin 6 s=true:=by unfold vm;rw [decide_eq_true (show (s.type.toNat:Int)=(6:UInt16).toNat from e6),decide_eq_true hc,hso];rfl
 cases hf:jh z.ar z.origin 6 with
 |some q=>exact ⟨q,rfl⟩
 |none=>exact absurd hp (by simpa using List.find?_eq_none.1 hf s hs)
theorem ath (z:be) (hz:cy z) (he:fq z=0):wl PP [Bi] 0 (Tryz.f74.body.getD .skip) (dj PP Tryz.f74.results.toList (fun r st=>(r1 ak).get true st.h r=some (nf z))) (b9 0 [bf.val false z]) (bq []):=by
 obtain ⟨s,hs⟩:=aao he
 obtain ⟨m1,m2,m3,m4⟩:=x6 hs
 obtain ⟨d,k,hd,hk⟩:=aEk (Di he s m1) (by rw [m2];rfl)
 unfold Tryz.f74
 simp only [gz]
 unfold nf
 simp only [↓wR,RA,simprocAttr,TF,ae,Oe,uh,hz.mid,hz.origin,hs]
 refine ⟨by kernel_rfl,.inl ?_⟩
 have hm:(if (k.toNat:Int)<s.ot.toNat then (k.toNat:Int) else s.ot.toNat)=((awy s.ot k).toNat:Int):=by
  unfold awy;split<;>split<;>first|rfl|omega
 simp only [↓wR,RA,simprocAttr,TF,ae,hd,hk,MM0,hm]
 have hq:∀ a b c d,ea a b c=d→ea a b c=d:=fun _ _ _ _ h=>h
 apply hq
 kernel_rfl
noncomputable def Gx (x:be × Unit):Option AV:=if cy x.1∧fq x.1=0 then some ((r1 ak).E true (nf x.1)) else none
set_option maxRecDepth 2000000 in
theorem agl (x:be × Unit) (r:AV) (h:Gx x=some r):bc PP 74 ((aC bf a0).E x) r:=by
 by_cases hc:cy x.1∧fq x.1=0
 case neg=>simp only [Gx,if_neg hc] at h;cases h
 simp only [Gx,if_pos hc] at h
 cases h
 exact ba (aj.cons (ai tl) (aj.nil PP)) Tryz.func74 (by kernel_rfl) (by kernel_rfl) (by kernel_rfl) (Nat.le_of_ble_eq_true (by kernel_rfl)) (r1 ak) true (nf x.1) (ath x.1 hc.1 hc.2)
noncomputable abbrev az4:Nat × Bool × (List AV→M AV):=(74,true,cx (aC bf a0) Gx)
noncomputable def zr (z:be):bo × Int:=if fq z≠0 then (m5,fq z) else (nf z,0)
theorem an4 (z:be) (hz:cy z):wl PP [ad4,az4] 0 (Tryz.f64.body.getD .skip) (dj PP Tryz.f64.results.toList (fun r st=>(r2 ak (ay .i64)).get true st.h r=some (zr z))) (b9 0 [bf.val false z]) (bq []):=by
 unfold Tryz.f64
 simp only [gz]
 simp only [↓wR,RA,simprocAttr,TF,ae,Cn,hz]
 unfold zr
 rw [br];refine ⟨fun h=>?_,fun h=>?_⟩
 ·have he:fq z≠0:=by simpa using h
  rw [if_pos he]
  simp only [↓wR,RA,simprocAttr,TF,ae,h]
  rfl
 have he:fq z=0:=by simpa using h
 rw [if_neg (by omega)]
 simp only [↓wR,RA,simprocAttr,TF,ae,h,Gx,hz,he]
noncomputable def zo (x:be × Unit):Option AV:=if cy x.1 then some ((r2 ak (ay .i64)).E true (zr x.1)) else none
set_option maxRecDepth 2000000 in
theorem acr (x:be × Unit) (r:AV) (h:zo x=some r):bc PP 64 ((aC bf a0).E x) r:=by
 by_cases hc:cy x.1
 case neg=>simp only [zo,if_neg hc] at h;cases h
 simp only [zo,if_pos hc] at h
 cases h
 exact ba (aj.cons (ai Ik) (aj.cons (ai agl) (aj.nil PP))) Tryz.func64 (by kernel_rfl) (by kernel_rfl) (by kernel_rfl) (Nat.le_of_ble_eq_true (by kernel_rfl)) (r2 ak (ay .i64)) true (zr x.1) (an4 x.1 hc)
noncomputable abbrev awb:Nat × Bool × (List AV→M AV):=(64,true,cx (aC bf a0) zo)
def aFn (n:Name) (s:bo):Bool:=(decide ((s.type.toNat:Int)=1) || decide ((s.type.toNat:Int)=28)) && fi s.owner n
def ayu (z:be):List Name→List Name→List bo
 |_,[]=>[]
 |pre,n::r=>(if pre.any (fun m=>fi m n)=true then [] else z.ar.filter (aFn n))++ayu z (pre++[n]) r
def aE2 (z:be) (l:List Name):List bo:=ayu z [] l
def sq (l:List Name):Prop:=fp bw l≤16777216
instance (l:List Name):Decidable (sq l):=inferInstanceAs (Decidable (_≤_))
theorem sq.mem {l:List Name} (h:sq l):∀ n ∈ l,bj n:=fun n hn=>by
 have h1:bw n<fp bw l:=rp hn
 unfold sq at h;unfold bj;omega
theorem sq.len {l:List Name} (h:sq l):l.length≤16777216:=Nat.le_trans (ru bw l) h
theorem ajf {z:be} (h:fq z=0):z.ar.length≤2048:=by
 have hs:=Di h
 have hf:=(Qk h).first
 unfold vu at hf
 split at hf
 ·contradiction
 have key:∀ (l:List bo) (e:Int),C5 l e=0→e=0:=by
  intro l
  induction l with
  |nil=>intro e h;exact h
  |cons a l ih=>
   intro e h
   rw [C5] at h
   have h1:=ih _ h
   split at h1
   ·assumption
   ·exact h1
 have h1:=key _ _ hf
 have h2:lf z.ar≤2048:=by
  unfold dh at h1
  split at h1
  ·cases h1
  ·rename_i q
   by_cases hd:lf z.ar≤2048
   ·exact hd
   ·exact (q ⟨rfl,decide_eq_false hd⟩).elim
 have h3:∀ (l:List bo) (k:Nat),(∀ s ∈ l,qj s=0)→k+l.length≤l.foldl (fun n s=>n+s.data.length) k:=by
  intro l
  induction l with
  |nil=>intro k _;exact Nat.le_refl _
  |cons a l ih=>
   intro k hl
   obtain ⟨d,hd,_⟩:=Ix (hl a (by simp))
   have : 0<a.data.length:=(List.getElem?_eq_some_iff.1 hd).1
   have:=ih (k+a.data.length) (fun s hs=>hl s (by simp [hs]))
   rw [List.length_cons,List.foldl_cons]
   omega
 have:=h3 z.ar 0 hs
 unfold lf at h2
 omega
end Go.Proofs.YtajammoepjpiiaaGreat
end
namespace Go.Vm
noncomputable section
def tx (D:List Nat) (nx i:Nat):Nat:=match D[i]? with|some o=>o|none=>nx+(i - D.length)
def Lz (D:List Nat) (nx n0 i:Nat):Option Nat:=bif Nat.blt i n0 then some (tx D nx i) else none
def Au (D:List Nat) (nx n0:Nat) (h0:Tr bh):List Nat→Tr bh→Tr bh
 | [],h=>h
 |i::r,h=>Au D nx n0 h0 r (Tr.set depth h (tx D nx i) ((h0.get i).bind (bh.dk (Lz D nx n0))))
def uk (D:List Nat) (st st0:St):St:={ h:=Au D st.nx st0.nx st0.h (dw 0 st0.nx) st.h,nx:=st.nx+(st0.nx - D.length),rl:=[],wl:=[] }
theorem A6 {D:List Nat} {nx i o:Nat} (h:D[i]? = some o):tx D nx i=o:=by unfold tx;rw [h]
theorem Dv {D:List Nat} {nx i:Nat} (h:D.length≤i):tx D nx i=nx+(i - D.length):=by unfold tx;rw [List.getElem?_eq_none h]
theorem az6 {D:List Nat} {nx:Nat} (hD:D.Nodup) (hlt:∀ o ∈ D,o<nx) {i j:Nat} (h:tx D nx i=tx D nx j):i=j:=by
 rcases Nat.lt_or_ge i D.length with hi|hi<;>rcases Nat.lt_or_ge j D.length with hj|hj
 ·rw [A6 (List.getElem?_eq_getElem hi),A6 (List.getElem?_eq_getElem hj)] at h
  exact (List.getElem_inj hD).1 h
 ·rw [A6 (List.getElem?_eq_getElem hi),Dv hj] at h
  have:=hlt _ (List.getElem_mem hi);omega
 ·rw [Dv hi,A6 (List.getElem?_eq_getElem hj)] at h
  have:=hlt _ (List.getElem_mem hj);omega
 ·rw [Dv hi,Dv hj] at h;omega
theorem aEe {D:List Nat} {nx n0 i:Nat} (hlt:∀ o ∈ D,o<nx) (hi:i<n0):tx D nx i≤nx+n0:=by
 rcases Nat.lt_or_ge i D.length with h|h
 ·rw [A6 (List.getElem?_eq_getElem h)];have:=hlt _ (List.getElem_mem h);omega
 ·rw [Dv h];omega
theorem Lc {D:List Nat} {nx n0:Nat} {h0:Tr bh} {o:Nat}:∀ (l:List Nat) (h:Tr bh),(∀ i ∈ l,tx D nx i≤cw)→(∀ i ∈ l,tx D nx i≠o)→(Au D nx n0 h0 l h).get o=h.get o
 | [],h,_,_=>rfl
 |i::r,h,hl,ho=>by
  rw [Au,Lc r _ (fun j hj=>hl j (by simp [hj])) (fun j hj=>ho j (by simp [hj])),fj _ _ _ _ (hl i (by simp)),if_neg (fun e=>ho i (by simp) e.symm)]
theorem abu {D:List Nat} {nx n0:Nat} {h0:Tr bh} (hinj:∀ i j,tx D nx i=tx D nx j→i=j) {i:Nat}:∀ (l:List Nat) (h:Tr bh),(∀ j ∈ l,tx D nx j≤cw)→i ∈ l→(Au D nx n0 h0 l h).get (tx D nx i)=(h0.get i).bind (bh.dk (Lz D nx n0))
 | [],_,_,hi=>by cases hi
 |j::r,h,hl,hi=>by
  rw [Au]
  by_cases hr:i ∈ r
  ·exact abu hinj r _ (fun k hk=>hl k (by simp [hk])) hr
  ·have hij:i=j:=by rcases List.mem_cons.1 hi with e|e;exact e;exact (hr e).elim
   subst hij
   rw [Lc r _ (fun k hk=>hl k (by simp [hk])) (fun k hk e=>hr (hinj k i e ▸ hk)),fj _ _ _ _ (hl i (by simp)),if_pos rfl]
theorem ava {n i:Nat} (h:i<n):i ∈ dw 0 n:=(ja n 0 i).2 ⟨Nat.zero_le _,by omega⟩
theorem Xa {n i:Nat} (h:i ∈ dw 0 n):i<n:=by have:=((ja n 0 i).1 h).2;omega
theorem ai9:∀ (l:List Nat) (o i:Nat),idx l o i=none→o ∉ l
 | [],o,i,_=>by simp
 |a::l,o,i,h=>by
  rw [K3] at h
  split at h
  ·cases h
  ·rename_i ne
   have:=ai9 l o (i+1) h
   simp only [List.mem_cons,not_or]
   exact ⟨fun e=>ne e.symm,this⟩
theorem ahv {D:List Nat} {g g0':Gh} {st st0':St} {h0:Tr bh} {w w':World} {r:AV} {v:Value} (hD:D.Nodup) (hlt:∀ o ∈ D,o<st.nx) (hp:∀ o ∈ D,(st.h.get o).isSome=true)
 (hok:Ok g st.h w) (hfr:∀ o,st.nx≤o→g.inj o=none) (hk:D.length≤st0'.nx) (hb:st.nx+st0'.nx≤cw)
 (s0:Step (g.dk D) h0 w D.length st0'.nx g0' st0'.h w') (ok0:Ok g0' st0'.h w') (hr:Rel g0' w' r v) :
 ∃ g',st.nx≤(uk D st st0').nx∧Step g st.h w st.nx (uk D st st0').nx g' (uk D st st0').h w'∧Ok g' (uk D st st0').h w'∧Rel g' w' (r.dk (Lz D st.nx st0'.nx)) v:=by
 obtain ⟨n0,hn0⟩:∃ n0,n0=st0'.nx:=⟨_,rfl⟩
 have hinj:=fun i j=>az6 (nx:=st.nx) hD hlt (i:=i) (j:=j)
 have hule:∀ i ∈ dw 0 st0'.nx,tx D st.nx i≤cw:=fun i hi=>Nat.le_trans (aEe hlt (Xa hi)) hb
 have hin:∀ i,i<st0'.nx→(uk D st st0').h.get (tx D st.nx i)=(st0'.h.get i).bind (bh.dk (Lz D st.nx st0'.nx)):=fun i hi=>abu hinj _ _ hule (ava hi)
 have hout:∀ o,(∀ i,i<st0'.nx→tx D st.nx i≠o)→(uk D st st0').h.get o=st.h.get o:=fun o ho=>Lc _ _ hule (fun i hi=>ho i (Xa hi))
 have hren:∀ i,(g.dk D).inj i=(D[i]?).bind g.inj:=fun _=>rfl
 have hold:∀ i b base,(g.dk D).inj i=some (b,base)→∃ o ∈ D,g.inj o=some (b,base)∧(st.h.get o).isSome=true:=fun i b base hi=>by
  rw [hren] at hi
  cases hd:D[i]? with
  |none=>rw [hd] at hi;cases hi
  |some o=>rw [hd] at hi;exact ⟨o,List.mem_of_getElem? hd,hi,hp o (List.mem_of_getElem? hd)⟩
 have hno:∀ i,st0'.nx≤i→g0'.inj i=none:=fun i hi=>s0.fresh i (by rw [hren,List.getElem?_eq_none (by omega)];rfl) (by omega)
 let g':Gh:={ b0:=g.b0,inj:=fun o=>if o<st.nx then g.inj o else g0'.inj (D.length+(o - st.nx)),K:=g0'.K }
 have gl:∀ o,o<st.nx→g'.inj o=g.inj o:=fun o ho=>if_pos ho
 have gg:∀ o,st.nx≤o→g'.inj o=g0'.inj (D.length+(o - st.nx)):=fun o ho=>if_neg (by omega)
 have F1:∀ i,g'.inj (tx D st.nx i)=g0'.inj i:=fun i=>by
  rcases Nat.lt_or_ge i D.length with hi|hi
  ·have hd:=List.getElem?_eq_getElem hi
   rw [A6 hd,gl _ (hlt _ (List.getElem_mem hi))]
   have h1:(g.dk D).inj i=g.inj D[i]:=by rw [hren,hd];rfl
   cases hg:g.inj D[i] with
   |some p=>exact (s0.ext.inj i p (h1.trans hg)).symm
   |none=>exact (s0.fresh i (h1.trans hg) (by omega)).symm
  ·rw [Dv hi,gg _ (by omega)]
   congr 1;omega
 let N:List Nat:=(List.range (st.nx+st0'.nx)).map fun o=>if o<st.nx then (idx D o 0).getD st0'.nx else D.length+(o - st.nx)
 have hNg:∀ p,p<st.nx+st0'.nx→N[p]? = some (if p<st.nx then (idx D p 0).getD st0'.nx else D.length+(p - st.nx)):=fun p hp=>by
  simp only [N,List.getElem?_map,List.getElem?_range hp,Option.map_some]
 have hidx:∀ i o,D[i]? = some o→idx D o 0=some i:=fun i o hi=>by
  cases hx:idx D o 0 with
  |some p=>
   have h1:=Fc D o p hx
   obtain ⟨hi',ei⟩:=List.getElem?_eq_some_iff.1 hi
   obtain ⟨hp',ep⟩:=List.getElem?_eq_some_iff.1 h1
   rw [(List.getElem_inj hD).1 (ei.trans ep.symm)]
  |none=>exact absurd (List.mem_of_getElem? hi) (ai9 D o 0 hx)
 have hτ:∀ o p,Lz D st.nx st0'.nx o=some p→N[p]? = some o:=fun i p h=>by
  unfold Lz at h
  cases hlt2:Nat.blt i st0'.nx with
  |false=>rw [hlt2] at h;cases h
  |true=>
   rw [hlt2] at h
   cases h
   have hi:i<st0'.nx:=Nat.le_of_ble_eq_true hlt2
   rcases Nat.lt_or_ge i D.length with hi2|hi2
   ·have hd:=List.getElem?_eq_getElem hi2
    rw [A6 hd,hNg _ (by have:=hlt _ (List.getElem_mem hi2);omega),if_pos (hlt _ (List.getElem_mem hi2)),hidx i _ hd];rfl
   ·rw [Dv hi2,hNg _ (by omega),if_neg (by omega)]
    congr 1;omega
 have hext:Ext (g0'.dk N) w' g' w':=by
  refine ⟨s0.ext.b0.symm,fun p q hq=>?_,fun _ _ h=>h,fun _ _ _=>rfl,fun b cs e fr h=>⟨cs,fr,h,rfl⟩,fun b l h=>⟨l,h⟩⟩
  have hq':(N[p]?).bind g0'.inj=some q:=hq
  rcases Nat.lt_or_ge p (st.nx+st0'.nx) with hpl|hpl
  ·rw [hNg p hpl,Option.bind_some] at hq'
   by_cases hpn:p<st.nx
   ·rw [if_pos hpn] at hq'
    cases hx:idx D p 0 with
    |none=>rw [hx,Option.getD_none,hno _ (Nat.le_refl _)] at hq';cases hq'
    |some i=>
     rw [hx,Option.getD_some] at hq'
     rw [← A6 (nx:=st.nx) (Fc D p i hx),F1];exact hq'
   ·rw [if_neg hpn] at hq'
    rw [gg p (by omega)];exact hq'
  ·have:N[p]? = none:=List.getElem?_eq_none (by simp only [N,List.length_map,List.length_range];exact hpl)
   rw [this] at hq';cases hq'
 have himg:∀ o,(∃ i,i<st0'.nx∧tx D st.nx i=o)∨(∀ i,i<st0'.nx→tx D st.nx i≠o):=fun o=>by
  by_cases h:∃ i,i<st0'.nx∧tx D st.nx i=o
  ·exact .inl h
  ·exact .inr fun i hi e=>h ⟨i,hi,e⟩
 have de:∀ i x,i<st0'.nx→(uk D st st0').h.get (tx D st.nx i)=some x→∃ y,st0'.h.get i=some y∧y.dk (Lz D st.nx st0'.nx)=some x:=fun i x hi hx=>by
  rw [hin i hi] at hx
  cases hy:st0'.h.get i with
  |none=>rw [hy] at hx;cases hx
  |some y=>rw [hy] at hx;exact ⟨y,rfl,hx⟩
 have hfar:∀ o b base,(∀ i,i<st0'.nx→tx D st.nx i≠o)→g'.inj o=some (b,base)→o<st.nx∧o ∉ D∧g.inj o=some (b,base):=fun o b base ho hi=>by
  rcases Nat.lt_or_ge o st.nx with h1|h1
  ·refine ⟨h1,fun hd=>?_,by rw [← gl o h1];exact hi⟩
   obtain ⟨i,hil,e⟩:=List.getElem_of_mem hd
   exact ho i (by omega) (by rw [A6 (List.getElem?_eq_getElem hil)];exact e)
  ·rw [gg o h1] at hi
   rcases Nat.lt_or_ge (D.length+(o - st.nx)) st0'.nx with h2|h2
   ·exact (ho _ h2 (by rw [Dv (by omega)];omega)).elim
   ·rw [hno _ h2] at hi;cases hi
 have hsame:∀ o x b base,o ∉ D→st.h.get o=some x→g.inj o=some (b,base)→b<w.heap.size→w'.heap[b]? = w.heap[b]? ∧ (∀ i base',g0'.inj i=some (b,base')→(st0'.h.get i).isSome=true→False)∧(∀ j,g0'.K b j→g.K b j):=fun o x b base ho hx hi hbs=>by
  have hnot:∀ i base',(g.dk D).inj i≠some (b,base'):=fun i base' e=>by
   obtain ⟨o2,hd,hi2,hs2⟩:=hold i b base' e
   obtain ⟨x2,hx2⟩:=Option.isSome_iff_exists.1 hs2
   exact hok.sep o o2 x x2 b base base' (fun e=>ho (e ▸ hd)) hx hx2 hi hi2
  refine ⟨s0.frame b hbs fun i base' _=>hnot i base',fun i base' e hs=>?_,fun j hj=>?_⟩
  ·rcases s0.own i b base' hs e with h1|⟨o',base2,_,h2⟩
   ·omega
   ·exact hnot o' base2 h2
  ·rcases s0.pw b j hj with h1|h1|⟨o',base2,_,h2⟩
   ·exact h1
   ·omega
   ·exact (hnot o' base2 h2).elim
 have hblk:∀ o x b base,st.h.get o=some x→g.inj o=some (b,base)→oc g w b base x:=fun o x b base hx hi=>by
  rcases hok.nn o x hx with ⟨h1,_⟩|⟨b',base',h1,_,h2⟩
  ·rw [h1] at hi;cases hi
  ·rw [h1] at hi;cases hi;exact h2
 have hsz:∀ b base x,oc g w b base x→b<w.heap.size:=fun b base x hx=>by
  have hs:∃ q,w.heap[b]? = some q:=by
   cases x with
   |row cells k st et=>obtain ⟨cs,fr,h1,_⟩:=hx;exact ⟨_,h1⟩
   |map es=>obtain ⟨_,ms,clock,h1,_⟩:=hx;exact ⟨_,h1⟩
   |loop slots nt params assign body state pending=>obtain ⟨_,l,h1,_⟩:=hx;exact ⟨_,h1⟩
  obtain ⟨q,hq⟩:=hs
  exact (Array.getElem?_eq_some_iff.1 hq).1
 have hE:Ext g w g' w':=by
  refine ⟨rfl,fun o p hp=>?_,fun b j h=>s0.ext.K b j h,fun b j h=>s0.ext.cell b j h,s0.ext.Bl,s0.ext.lp⟩
  rcases Nat.lt_or_ge o st.nx with h1|h1
  ·rw [gl o h1];exact hp
  ·rw [hfr o h1] at hp;cases hp
 refine ⟨g',Nat.le_add_right _ _,⟨hE,s0.size,s0.os,s0.tape,s0.output,fun b hbs hn=>?_,fun o ho hr2=>?_,fun o b base ho hi=>?_,fun b j hK=>?_⟩,⟨?_,fun o x hx=>?_,fun o o' x x' b base base' hne hx hx' hi hi'=>?_,ok0.K⟩,(hr.dk hτ).ext hext⟩
 ·refine s0.frame b hbs fun i base _ e=>?_
  obtain ⟨o,_,h1,h2⟩:=hold i b base e
  exact hn o base h2 h1
 ·rcases Nat.lt_or_ge o st.nx with h1|h1
  ·rw [gl o h1];exact ho
  ·rw [gg o h1]
   exact hno _ (by simp only [uk] at hr2;omega)
 ·rcases himg o with ⟨i,hi0,rfl⟩|ho2
  ·obtain ⟨x,hx⟩:=Option.isSome_iff_exists.1 ho
   obtain ⟨y,hy,_⟩:=de i x hi0 hx
   rw [F1] at hi
   rcases s0.own i b base (by rw [hy];rfl) hi with h1|⟨o',base',_,h2⟩
   ·exact .inl h1
   ·obtain ⟨o2,_,h3,h4⟩:=hold o' b base' h2
    exact .inr ⟨o2,base',h4,h3⟩
  ·obtain ⟨_,_,h3⟩:=hfar o b base ho2 hi
   rw [hout o ho2] at ho
   exact .inr ⟨o,base,ho,h3⟩
 ·rcases s0.pw b j hK with h1|h1|⟨o',base',_,h2⟩
  ·exact .inl h1
  ·exact .inr (.inl h1)
  ·obtain ⟨o2,_,h3,h4⟩:=hold o' b base' h2
   exact .inr (.inr ⟨o2,base',h4,h3⟩)
 ·exact Nat.le_trans hok.size s0.size
 ·rcases himg o with ⟨i,hi0,rfl⟩|ho2
  ·obtain ⟨y,hy,hyx⟩:=de i x hi0 hx
   refine (ok0.nn i y hy).imp (fun q=>⟨by rw [F1];exact q.1,by obtain ⟨s1,e1,rfl⟩:=q.2;simp only [bh.dk,AV.dk.go,Option.some.injEq] at hyx;exact ⟨s1,e1,hyx.symm⟩⟩) ?_
   rintro ⟨b,base,q1,q2,q3⟩
   refine ⟨b,base,by rw [F1];exact q1,by show g.b0≤b;have:=s0.ext.b0;have e:g0'.b0=g.b0:=this;omega,(q3.dk hτ hyx).ext hext rfl (fun j hj=>hj)⟩
  ·rw [hout o ho2] at hx
   cases hg:g'.inj o with
   |none=>
    refine .inl ⟨rfl,?_⟩
    rcases Nat.lt_or_ge o st.nx with h1|h1
    ·rw [gl o h1] at hg
     rcases hok.nn o x hx with ⟨_,h2⟩|⟨b,base,h2,_⟩
     ·exact h2
     ·rw [hg] at h2;cases h2
    ·rcases hok.nn o x hx with ⟨_,h2⟩|⟨b,base,h2,_⟩
     ·exact h2
     ·rw [hfr o h1] at h2;cases h2
   |some p=>
    obtain ⟨b,base⟩:=p
    obtain ⟨h1,h2,h3⟩:=hfar o b base ho2 hg
    have hor:=hblk o x b base hx h3
    obtain ⟨e1,_,e3⟩:=hsame o x b base h2 hx h3 (hsz b base x hor)
    refine .inr ⟨b,base,rfl,?_,hor.ext hE e1 e3⟩
    rcases hok.nn o x hx with ⟨h4,_⟩|⟨b',base',h4,h5,_⟩
    ·rw [h4] at h3;cases h3
    ·rw [h4] at h3;cases h3;exact h5
 ·rcases himg o with ⟨i,hi0,rfl⟩|ho2<;>rcases himg o' with ⟨i',hi0',rfl⟩|ho2'
  ·obtain ⟨y,hy,_⟩:=de i x hi0 hx
   obtain ⟨y',hy',_⟩:=de i' x' hi0' hx'
   rw [F1] at hi hi'
   exact ok0.sep i i' y y' b base base' (fun e=>hne (by rw [e])) hy hy' hi hi'
  ·obtain ⟨y,hy,_⟩:=de i x hi0 hx
   obtain ⟨h1,h2,h3⟩:=hfar o' b base' ho2' hi'
   rw [hout o' ho2'] at hx'
   rw [F1] at hi
   exact (hsame o' x' b base' h2 hx' h3 (hsz b base' x' (hblk o' x' b base' hx' h3))).2.1 i base hi (by rw [hy];rfl)
  ·obtain ⟨y,hy,_⟩:=de i' x' hi0' hx'
   obtain ⟨h1,h2,h3⟩:=hfar o b base ho2 hi
   rw [hout o ho2] at hx
   rw [F1] at hi'
   exact (hsame o x b base h2 hx h3 (hsz b base x (hblk o x b base hx h3))).2.1 i' base' hi' (by rw [hy];rfl)
  ·obtain ⟨h1,h2,h3⟩:=hfar o b base ho2 hi
   obtain ⟨h1',h2',h3'⟩:=hfar o' b base' ho2' hi'
   rw [hout o ho2] at hx
   rw [hout o' ho2'] at hx'
   exact hok.sep o o' x x' b base base' hne hx hx' h3 h3'
theorem aes {P:Program} {f:Nat} {args:List AV} {st:St} {R:AV→St→Prop} (D:List Nat) (hD:D.Nodup) (hlt:∀ o ∈ D,o<st.nx) (hp:∀ o ∈ D,(st.h.get o).isSome=true) (hl:D.length≤cw)
 (h:ql P f (AV.dk.go (fun o=>idx D o 0) args) (bq (iy st.h (fun o=>idx D o 0) D)) (fun r st'=>(D.length≤st'.nx∧st.nx+st'.nx≤cw)∧R (r.dk (Lz D st.nx st'.nx)) (uk D st st'))):ql P f args st R:=by
 intro g w vs hok hfr hrel
 have hτ:∀ o p,(fun o=>idx D o 0) o=some p→D[p]? = some o:=fun o p h=>Fc _ o p h
 have hnx:(bq (iy st.h (fun o=>idx D o 0) D)).nx=D.length:=by simp only [bq,ig]
 have hinj:∀ i o,D[i]? = some o→(g.dk D).inj i=g.inj o:=fun i o h=>by simp [Gh.dk,h]
 have de:∀ i x,(bq (iy st.h (fun o=>idx D o 0) D)).h.get i=some x→∃ o y,D[i]? = some o∧st.h.get o=some y∧y.dk (fun o=>idx D o 0)=some x:=by
  intro i x hx
  simp only [bq] at hx
  rw [uu _ _ _ (by rw [ig];omega),if_pos (Nat.zero_le _),Nat.sub_zero,vh] at hx
  cases hi:D[i]? with
  |none=>rw [hi] at hx;cases hx
  |some o=>
   rw [hi] at hx
   simp only [Option.map_some,Option.join_some] at hx
   cases hy:st.h.get o with
   |none=>rw [hy] at hx;cases hx
   |some y=>rw [hy] at hx;exact ⟨o,y,rfl,hy,hx⟩
 have hok0:Ok (g.dk D) (bq (iy st.h (fun o=>idx D o 0) D)).h w:=by
  refine ⟨hok.size,fun i x hx=>?_,fun i j x y b base base' hij hx hy hb hb'=>?_,hok.K⟩
  ·obtain ⟨o,y,h1,h2,h3⟩:=de i x hx
   refine (hok.nn o y h2).imp (fun q=>⟨by rw [hinj i o h1];exact q.1,by obtain ⟨s0,e0,rfl⟩:=q.2;simp only [bh.dk,AV.dk.go,Option.some.injEq] at h3;exact ⟨s0,e0,h3.symm⟩⟩) ?_
   rintro ⟨b,base,q1,q2,q3⟩
   exact ⟨b,base,by rw [hinj i o h1];exact q1,q2,q3.dk hτ h3⟩
  ·obtain ⟨o,y1,h1,h2,_⟩:=de i x hx
   obtain ⟨o',y2,h1',h2',_⟩:=de j y hy
   rw [hinj i o h1] at hb
   rw [hinj j o' h1'] at hb'
   have hne:o≠o':=by
    intro e
    subst e
    obtain ⟨hi,ei⟩:=List.getElem?_eq_some_iff.1 h1
    obtain ⟨hj,ej⟩:=List.getElem?_eq_some_iff.1 h1'
    exact hij ((List.getElem_inj hD).1 (ei.trans ej.symm))
   exact hok.sep o o' _ _ b base base' hne h2 h2' hb hb'
 have hfr0:∀ o,(bq (iy st.h (fun o=>idx D o 0) D)).nx≤o→(g.dk D).inj o=none:=fun o ho=>by
  rw [hnx] at ho;simp [Gh.dk,List.getElem?_eq_none ho]
 have hrel0:bu (g.dk D) w (AV.dk.go (fun o=>idx D o 0) args) vs:=by
  rw [j9]
  refine ⟨by rw [List.length_map];exact hrel.1,fun i a v ha hv=>?_⟩
  rw [List.getElem?_map] at ha
  cases hx:args[i]? with
  |none=>rw [hx] at ha;cases ha
  |some a0=>rw [hx] at ha;cases ha;exact (hrel.2 i a0 v hx hv).dk hτ
 rcases h (g.dk D) w vs hok0 hfr0 hrel0 with ⟨v,w',g',r,st',q1,q2,q3,q4,q5,q6⟩|⟨q1,q2⟩
 ·rw [hnx] at q4
  obtain ⟨g'',p1,p2,p3,p4⟩:=ahv hD hlt hp hok hfr q2.1.1 q2.1.2 q4 q5 q6
  exact .inl ⟨v,w',g'',_,_,q1,q2.2,p1,p2,p3,p4⟩
 ·refine .inr ⟨q1,q2.mono ?_⟩
  rintro e w' ⟨v,g',r,st',rfl,q2,q3,q4,q5,q6⟩
  rw [hnx] at q4
  obtain ⟨g'',p1,p2,p3,p4⟩:=ahv hD hlt hp hok hfr q2.1.1 q2.1.2 q4 q5 q6
  exact ⟨v,g'',_,_,rfl,q2.2,p1,p2,p3,p4⟩
theorem Kx {P:Program} {f:Nat} {args:List AV} {st:St} {R:AV→St→Prop} (D:List Nat) {args0:List AV} {objs0:List (Option bh)} {r0:AV} {objs1:List (Option bh)}
 (hc:ql P f args0 (bq objs0) (fun r st'=>r=r0∧st'=bq objs1)) (hD:D.Nodup)
 (hlt:(D.all fun o=>Nat.blt o st.nx)=true) (hp:(D.all fun o=>(st.h.get o).isSome)=true) (hl:D.length≤cw)
 (ha:AV.dk.go (fun o=>idx D o 0) args=args0) (hs:iy st.h (fun o=>idx D o 0) D=objs0) (hb:D.length≤objs1.length∧st.nx+objs1.length≤cw)
 (h:R (r0.dk (Lz D st.nx objs1.length)) (uk D st (bq objs1))):ql P f args st R:=by
 refine aes D hD (fun o ho=>Nat.le_of_ble_eq_true (List.all_eq_true.1 hlt o ho)) (fun o ho=>List.all_eq_true.1 hp o ho) hl ?_
 rw [ha,hs]
 intro g w vs hok hfr hrel
 rcases hc g w vs hok hfr hrel with ⟨v,w',g',r,st',q1,⟨rfl,rfl⟩,q3⟩|⟨q1,q2⟩
 ·exact .inl ⟨v,w',g',_,_,q1,⟨hb,h⟩,q3⟩
 ·refine .inr ⟨q1,q2.mono ?_⟩
  rintro e w' ⟨v,g',r,st',e1,⟨rfl,rfl⟩,q3⟩
  exact ⟨v,g',_,_,e1,⟨hb,h⟩,q3⟩
end
end Go.Vm
section
namespace Go.Proofs.YtajammoepjpiiaaGreat
open Go.Vm
set_option maxRecDepth 2000000
def aEo (s:bo):Bool:=decide ((s.type.toNat:Int)=2) || (decide ((s.type.toNat:Int)=15) || decide ((s.type.toNat:Int)=33))
def mb (l:List c0):List Name:=l.flatMap fun d=>d.names
def Co (s:bo):List Name:=if aEo s=true then mb s.data else []
def k9 (l:List bo):List Name:=l.flatMap Co
def aEp (ans:List bo) (s:bo):Bool:=ans.any fun x=>decide ((x.type.toNat:Int)=s.type.toNat) && fi x.owner s.owner
def ax4 (z:be) (ans l:List bo):List bo:=(aE2 z (k9 l)).filter fun s=>!aEp ans s
def D4 (l:List Name) (n:Name):Bool:=l.any fun m=>fi m n
noncomputable def aro (z:be) (t:UInt16):Nat→Name→List Name→List bo→ph
 |0,_,_,ans=>Bm 0 true ans [] []
 |k+1,n,seen,ans=>
  let x:=tc z n t (jj z n).1
  if x.turn=0 then Bm 0 true (ans++x.ar) [] (ax4 z (ans++x.ar) x.ar)
  else if x.turn=3 then Bm 3 true ans [nf z] []
  else if x.turn=2 then Bm 0 true ans [nf z] []
  else if x.turn=4 then Bm 0 (decide (0<ans.length)) ans x.ar (ax4 z ans x.ar)
  else if dr x.to z.origin=false then Bm 0 true (ans++x.ar) [] []
  else if D4 (seen++[n]) x.to=true then Bm 0 true (ans++x.ar) [] []
  else aro z t k x.to (seen++[n]) (ans++x.ar)
noncomputable def ofV (z:be) (n:Name) (t:UInt16):ph × Int:=
 if (qk z n t).2≠0 then (Bm 0 false [] [] [],(qk z n t).2) else (aro z t 16 n [] [],0)
theorem Jg {l:List c0} {i:Nat} {c:c0} (hc:l[i]? = some c):mb (l.take (i+1))=mb (l.take i)++c.names:=by
 obtain ⟨hi,rfl⟩:=List.getElem?_eq_some_iff.1 hc
 rw [List.take_succ_eq_append_getElem hi,mb,List.flatMap_append];simp [mb]
end Go.Proofs.YtajammoepjpiiaaGreat
end
section
namespace Go.Proofs.YtajammoepjpiiaaGreat
open Go.Vm
theorem afn {a b b':Name} (h:fi b b'=true):dr a b=dr a b':=by simp only [dr,Dn.1 h]
theorem at_mem {z:be} {n:Name} {s:bo} (h:s ∈ kg z n):s ∈ z.ar∧fi s.owner n=true:=List.mem_filter.1 h
theorem afg {l:List Name} (h:vg l=0):∀ n ∈ l,dt n=0:=by
 induction l with
 |nil=>intro n hn;cases hn
 |cons a l ih=>
  intro n hn
  rw [vg] at h
  split at h
  ·contradiction
  ·rename_i q
   rcases List.mem_cons.1 hn with rfl|hn
   ·omega
   ·exact ih h n hn
theorem acb {t:UInt16} {d:c0} (h:gj t d=0):∀ n ∈ d.names,dt n=0:=by
 unfold gj at h
 split at h
 ·cases h
 split at h
 ·cases h
 split at h
 ·contradiction
 ·rename_i q;exact afg (by omega)
theorem asc {z:be} (h:fq z=0) {y:bo} (hy:y ∈ z.ar) (ht:(y.type.toNat:Int)=5):∃ d m,y.data=[d]∧d.names=[m]∧dt m=0:=by
 have hg:=Qk h
 obtain ⟨k,hk,rfl⟩:=List.getElem_of_mem hy
 have ha:=hg.alone k _ (List.getElem?_eq_getElem hk)
 unfold jn at ha
 rw [if_neg (by omega)] at ha
 split at ha
 ·cases ha
 rename_i hl
 have he:=Di h _ hy
 have hall:=Um he
 cases hd:(z.ar[k]).data with
 |nil=>rw [hd] at hl;simp at hl
 |cons d r=>
  have hr:r=[]:=by
   rw [hd] at hl
   simp only [List.length_cons] at hl
   exact List.eq_nil_of_length_eq_zero (by omega)
  subst hr
  have hde:gj (z.ar[k]).type d=0:=hall d (by rw [hd];simp)
  have hn:=(El hde).1
  have h2:(jm (z.ar[k]).type).names=1:=by unfold jm;rw [ht];rfl
  rw [h2] at hn
  cases hm:d.names with
  |nil=>rw [hm] at hn;simp at hn
  |cons m r2=>
   have:r2=[]:=by rw [hm] at hn;simp only [List.length_cons] at hn;exact List.eq_nil_of_length_eq_zero (by omega)
   subst this
   exact ⟨d,m,rfl,hm,acb hde m (by rw [hm];simp)⟩
theorem Jt {α:Type} (f : α→Nat) (a b:List α):fp f (a++b)=fp f a+fp f b:=by
 induction a with
 |nil=>simp [fp]
 |cons x a ih=>simp only [fp,List.cons_append,List.foldr_cons] at ih ⊢;omega
theorem U6 {α:Type} (f : α→Nat) (p : α→Bool) (l:List α):fp f (l.filter p)≤fp f l:=by
 induction l with
 |nil=>exact Nat.le_refl _
 |cons x l ih=>
  rw [List.filter_cons]
  split
  ·simp only [fp,List.foldr_cons] at ih ⊢;omega
  ·simp only [fp,List.foldr_cons] at ih ⊢;omega
theorem Gn (l:List c0):fp bw (mb l)≤fp v8 l:=by
 induction l with
 |nil=>exact Nat.le_refl _
 |cons d l ih=>
  have h:mb (d::l)=d.names++mb l:=by simp [mb]
  rw [h,Jt]
  have h2:fp bw d.names≤v8 d:=by unfold v8;omega
  simp only [fp,List.foldr_cons] at ih h2 ⊢;omega
theorem aj9 (s:bo):fp bw (Co s)≤lh s:=by
 unfold Co
 split
 ·have:=Gn s.data;unfold lh;omega
 ·exact Nat.zero_le _
theorem Xn (l:List bo):fp bw (k9 l)≤fp lh l:=by
 induction l with
 |nil=>exact Nat.le_refl _
 |cons s l ih=>
  have h:k9 (s::l)=Co s++k9 l:=by simp [k9]
  rw [h,Jt]
  have h2:=aj9 s
  simp only [fp,List.foldr_cons] at ih h2 ⊢;omega
theorem ajw (n:Name) (l:List bo):k9 (l.map (zl n))=k9 l:=by
 induction l with
 |nil=>rfl
 |cons s l ih=>
  have h:∀ (s:bo) l,k9 (s::l)=Co s++k9 l:=fun s l=>by simp [k9]
  rw [List.map_cons,h,h,ih];rfl
theorem akw {l:List bo} {x:bo} (h:x ∈ l):fp bw (k9 [x])≤fp bw (k9 l):=by
 induction l with
 |nil=>cases h
 |cons s l ih=>
  have hc:∀ (s:bo) l,k9 (s::l)=Co s++k9 l:=fun s l=>by simp [k9]
  rw [hc s l,Jt]
  rcases List.mem_cons.1 h with rfl|h
  ·rw [hc,Jt];show _+fp bw (k9 [])≤_;have:fp bw (k9 [])=0:=rfl;omega
  ·have:=ih h;omega
inductive ari (z:be) (n:Name) (t:UInt16):Prop
 |aFa (c:Name) (s:bo) (hc:k8 z n=some c) (hs:s ∈ z.ar) (ht:(s.type.toNat:Int)=2) (ho:fi s.owner c=true) (h:tc z n t (jj z n).1=Ab 4 [s] [])
 |aB7 (hc:k8 z n=none) (h:tc z n t (jj z n).1=Ab 3 [] [])
 |aq8 (hc:k8 z n=none) (h:tc z n t (jj z n).1=Ab 2 [] [])
 |found (hc:k8 z n=none) (l:List bo) (hne:l≠[]) (hln:l.length≤z.ar.length) (hw:fp bw (k9 l)≤fp lh z.ar) (hl:∀ s ∈ l,fi s.owner n=true∧(s.owner=n∨s ∈ z.ar)∧((t.toNat:Int)=255∨(s.type.toNat:Int)=t.toNat)∧∃ y ∈ z.ar,s.data=y.data∧s.type=y.type) (h:tc z n t (jj z n).1=Ab 0 l [])
 |alias (hc:k8 z n=none) (s:bo) (d:c0) (m:Name) (ht:(s.type.toNat:Int)=5) (h5:(t.toNat:Int)≠5) (h255:(t.toNat:Int)≠255) (ho:fi s.owner n=true) (hoz:s.owner=n∨s ∈ z.ar) (hd:s.data=[d]) (hm:d.names=[m]) (he:dt m=0) (hy:∃ y ∈ z.ar,s.data=y.data∧s.type=y.type) (h:tc z n t (jj z n).1=Ab 1 [s] m)
theorem azt {z:be} {n c:Name}:∀ (l:List bo) (b:Option Name),(∀ s ∈ l,s ∈ z.ar)→(∀ m,b=some m→∃ s ∈ z.ar,(s.type.toNat:Int)=2∧s.owner=m)→l.foldl (iq z n) b=some c→∃ s ∈ z.ar,(s.type.toNat:Int)=2∧s.owner=c:=by
 intro l
 induction l with
 |nil=>intro b _ h hc;exact h c hc
 |cons s l ih=>
  intro b hl h hc
  refine ih _ (fun x hx=>hl x (by simp [hx])) (fun m hm=>?_) hc
  unfold iq at hm
  split at hm
  ·rename_i hq
   cases hm
   simp only [Bool.and_eq_true,decide_eq_true_eq] at hq
   exact ⟨s,hl s (by simp),hq.1,rfl⟩
  ·exact h m hm
theorem aln {z:be} {n:Name} {t:UInt16} (h:fq z=0) (hc:k8 z n=none) (L:List bo) (hln:L.length≤z.ar.length) (hw:fp bw (k9 L)≤fp lh z.ar) (hL:∀ s ∈ L,fi s.owner n=true∧(s.owner=n∨s ∈ z.ar)∧∃ y ∈ z.ar,s.data=y.data∧s.type=y.type) (hs:tc z n t (jj z n).1=adh t L):ari z n t:=by
 unfold adh at hs
 split at hs
 ·rename_i q
  exact .found hc L (fun e=>by rw [e] at q;simp at q) hln hw (fun s hs=>⟨(hL s hs).1,(hL s hs).2.1,.inl q.1,(hL s hs).2.2⟩) hs
 rename_i q
 split at hs
 ·rename_i x hx
  have h1:=List.mem_of_find?_eq_some hx
  have h2:=List.find?_some hx
  exact .found hc [x] (by simp) (by have:=List.length_pos_of_mem h1;rw [List.length_singleton];omega) (Nat.le_trans (akw h1) hw) (fun s hs=>by rw [List.mem_singleton] at hs;subst hs;exact ⟨(hL s h1).1,(hL s h1).2.1,.inr (by simpa using h2),(hL s h1).2.2⟩) hs
 ·rename_i hx
  split at hs
  ·rename_i x hx2
   have h1:=List.mem_of_find?_eq_some hx2
   have h2:=List.find?_some hx2
   simp only [Bool.and_eq_true,decide_eq_true_eq] at h2
   obtain ⟨y,hy,hyd,hyt⟩:=(hL x h1).2.2
   obtain ⟨d,m,e1,e2,e3⟩:=asc h hy (by rw [← hyt];exact h2.1)
   rw [← hyd] at e1
   have h5:(t.toNat:Int)≠5:=fun e=>by
    have:=List.find?_eq_none.1 hx x h1
    simp [h2.1,e] at this
   refine .alias hc x d m h2.1 h5 h2.2 (hL x h1).1 (hL x h1).2.1 e1 e2 e3 ⟨y,hy,hyd,hyt⟩ ?_
   rw [hs,e1]
   simp [e2]
  ·exact .aq8 hc hs
theorem Yk {z:be} {n:Name} (t:UInt16) (h:jl z n=0):ari z n t:=by
 obtain ⟨a1,a2,a3⟩:=Gy h
 have hg:=Qk a1
 rcases X7 h with ⟨c,hc,e⟩|⟨hc,hp,hh,e⟩|⟨hc,hp,hh,e⟩|⟨hc,hp,hh,hs,e⟩|⟨hc,hp,hh,hs,e⟩
 ·obtain ⟨s,hs,ht,ho⟩:=azt z.ar none (fun _ h=>h) (fun m hm=>by cases hm) hc
  have hcl:=(afm (hg.cls s hs)).1
  cases hf:jh z.ar c 2 with
  |none=>
   have:=List.find?_eq_none.1 hf s hs
   have hp:vm c 2 s=true:=by unfold vm;rw [decide_eq_true (show (s.type.toNat:Int)=(2:UInt16).toNat from ht),decide_eq_true hcl,ho,aa7];rfl
   exact (this hp).elim
  |some x=>
   obtain ⟨m1,m2,m3,m4⟩:=x6 hf
   exact .aFa c x hc m1 m2 m4 (by rw [e];show Ab 4 [(jh z.ar c 2).getD m5] []=_;rw [hf];rfl)
 ·refine aln a1 hc (kg z n) (u0 _) (Nat.le_trans (Xn _) (U6 _ _ _)) (fun s hs=>⟨(at_mem hs).2,.inr (at_mem hs).1,s,(at_mem hs).1,rfl,rfl⟩) ?_
  rw [e];rfl
 ·exact .aq8 hc (by rw [e];rfl)
 ·refine aln a1 hc ((kg z (vk::ec z n)).map (zl n)) (by rw [List.length_map];exact u0 _) (by rw [ajw];exact Nat.le_trans (Xn _) (U6 _ _ _)) (fun s hs=>?_) ?_
  ·obtain ⟨y,hy,rfl⟩:=List.mem_map.1 hs
   exact ⟨aa7 n,.inl rfl,y,(at_mem hy).1,rfl,rfl⟩
  ·rw [e];rfl
 ·exact .aB7 hc (by rw [e];rfl)
end Go.Proofs.YtajammoepjpiiaaGreat
end
section
namespace Go.Proofs.YtajammoepjpiiaaGreat
open Go.Vm
set_option maxRecDepth 2000000
noncomputable def E2 (a b:bo):Bool:=a.data.all fun d=>Cr a.type b.data d
theorem att (a b:bo) (ha:dq a) (hb:dq b):wl PP [aCm] 0 (Tryz.f77.body.getD .skip) (dj PP Tryz.f77.results.toList (fun r st=>(r1 bn).get true st.h r=some (E2 a b))) (b9 0 [ak.val false a,ak.val false b]) (bq []):=by
 have hl:=ha.data.len
 unfold Tryz.f77
 simp only [jq]
 simp only [↓wR,RA,simprocAttr,TF,ae]
 refine di [2,3,8,9,10] (fun (i:Nat)=>[.ptr 0 0,.ptr 1 0,.vl false 4 (a.data.map (bz.val false)),.sc (.int .i64 (a.data.length)),.sc (.int .i64 (i))]) (fun _=>[some (.row [.vl false 1 (a.owner.map (aq.val false)),.sc (.int .u16 a.type.toNat),.sc (.int .u16 a.cls.toNat),.sc (.int .u32 a.ot.toNat),.vl false 4 (a.data.map (bz.val false))] 0 2 40),some (.row [.vl false 1 (b.owner.map (aq.val false)),.sc (.int .u16 b.type.toNat),.sc (.int .u16 b.cls.toNat),.sc (.int .u32 b.ot.toNat),.vl false 4 (b.data.map (bz.val false))] 0 2 40)]) (fun i=>i≤a.data.length∧E2 a b=(a.data.drop i).all fun d=>Cr a.type b.data d) (fun i=>a.data.length - i) 0 ⟨Nat.zero_le _,rfl⟩ (by simp only [↓wR,RA,simprocAttr,TF,ae]<;>rfl) (by simp only [↓wR,RA,simprocAttr,TF,ae]<;>rfl) ?_
 rintro i ⟨hi,hx⟩
 simp only [↓wR,RA,simprocAttr,TF,ae]
 rw [bm];refine ⟨fun h=>?_,fun h=>?_⟩
 ·obtain ⟨c,hc,hd1,hlt⟩:=dv (decide_eq_true h)
  rw [hd1,List.all_cons] at hx
  have hcs:=ha.data.mem c (List.mem_of_getElem? hc)
  simp only [↓wR,RA,simprocAttr,TF,ae,h,hc,P9,hb.data,hcs]
  rw [br];refine ⟨fun h1=>?_,fun h1=>?_⟩
  ·have h1':Cr a.type b.data c=false:=by simpa only [Bool.not_eq_true'] using h1
   rw [h1',Bool.false_and] at hx
   simp only [↓wR,RA,simprocAttr,TF,ae,h1]
   rw [hx]<;>rfl
  ·have h1':Cr a.type b.data c=true:=by simpa only [Bool.not_eq_false'] using h1
   rw [h1',Bool.true_and] at hx
   simp only [↓wR,RA,simprocAttr,TF,ae,h1];repeat (simp (disch:=omega) only [ah,cb,cd,cg,cf];try simp only [↓wR,RA,simprocAttr,TF,ae,h1])
   exact ⟨i+1,⟨hlt,hx⟩,by omega,by (first|rfl|trivial|omega|((try (simp (disch:=omega) only [ah]));(try (simp only [FB]));first|done|rfl|omega))⟩
 ·rw [dz (decide_eq_false h),List.all_nil] at hx
  simp only [↓wR,RA,simprocAttr,TF,ae,h]
  rw [hx]<;>rfl
noncomputable def Ce (x:bo × bo × Unit):Option AV:=if dq x.1∧dq x.2.1 then some ((r1 bn).E true (E2 x.1 x.2.1)) else none
set_option maxRecDepth 2000000 in
theorem ahb (x:bo × bo × Unit) (r:AV) (h:Ce x=some r):bc PP 77 ((aC ak (aC ak a0)).E x) r:=by
 by_cases hc:dq x.1∧dq x.2.1
 case neg=>simp only [Ce,if_neg hc] at h;cases h
 simp only [Ce,if_pos hc] at h
 cases h
 exact ba (aj.cons (ai aah) (aj.nil PP)) Tryz.func77 (by kernel_rfl) (by kernel_rfl) (by kernel_rfl) (Nat.le_of_ble_eq_true (by kernel_rfl)) (r1 bn) true (E2 x.1 x.2.1) (att x.1 x.2.1 hc.1 hc.2)
noncomputable abbrev az0:Nat × Bool × (List AV→M AV):=(77,true,cx (aC ak (aC ak a0)) Ce)
noncomputable def wb (a b:bo):Bool:=decide ((a.type.toNat:Int)=b.type.toNat) && (decide ((a.cls.toNat:Int)=b.cls.toNat) && (fi a.owner b.owner && (E2 a b && E2 b a)))
theorem aj3 (a b:bo) (ha:dq a) (hb:dq b):wl PP [dx,az0] 0 (Tryz.f38.body.getD .skip) (dj PP Tryz.f38.results.toList (fun r st=>(r1 bn).get true st.h r=some (wb a b))) (b9 0 [ak.val false a,ak.val false b]) (bq []):=by
 unfold Tryz.f38
 simp only [jq]
 unfold wb
 simp only [↓wR,RA,simprocAttr,TF,ae]
 rw [c9];refine ⟨fun ⟨h1,e1⟩=>?_,fun ⟨h1,e1⟩=>?_⟩
 ·rw [decide_eq_true e1,Bool.true_and]
  simp only [↓wR,RA,simprocAttr,TF,ae,h1]
  rw [c9];refine ⟨fun ⟨h2,e2⟩=>?_,fun ⟨h2,e2⟩=>?_⟩
  ·rw [decide_eq_true e2,Bool.true_and]
   simp only [↓wR,RA,simprocAttr,TF,ae,h2,jc,ha.owner,hb.owner]
   rw [br];refine ⟨fun h3=>?_,fun h3=>?_⟩
   ·rw [h3,Bool.true_and]
    simp only [↓wR,RA,simprocAttr,TF,ae,h3,Ce,ha,hb]
    rw [br];refine ⟨fun h4=>?_,fun h4=>?_⟩
    ·rw [h4,Bool.true_and]
     simp only [↓wR,RA,simprocAttr,TF,ae,h4,Ce,ha,hb]
    ·rw [h4,Bool.false_and]
     simp only [↓wR,RA,simprocAttr,TF,ae,h4]
   ·rw [h3,Bool.false_and]
    simp only [↓wR,RA,simprocAttr,TF,ae,h3]
  ·rw [decide_eq_false e2,Bool.false_and]
   simp only [↓wR,RA,simprocAttr,TF,ae,h2]
 ·rw [decide_eq_false e1,Bool.false_and]
  simp only [↓wR,RA,simprocAttr,TF,ae,h1]
noncomputable def E6 (x:bo × bo × Unit):Option AV:=if dq x.1∧dq x.2.1 then some ((r1 bn).E true (wb x.1 x.2.1)) else none
set_option maxRecDepth 2000000 in
theorem Sx (x:bo × bo × Unit) (r:AV) (h:E6 x=some r):bc PP 38 ((aC ak (aC ak a0)).E x) r:=by
 by_cases hc:dq x.1∧dq x.2.1
 case neg=>simp only [E6,if_neg hc] at h;cases h
 simp only [E6,if_pos hc] at h
 cases h
 exact ba (aj.cons (ai gi) (aj.cons (ai ahb) (aj.nil PP))) Tryz.func38 (by kernel_rfl) (by kernel_rfl) (by kernel_rfl) (Nat.le_of_ble_eq_true (by kernel_rfl)) (r1 bn) true (wb x.1 x.2.1) (aj3 x.1 x.2.1 hc.1 hc.2)
noncomputable abbrev aqw:Nat × Bool × (List AV→M AV):=(38,true,cx (aC ak (aC ak a0)) E6)
def Mi (w:bk):Nat:=fp xn w.az+(fp (fun h:ou=>h.az.length) w.dc+w.hints.length)
def c6 (w:bk):Prop:=Mi w≤5242880
instance (w:bk):Decidable (c6 w):=inferInstanceAs (Decidable (_≤_))
theorem c6.zone {w:bk} (h:c6 w):∀ z ∈ w.az,cy z:=fun z hz=>by
 have h1:xn z<fp xn w.az:=rp hz
 unfold c6 Mi at h;unfold cy;omega
theorem c6.wt {w:bk} (h:c6 w):∀ z ∈ w.az,xn z≤5242880:=fun z hz=>by
 have h1:xn z<fp xn w.az:=rp hz
 unfold c6 Mi at h;omega
theorem c6.Bw {w:bk} (h:c6 w):w.az.length≤16777216:=by have:=ru xn w.az;unfold c6 Mi at h;omega
theorem c6.hlen {w:bk} (h:c6 w):w.dc.length≤16777216:=by have:=ru (fun h:ou=>h.az.length) w.dc;unfold c6 Mi at h;omega
theorem c6.aEl {w:bk} (h:c6 w):w.hints.length≤16777216:=by unfold c6 Mi at h;omega
theorem c6.host {w:bk} (h:c6 w):∀ x ∈ w.dc,x.az.length≤16777216:=fun x hx=>by
 have h1:x.az.length<fp (fun h:ou=>h.az.length) w.dc:=rp (f:=fun h:ou=>h.az.length) hx
 unfold c6 Mi at h;omega
def J4 (b:Option (Nat × Nat)) (k:Nat):Bool:=match b with|none=>true|some p=>decide (p.2<k)
def p9 (n:Name) (b:Option (Nat × Nat)) (i:Nat) (z:be):Option (Nat × Nat):=
 if (dr n z.origin && J4 b z.origin.length)=true then some (i,z.origin.length) else b
def H9 (n:Name):List be→Nat→Option (Nat × Nat)→Option (Nat × Nat)
 | [],_,b=>b
 |z::r,i,b=>H9 n r (i+1) (p9 n b i z)
def T1 (w:bk) (n:Name):Option (Nat × Nat):=H9 n w.az 0 none
def Yd (b:Option (Nat × Nat)):Int:=match b with|none=>-1|some p=>(p.1:Int)
def pz (w:bk) (n:Name):Int:=Yd (T1 w n)
theorem aAs {l:List be} {i:Nat} {c:be} (n:Name) (k:Nat) (b) (h:l.drop i=c::l.drop (i+1)):H9 n (l.drop i) k b=H9 n (l.drop (i+1)) (k+1) (p9 n b k c):=by rw [h];rfl
theorem aA3 (k:Nat):decide ((k:Int)<0)=false:=decide_eq_false (by omega)
set_option maxHeartbeats 4000000 in
theorem av4 (w:bk) (n:Name) (hw:c6 w) (hn:bj n):wl PP [uv] 0 (Tryz.f52.body.getD .skip) (dj PP Tryz.f52.results.toList (fun r st=>(r1 (ay .i64)).get true st.h r=some (pz w n))) (b9 0 [cr.val false w,aw.val false n]) (bq []):=by
 have hl:=hw.Bw
 have hq:∀ a b c d,ea a b c=d→ea a b c=d:=fun _ _ _ _ h=>h
 unfold Tryz.f52
 simp only [ed,dm]
 simp only [↓wR,RA,simprocAttr,TF,ae]
 refine di [1,2,5,9,10,11] (fun (x:Nat × Option (Nat × Nat))=>[.vl false 1 (n.map (aq.val false)),.ptr 0 0,.sc (.int .i64 (Yd x.2)),.vl false 2 (w.az.map (bf.val false)),.sc (.int .i64 (w.az.length)),.sc (.int .i64 (x.1))]) (fun _=>[some (.row [.vl false 2 (w.az.map (bf.val false)),.vl false 2 (w.dc.map (c8.val false)),.vl false 1 (w.hints.map (bg.val false))] 0 2 50)]) (fun x=>x.1≤w.az.length∧T1 w n=H9 n (w.az.drop x.1) x.1 x.2∧∀ p,x.2=some p→∃ y,w.az[p.1]? = some y∧y.origin.length=p.2) (fun x=>w.az.length - x.1) (0,none) ⟨Nat.zero_le _,rfl,fun p h=>by cases h⟩ (by simp only [↓wR,RA,simprocAttr,TF,ae,Yd]<;>rfl) (by simp only [↓wR,RA,simprocAttr,TF,ae]<;>rfl) ?_
 rintro ⟨i,b⟩ ⟨hi,hx,hb⟩
 simp only at hi hx hb
 simp only [↓wR,RA,simprocAttr,TF,ae]
 rw [bm];refine ⟨fun h=>?_,fun h=>?_⟩
 ·obtain ⟨c,hc,hd1,hlt⟩:=dv (decide_eq_true h)
  rw [aAs n i b hd1] at hx
  have hcs:=(hw.zone c (List.mem_of_getElem? hc)).origin
  have step:∀ b',p9 n b i c=b'→T1 w n=H9 n (w.az.drop (i+1)) (i+1) b':=fun b' e=>by rw [hx,e]
  simp only [↓wR,RA,simprocAttr,TF,ae,h,hc]
  refine ⟨by kernel_rfl,.inl ?_⟩
  simp only [↓wR,RA,simprocAttr,TF,ae,mn,hn,hcs]
  rw [br];refine ⟨fun h1=>?_,fun h1=>?_⟩
  ·cases b with
   |none=>
    have st:=step (some (i,c.origin.length)) (by simp [p9,h1,J4])
    simp only [↓wR,RA,simprocAttr,TF,ae,h1,Yd];repeat (simp (disch:=omega) only [ah,cb,cd,cg,cf];try simp only [↓wR,RA,simprocAttr,TF,ae,h1,Yd])
    exact ⟨by apply hq;kernel_rfl,(i+1,some (i,c.origin.length)),⟨hlt,st,fun p hp=>by cases hp;exact ⟨c,hc,rfl⟩⟩,by simp;omega,by (first|rfl|trivial|omega|((try (simp (disch:=omega) only [ah]));(try (simp only [FB]));first|done|rfl|omega))⟩
   |some p=>
    obtain ⟨k,m⟩:=p
    obtain ⟨y,hy,hym⟩:=hb _ rfl
    simp only at hy hym
    have hyl:=List.mem_of_getElem? hy
    simp only [↓wR,RA,simprocAttr,TF,ae,h1,Yd,aA3,hy]
    refine ⟨by apply hq;kernel_rfl,?_⟩
    rw [bm];refine ⟨fun h2=>?_,fun h2=>?_⟩
    ·have st:=step (some (i,c.origin.length)) (by simp [p9,h1,J4];omega)
     simp only [↓wR,RA,simprocAttr,TF,ae,h2];repeat (simp (disch:=omega) only [ah,cb,cd,cg,cf];try simp only [↓wR,RA,simprocAttr,TF,ae,h2])
     exact ⟨(i+1,some (i,c.origin.length)),⟨hlt,st,fun p hp=>by cases hp;exact ⟨c,hc,rfl⟩⟩,by simp;omega,by (first|rfl|trivial|omega|((try (simp (disch:=omega) only [ah]));(try (simp only [FB]));first|done|rfl|omega))⟩
    ·have st:=step (some (k,m)) (by simp [p9,h1,J4];omega)
     simp only [↓wR,RA,simprocAttr,TF,ae,h2];repeat (simp (disch:=omega) only [ah,cb,cd,cg,cf];try simp only [↓wR,RA,simprocAttr,TF,ae,h2])
     exact ⟨(i+1,some (k,m)),⟨hlt,st,hb⟩,by simp;omega,by (first|rfl|trivial|omega|((try (simp (disch:=omega) only [ah]));(try (simp only [FB]));first|done|rfl|omega))⟩
  ·have st:=step b (by simp [p9,h1])
   simp only [↓wR,RA,simprocAttr,TF,ae,h1];repeat (simp (disch:=omega) only [ah,cb,cd,cg,cf];try simp only [↓wR,RA,simprocAttr,TF,ae,h1])
   exact ⟨by apply hq;kernel_rfl,(i+1,b),⟨hlt,st,hb⟩,by simp;omega,by (first|rfl|trivial|omega|((try (simp (disch:=omega) only [ah]));(try (simp only [FB]));first|done|rfl|omega))⟩
 ·rw [dz (decide_eq_false h)] at hx
  simp only [↓wR,RA,simprocAttr,TF,ae,h]
  rw [pz,hx]<;>rfl
noncomputable def zw (x:bk × Name × Unit):Option AV:=if c6 x.1∧bj x.2.1 then some ((r1 (ay .i64)).E true (pz x.1 x.2.1)) else none
set_option maxRecDepth 2000000 in
theorem Ct (x:bk × Name × Unit) (r:AV) (h:zw x=some r):bc PP 52 ((aC cr (aC aw a0)).E x) r:=by
 by_cases hc:c6 x.1∧bj x.2.1
 case neg=>simp only [zw,if_neg hc] at h;cases h
 simp only [zw,if_pos hc] at h
 cases h
 exact ba (aj.cons (ai nj) (aj.nil PP)) Tryz.func52 (by kernel_rfl) (by kernel_rfl) (by kernel_rfl) (Nat.le_of_ble_eq_true (by kernel_rfl)) (r1 (ay .i64)) true (pz x.1 x.2.1) (av4 x.1 x.2.1 hc.1 hc.2)
noncomputable abbrev V2:Nat × Bool × (List AV→M AV):=(52,true,cx (aC cr (aC aw a0)) zw)
def ng (w:bk) (i:Int):Option be:=if 0≤i then w.az[i.toNat]? else none
theorem aie {w:bk} {n:Name} {p:Nat × Nat} (h:T1 w n=some p):∃ y,w.az[p.1]? = some y∧y.origin.length=p.2∧dr n y.origin=true:=by
 have key:∀ (l:List be) (i:Nat) (b:Option (Nat × Nat)),(∀ k z,l[k]? = some z→w.az[i+k]? = some z)→(∀ p,b=some p→∃ y,w.az[p.1]? = some y∧y.origin.length=p.2∧dr n y.origin=true)→∀ p,H9 n l i b=some p→∃ y,w.az[p.1]? = some y∧y.origin.length=p.2∧dr n y.origin=true:=by
  intro l
  induction l with
  |nil=>intro i b _ hb p hp;exact hb p hp
  |cons z l ih=>
   intro i b hl hb p hp
   refine ih (i+1) (p9 n b i z) (fun k y hy=>by rw [show i+1+k=i+(k+1) from by omega];exact hl (k+1) y (by simpa using hy)) (fun q hq=>?_) p hp
   unfold p9 at hq
   split at hq
   ·rename_i h1
    rw [Bool.and_eq_true] at h1
    cases hq
    exact ⟨z,hl 0 z rfl,rfl,h1.1⟩
   ·exact hb q hq
 exact key w.az 0 none (fun k z hz=>by rw [Nat.zero_add];exact hz) (fun p h=>by cases h) p h
theorem au3 {w:bk} {n:Name} (h:¬ pz w n<0):∃ (k:Nat) (y:be),pz w n=(k:Int)∧w.az[k]? = some y∧dr n y.origin=true:=by
 unfold pz at h ⊢
 cases ho:T1 w n with
 |none=>rw [ho] at h;exact (h (by decide)).elim
 |some p=>
  obtain ⟨y,h1,_,h2⟩:=aie ho
  exact ⟨p.1,y,rfl,h1,h2⟩
def Jw (w:bk) (n:Name):Int × Int:=if dt n≠0 then (0,dt n) else if pz w n<0 then (0,9) else (pz w n,0)
theorem atx (w:bk) (n:Name) (hw:c6 w) (hn:bj n):wl PP [en,V2] 0 (Tryz.f18.body.getD .skip) (dj PP Tryz.f18.results.toList (fun r st=>(r2 (ay .i64) (ay .i64)).get true st.h r=some (Jw w n))) (b9 0 [cr.val false w,aw.val false n]) (bq []):=by
 unfold Tryz.f18
 simp only [ed,dm]
 simp only [↓wR,RA,simprocAttr,TF,ae,mz,hn.fit]
 unfold Jw
 rw [br];refine ⟨fun h=>?_,fun h=>?_⟩
 ·have he:dt n≠0:=by simpa using h
  rw [if_pos he]
  simp only [↓wR,RA,simprocAttr,TF,ae,h]
 have he:dt n=0:=by simpa using h
 rw [if_neg (by omega)]
 simp only [↓wR,RA,simprocAttr,TF,ae,h,zw,hw,hn]
 rw [bm];refine ⟨fun h2=>?_,fun h2=>?_⟩
 ·rw [if_pos h2]
  simp only [↓wR,RA,simprocAttr,TF,ae,h2]
 ·rw [if_neg h2]
  simp only [↓wR,RA,simprocAttr,TF,ae,h2]
noncomputable def Ga (x:bk × Name × Unit):Option AV:=if c6 x.1∧bj x.2.1 then some ((r2 (ay .i64) (ay .i64)).E true (Jw x.1 x.2.1)) else none
set_option maxRecDepth 2000000 in
theorem aha (x:bk × Name × Unit) (r:AV) (h:Ga x=some r):bc PP 18 ((aC cr (aC aw a0)).E x) r:=by
 by_cases hc:c6 x.1∧bj x.2.1
 case neg=>simp only [Ga,if_neg hc] at h;cases h
 simp only [Ga,if_pos hc] at h
 cases h
 exact ba (aj.cons (ai ld) (aj.cons (ai Ct) (aj.nil PP))) Tryz.func18 (by kernel_rfl) (by kernel_rfl) (by kernel_rfl) (Nat.le_of_ble_eq_true (by kernel_rfl)) (r2 (ay .i64) (ay .i64)) true (Jw x.1 x.2.1) (atx x.1 x.2.1 hc.1 hc.2)
noncomputable abbrev azu:Nat × Bool × (List AV→M AV):=(18,true,cx (aC cr (aC aw a0)) Ga)
def ui (w:bk) (i:Int):Int × Int:=
 match ng w i with
 |none=>(0,9)
 |some z=>if (nr z.origin).2≠0 then (0,9) else if pz w (nr z.origin).1<0 then (0,9) else (pz w (nr z.origin).1,0)
theorem pd (w:bk) (k:Nat):ng w (k:Int)=w.az[k]? := by unfold ng;rw [if_pos (by omega),Int.toNat_natCast]
theorem Kr {w:bk} {i:Int} (h:i<0):ng w i=none:=by unfold ng;rw [if_neg (by omega)]
theorem U9 {w:bk} {i:Int} (h:(w.az.length:Int)≤i):ng w i=none:=by unfold ng;rw [if_pos (by omega)];exact List.getElem?_eq_none (by omega)
theorem aat {w:bk} {i:Int} (h:¬ i<0) (h2:¬ i ≥ (w.az.length:Int)):∃ (k:Nat) (z:be),i=(k:Int)∧w.az[k]? = some z:=⟨i.toNat,w.az[i.toNat]'(by omega),by omega,List.getElem?_eq_getElem _⟩
theorem ags {n:Name} (h:bj n):bj (nr n).1:=by
 unfold nr
 split
 ·show bw []≤16777216;decide
 ·split
  ·show bw []≤16777216;decide
  ·cases n with
   |nil=>exact h
   |cons a r=>
    have h1:=kb [a] r
    have h2:bw [a]=a.size+2:=by simp [bw];omega
    have h3:=(j7 r 0).2
    simp only [List.singleton_append] at h1
    unfold bj at *
    show bw r≤16777216
    omega
set_option maxHeartbeats 4000000 in
theorem apx (w:bk) (i:Int) (hw:c6 w):wl PP [an0,V2] 0 (Tryz.f20.body.getD .skip) (dj PP Tryz.f20.results.toList (fun r st=>(r2 (ay .i64) (ay .i64)).get true st.h r=some (ui w i))) (b9 0 [cr.val false w,(ay .i64).val false i]) (bq []):=by
 unfold Tryz.f20
 simp only [ed]
 unfold ui
 simp only [↓wR,RA,simprocAttr,TF,ae]
 rw [bm];refine ⟨fun h=>?_,fun h=>?_⟩
 ·rw [Kr h]
  simp only [↓wR,RA,simprocAttr,TF,ae,h]
 simp only [↓wR,RA,simprocAttr,TF,ae,h]
 rw [bm];refine ⟨fun h2=>?_,fun h2=>?_⟩
 ·rw [U9 h2]
  simp only [↓wR,RA,simprocAttr,TF,ae,h2]
 obtain ⟨k,z,rfl,hz⟩:=aat h h2
 have hzs:=(hw.zone z (List.mem_of_getElem? hz)).origin
 have hps:=ags hzs
 rw [pd,hz]
 simp only
 rcases hp:nr z.origin with ⟨up,e⟩
 rw [hp] at hps
 simp only [↓wR,RA,simprocAttr,TF,ae,h2,hz,yn,hzs,hp]
 rw [br];refine ⟨fun h3=>?_,fun h3=>?_⟩
 ·have he:e≠0:=by simpa using h3
  rw [if_pos he]
  simp only [↓wR,RA,simprocAttr,TF,ae,h3]
 have he:e=0:=by simpa using h3
 rw [if_neg (by omega)]
 simp only [↓wR,RA,simprocAttr,TF,ae,h3,zw,hw,hps]
 rw [bm];refine ⟨fun h4=>?_,fun h4=>?_⟩
 ·rw [if_pos h4]
  simp only [↓wR,RA,simprocAttr,TF,ae,h4]
 ·rw [if_neg h4]
  simp only [↓wR,RA,simprocAttr,TF,ae,h4]
noncomputable def Fm (x:bk × Int × Unit):Option AV:=if c6 x.1 then some ((r2 (ay .i64) (ay .i64)).E true (ui x.1 x.2.1)) else none
set_option maxRecDepth 2000000 in
theorem ael (x:bk × Int × Unit) (r:AV) (h:Fm x=some r):bc PP 20 ((aC cr (aC (ay .i64) a0)).E x) r:=by
 by_cases hc:c6 x.1
 case neg=>simp only [Fm,if_neg hc] at h;cases h
 simp only [Fm,if_pos hc] at h
 cases h
 exact ba (aj.cons (ai Wz) (aj.cons (ai Ct) (aj.nil PP))) Tryz.func20 (by kernel_rfl) (by kernel_rfl) (by kernel_rfl) (Nat.le_of_ble_eq_true (by kernel_rfl)) (r2 (ay .i64) (ay .i64)) true (ui x.1 x.2.1) (apx x.1 x.2.1 hc)
noncomputable abbrev aAi:Nat × Bool × (List AV→M AV):=(20,true,cx (aC cr (aC (ay .i64) a0)) Fm)
def mu (w:bk) (n:Name) (t:UInt16):Option bo:=match ng w (pz w n) with|none=>none|some z=>jh z.ar n t
theorem az2 (w:bk) (n:Name) (t:UInt16) (hw:c6 w) (hn:bj n):wl PP [V2,Bi] 0 (Tryz.f88.body.getD .skip) (dj PP Tryz.f88.results.toList (fun r st=>(r2 ak bn).get true st.h r=some ((mu w n t).getD m5,(mu w n t).isSome))) (b9 0 [cr.val false w,aw.val false n,da.val false t]) (bq []):=by
 unfold Tryz.f88
 simp only [ed,dm]
 simp only [↓wR,RA,simprocAttr,TF,ae,zw,hw,hn]
 unfold mu
 rw [bm];refine ⟨fun h=>?_,fun h=>?_⟩
 ·rw [Kr h]
  simp only [↓wR,RA,simprocAttr,TF,ae,h]
  rfl
 obtain ⟨k,z,hk,hz,_⟩:=au3 h
 have hzs:=hw.zone z (List.mem_of_getElem? hz)
 rw [hk] at h ⊢
 rw [pd,hz]
 simp only [↓wR,RA,simprocAttr,TF,ae,h,hz,uh,hzs.mid,hn]
noncomputable def Df (x:bk × Name × UInt16 × Unit):Option AV:=if c6 x.1∧bj x.2.1 then some ((r2 ak bn).E true (((mu x.1 x.2.1 x.2.2.1).getD m5,(mu x.1 x.2.1 x.2.2.1).isSome))) else none
set_option maxRecDepth 2000000 in
theorem Eh (x:bk × Name × UInt16 × Unit) (r:AV) (h:Df x=some r):bc PP 88 ((aC cr (aC aw (aC da a0))).E x) r:=by
 by_cases hc:c6 x.1∧bj x.2.1
 case neg=>simp only [Df,if_neg hc] at h;cases h
 simp only [Df,if_pos hc] at h
 cases h
 exact ba (aj.cons (ai Ct) (aj.cons (ai tl) (aj.nil PP))) Tryz.func88 (by kernel_rfl) (by kernel_rfl) (by kernel_rfl) (Nat.le_of_ble_eq_true (by kernel_rfl)) (r2 ak bn) true (((mu x.1 x.2.1 x.2.2.1).getD m5,(mu x.1 x.2.1 x.2.2.1).isSome)) (az2 x.1 x.2.1 x.2.2.1 hc.1 hc.2)
noncomputable abbrev Vo:Nat × Bool × (List AV→M AV):=(88,true,cx (aC cr (aC aw (aC da a0))) Df)
def Cb (l:List UInt8):Nat:=l.foldl (fun n c=>256 * n+c.toNat) 0
theorem aaa (l:List UInt8) (c:UInt8):Cb (l++[c])=256 * Cb l+c.toNat:=by simp [Cb]
theorem Ol (l:List UInt8):∀ k,k≤l.length→Cb (l.take k)<256 ^ k
 |0,_=>by simp [Cb]
 |k+1,h=>by
  have ih:=Ol l k (by omega)
  rw [List.take_succ_eq_append_getElem (by omega),aaa,Nat.pow_succ]
  have:=(l[k]'(by omega)).toNat_lt
  omega
theorem aBs (a c:Nat) (hc:c<256) : 256 * a ||| c=256 * a+c:=by
 have:=Nat.two_pow_add_eq_or_of_lt (i:=8) hc a
 simpa using this.symm
def A4 (d:c0):UInt32 × Bool:=if d.raw.length=4 then (UInt32.ofNat (Cb d.raw),true) else (0,false)
theorem wrap_u32' (x:Int) (h0 : 0≤x) (h1:x<4294967296):IntKind.u32.wrap x=x:=by
 simp [IntKind.wrap,IntKind.bits,IntKind.signed];omega
theorem avj (d:c0):wl PP [] 0 (Tryz.f92.body.getD .skip) (dj PP Tryz.f92.results.toList (fun r st=>(r2 bg bn).get true st.h r=some (A4 d))) (b9 0 [bz.val false d]) (bq []):=by
 unfold Tryz.f92
 simp only [ku]
 unfold A4
 simp only [↓wR,RA,simprocAttr,TF,ae]
 rw [fg];refine ⟨fun ⟨h,e⟩=>?_,fun ⟨h,e⟩=>?_⟩
 ·rw [if_neg (by omega)]
  simp only [↓wR,RA,simprocAttr,TF,ae,h,W2]
 have h4:d.raw.length=4:=by omega
 rw [if_pos h4]
 simp only [↓wR,RA,simprocAttr,TF,ae,h]
 refine di [4,12,13,14] (fun (x:Nat)=>[.sc (.int .u32 (Cb (d.raw.take x))),.vl false 1 (d.raw.map (cj.val false)),.sc (.int .i64 (d.raw.length)),.sc (.int .i64 (x))]) (fun _=>[]) (fun x=>x≤4) (fun x=>4 - x) 0 (by simp) (by simp only [↓wR,RA,simprocAttr,TF,ae]<;>rfl) (by simp only [↓wR,RA,simprocAttr,TF,ae]<;>rfl) ?_
 intro i hi
 simp only [↓wR,RA,simprocAttr,TF,ae]
 rw [bm];refine ⟨fun h2=>?_,fun h2=>?_⟩
 ·obtain ⟨c,hc,hd1,hlt⟩:=dv (decide_eq_true h2)
  have e1:=Ol d.raw i (by omega)
  have e2:Cb (d.raw.take (i+1))=256 * Cb (d.raw.take i)+c.toNat:=by
   obtain ⟨hk,rfl⟩:=List.getElem?_eq_some_iff.1 hc
   rw [List.take_succ_eq_append_getElem hk,aaa]
  have e3:=c.toNat_lt
  have e4 : 256 ^ i≤256 ^ 3:=Nat.pow_le_pow_right (by omega) (by omega)
  have n1:((↑(Cb (d.raw.take i)) * 256:Int) % 4294967296).toNat=256 * Cb (d.raw.take i):=by omega
  have n2:((c.toNat:Int) % 4294967296).toNat=c.toNat:=by omega
  simp only [↓wR,RA,simprocAttr,TF,ae,h2,hc];repeat (simp (disch:=omega) only [ah,cb,cd,cg,cf];try simp only [↓wR,RA,simprocAttr,TF,ae,h2,hc])
  refine ⟨i+1,by omega,by omega,?_⟩
  rw [e2,wrap_u32' (_ * 256) (by omega) (by omega),n1]
  have n3:((((UInt32.ofNat c.toNat).toNat:Nat):Int) % 4294967296).toNat=c.toNat:=by simp;omega
  have n4:(UInt32.ofNat (256 * Cb (d.raw.take i)+c.toNat)).toNat=256 * Cb (d.raw.take i)+c.toNat:=by simp;omega
  rw [n3,aBs _ _ (by omega),n4]
  rfl
 ·have h5:i=4:=by omega
  subst h5
  have e1:=Ol d.raw 4 (by omega)
  simp only [↓wR,RA,simprocAttr,TF,ae,h2]
  rw [List.take_of_length_le (by omega)] at e1 ⊢
  rw [W2 _ _ _ (by omega) (by omega)]
  simp
noncomputable def ad9 (x:c0 × Unit):Option AV:=some ((r2 bg bn).E true (A4 x.1))
set_option maxRecDepth 2000000 in
theorem aqj (x:c0 × Unit) (r:AV) (h:ad9 x=some r):bc PP 92 ((aC bz a0).E x) r:=by
 cases h
 exact ba (aj.nil PP) Tryz.func92 (by kernel_rfl) (by kernel_rfl) (by kernel_rfl) (Nat.le_of_ble_eq_true (by kernel_rfl)) (r2 bg bn) true (A4 x.1) (avj x.1)
noncomputable abbrev ayp:Nat × Bool × (List AV→M AV):=(92,true,cx (aC bz a0) ad9)
def qw (z:be):List Name:=mb ((jh z.ar z.origin 2).getD m5).data
theorem Ie {z:be} (hz:cy z) (n:Name) (t:UInt16):dq ((jh z.ar n t).getD m5):=by
 cases h:jh z.ar n t with
 |none=>show dq m5;decide
 |some s=>exact hz.set s (x6 h).1
theorem acf (l:List c0):(mb l).length≤fp v8 l:=by have:=ru bw (mb l);have:=Gn l;omega
theorem aAv (z:be) (hz:cy z):wl PP [Bi] 0 (Tryz.f89.body.getD .skip) (dj PP Tryz.f89.results.toList (fun r st=>(r1 (ca aw)).get true st.h r=some (qw z))) (b9 0 [bf.val false z]) (bq []):=by
 unfold Tryz.f89
 simp only [gz]
 have hs:=Ie hz z.origin 2
 unfold qw
 simp only [↓wR,RA,simprocAttr,TF,ae,Oe,uh,hz.mid,hz.origin]
 obtain ⟨s,hsd⟩:∃ s,s=(jh z.ar z.origin 2).getD m5:=⟨_,rfl⟩
 rw [← hsd] at hs ⊢
 have hdl:=hs.data.len
 refine ji [17,18,19,5] (fun (x:Nat × List Name)=>[.vl true 4 (s.data.map (bz.val true)),.sc (.int .i64 (s.data.length)),.sc (.int .i64 (x.1)),.sl 0 0 x.2.length 1]) (fun x=>[some (.row (x.2.map (aw.val true)) 0 0 23)]) (fun x=>x.1≤s.data.length∧x.2=mb (s.data.take x.1)) (fun x=>s.data.length - x.1) (0,[]) ⟨Nat.zero_le _,rfl⟩ (by simp only [↓wR,RA,simprocAttr,TF,ae];(refine jt.lax [] (by first|exact Nat.le_of_ble_eq_true rfl|(simp [cw];omega)) ?_ ?_<;>repeat' first|exact fc.nil|exact c7.nil|exact gu.same _|exact gu.nil _ _ _|exact gu.se _ _|exact c7.refl _ _|apply fc.cons|apply c7.ghost|apply c7.same|apply c7.row)) ?_
 rintro ⟨i,x⟩ ⟨hi,hx⟩
 simp only at hi hx
 simp only [↓wR,RA,simprocAttr,TF,ae]
 rw [bm];refine ⟨fun h=>?_,fun h=>?_⟩
 ·obtain ⟨d,hd,hd1,hlt⟩:=dv (decide_eq_true h)
  have hle:(mb (s.data.take (i+1))).length≤16777216:=by
   have h1:=acf (s.data.take (i+1))
   have h2:=Tq v8 s.data (i+1)
   have h3:fp v8 s.data≤16777216:=hs.data
   omega
  rw [Jg hd,← hx,List.length_append] at hle
  have hlim:(x.length+d.names.length) * 24≤140737488355328:=by omega
  simp only [↓wR,RA,simprocAttr,TF,ae,h,hd,hlim];repeat (simp (disch:=omega) only [ah,cb,cd,cg,cf];try simp only [↓wR,RA,simprocAttr,TF,ae,h,hd,hlim])
  exact ⟨(i+1,x++d.names),⟨hlt,by rw [Jg hd,← hx]⟩,by simp;omega,by (first|rfl|trivial|omega|((try (simp (disch:=omega) only [ah]));(try (simp only [FB]));first|done|rfl|omega)),by (first|rfl|trivial|omega|((try (simp (disch:=omega) only [ah]));(try (simp only [FB]));first|done|rfl|omega))⟩
 ·have hil:i=s.data.length:=by omega
  subst hil
  rw [List.take_length] at hx
  subst hx
  simp only [↓wR,RA,simprocAttr,TF,ae,h]
noncomputable def I2 (x:be × Unit):Option AV:=if cy x.1 then some ((r1 (ca aw)).E true (qw x.1)) else none
set_option maxRecDepth 2000000 in
theorem Wk (x:be × Unit) (r:AV) (h:I2 x=some r):bc PP 89 ((aC bf a0).E x) r:=by
 by_cases hc:cy x.1
 case neg=>simp only [I2,if_neg hc] at h;cases h
 simp only [I2,if_pos hc] at h
 cases h
 exact ba (aj.cons (ai tl) (aj.nil PP)) Tryz.func89 (by kernel_rfl) (by kernel_rfl) (by kernel_rfl) (Nat.le_of_ble_eq_true (by kernel_rfl)) (r1 (ca aw)) true (qw x.1) (aAv x.1 hc)
noncomputable abbrev anp:Nat × Bool × (List AV→M AV):=(89,true,cx (aC bf a0) I2)
theorem afy (l:List Int) (a:Int) (hl:l.length≤281474976710656):wl PP [] 0 (Tryz.f58.body.getD .skip) (dj PP Tryz.f58.results.toList (fun r st=>(r1 bn).get true st.h r=some (l.contains a))) (b9 0 [(ca (ay .i64)).val false l,(ay .i64).val false a]) (bq []):=by
 unfold Tryz.f58
 rw [lu]
 simp only [↓wR,RA,simprocAttr,TF,ae]
 refine bt (T:=[]) (aj.nil PP) mixed Tryz.func95 rfl (by kernel_rfl) (by kernel_rfl) (by kernel_rfl) (by kernel_rfl) ?_;unfold Tryz.f95
 simp only [↓wR,RA,simprocAttr,TF,ae]
 refine di [0,1,7,8] (fun (i:Nat)=>[.vl false 1 (l.map ((ay .i64).val false)),.sc (.int .i64 (a)),.sc (.int .i64 (l.length)),.sc (.int .i64 (i))]) (fun _=>[]) (fun i=>i≤l.length∧l.contains a=(l.drop i).contains a) (fun i=>l.length - i) 0 ⟨Nat.zero_le _,rfl⟩ (by simp only [↓wR,RA,simprocAttr,TF,ae]<;>rfl) (by simp only [↓wR,RA,simprocAttr,TF,ae]<;>rfl) ?_
 rintro i ⟨hi,hx⟩
 simp only [↓wR,RA,simprocAttr,TF,ae]
 rw [bm];refine ⟨fun h=>?_,fun h=>?_⟩
 ·obtain ⟨c,hc,hd1,hlt⟩:=dv (decide_eq_true h)
  rw [hd1,List.contains_cons] at hx
  simp only [↓wR,RA,simprocAttr,TF,ae,h,hc];repeat (simp (disch:=omega) only [ah,cb,cd,cg,cf];try simp only [↓wR,RA,simprocAttr,TF,ae,h,hc])
  rw [c9];refine ⟨fun ⟨h2,e2⟩=>?_,fun ⟨h2,e2⟩=>?_⟩
  ·subst e2
   rw [beq_self_eq_true,Bool.true_or] at hx
   simp only [↓wR,RA,simprocAttr,TF,ae,h2]
   rw [hx]
  ·rw [beq_eq_false_iff_ne.2 e2,Bool.false_or] at hx
   simp only [↓wR,RA,simprocAttr,TF,ae,h2];repeat (simp (disch:=omega) only [ah,cb,cd,cg,cf];try simp only [↓wR,RA,simprocAttr,TF,ae,h2])
   exact ⟨i+1,⟨hlt,hx⟩,by omega,by (first|rfl|trivial|omega|((try (simp (disch:=omega) only [ah]));(try (simp only [FB]));first|done|rfl|omega))⟩
 ·rw [dz (decide_eq_false h)] at hx
  simp only [↓wR,RA,simprocAttr,TF,ae,h]
  rw [hx]<;>rfl
noncomputable def K2 (x:List Int × Int × Unit):Option AV:=if x.1.length≤281474976710656 then some ((r1 bn).E true (x.1.contains x.2.1)) else none
set_option maxRecDepth 2000000 in
theorem De (x:List Int × Int × Unit) (r:AV) (h:K2 x=some r):bc PP 58 ((aC (ca (ay .i64)) (aC (ay .i64) a0)).E x) r:=by
 by_cases hc:x.1.length≤281474976710656
 case neg=>simp only [K2,if_neg hc] at h;cases h
 simp only [K2,if_pos hc] at h
 cases h
 exact ba (aj.nil PP) Tryz.func58 (by kernel_rfl) (by kernel_rfl) (by kernel_rfl) (Nat.le_of_ble_eq_true (by kernel_rfl)) (r1 bn) true (x.1.contains x.2.1) (afy x.1 x.2.1 hc)
noncomputable abbrev ag8:Nat × Bool × (List AV→M AV):=(58,true,cx (aC (ca (ay .i64)) (aC (ay .i64) a0)) K2)
theorem afc (l:List UInt32) (a:UInt32) (hl:l.length≤281474976710656):wl PP [] 0 (Tryz.f93.body.getD .skip) (dj PP Tryz.f93.results.toList (fun r st=>(r1 bn).get true st.h r=some (l.contains a))) (b9 0 [(ca bg).val false l,bg.val false a]) (bq []):=by
 unfold Tryz.f93
 rw [lu]
 simp only [↓wR,RA,simprocAttr,TF,ae]
 refine bt (T:=[]) (aj.nil PP) mixed Tryz.func134 rfl (by kernel_rfl) (by kernel_rfl) (by kernel_rfl) (by kernel_rfl) ?_;unfold Tryz.f134
 simp only [↓wR,RA,simprocAttr,TF,ae]
 refine di [0,1,7,8] (fun (i:Nat)=>[.vl false 1 (l.map (bg.val false)),.sc (.int .u32 a.toNat),.sc (.int .i64 (l.length)),.sc (.int .i64 (i))]) (fun _=>[]) (fun i=>i≤l.length∧l.contains a=(l.drop i).contains a) (fun i=>l.length - i) 0 ⟨Nat.zero_le _,rfl⟩ (by simp only [↓wR,RA,simprocAttr,TF,ae]<;>rfl) (by simp only [↓wR,RA,simprocAttr,TF,ae]<;>rfl) ?_
 rintro i ⟨hi,hx⟩
 simp only [↓wR,RA,simprocAttr,TF,ae]
 rw [bm];refine ⟨fun h=>?_,fun h=>?_⟩
 ·obtain ⟨c,hc,hd1,hlt⟩:=dv (decide_eq_true h)
  rw [hd1,List.contains_cons] at hx
  simp only [↓wR,RA,simprocAttr,TF,ae,h,hc];repeat (simp (disch:=omega) only [ah,cb,cd,cg,cf];try simp only [↓wR,RA,simprocAttr,TF,ae,h,hc])
  rw [c9];refine ⟨fun ⟨h2,e2⟩=>?_,fun ⟨h2,e2⟩=>?_⟩
  ·have e3:a=c:=UInt32.toNat_inj.1 (by omega)
   subst e3
   rw [beq_self_eq_true,Bool.true_or] at hx
   simp only [↓wR,RA,simprocAttr,TF,ae,h2]
   rw [hx]
  ·have e3:¬ a=c:=fun q=>e2 (by rw [q])
   rw [beq_eq_false_iff_ne.2 e3,Bool.false_or] at hx
   simp only [↓wR,RA,simprocAttr,TF,ae,h2];repeat (simp (disch:=omega) only [ah,cb,cd,cg,cf];try simp only [↓wR,RA,simprocAttr,TF,ae,h2])
   exact ⟨i+1,⟨hlt,hx⟩,by omega,by (first|rfl|trivial|omega|((try (simp (disch:=omega) only [ah]));(try (simp only [FB]));first|done|rfl|omega))⟩
 ·rw [dz (decide_eq_false h)] at hx
  simp only [↓wR,RA,simprocAttr,TF,ae,h]
  rw [hx]<;>rfl
noncomputable def Wi (x:List UInt32 × UInt32 × Unit):Option AV:=if x.1.length≤281474976710656 then some ((r1 bn).E true (x.1.contains x.2.1)) else none
set_option maxRecDepth 2000000 in
theorem aq9 (x:List UInt32 × UInt32 × Unit) (r:AV) (h:Wi x=some r):bc PP 93 ((aC (ca bg) (aC bg a0)).E x) r:=by
 by_cases hc:x.1.length≤281474976710656
 case neg=>simp only [Wi,if_neg hc] at h;cases h
 simp only [Wi,if_pos hc] at h
 cases h
 exact ba (aj.nil PP) Tryz.func93 (by kernel_rfl) (by kernel_rfl) (by kernel_rfl) (Nat.le_of_ble_eq_true (by kernel_rfl)) (r1 bn) true (x.1.contains x.2.1) (afc x.1 x.2.1 hc)
noncomputable abbrev aDy:Nat × Bool × (List AV→M AV):=(93,true,cx (aC (ca bg) (aC bg a0)) Wi)
def Aj (acc:List UInt32) (d:c0):List UInt32:=if ((A4 d).2 && !acc.contains (A4 d).1)=true then acc++[(A4 d).1] else acc
def Ki (w:bk) (acc:List UInt32) (n:Name):List UInt32:=((mu w n 1).getD m5).data.foldl Aj acc
def oe (w:bk) (z:be):List UInt32:=(qw z).foldl (Ki w) []
theorem amh {α β:Type} {l:List α} {i:Nat} {c : α} (f : β → α → β) (b : β) (h:l.drop i=c::l.drop (i+1)):(l.drop i).foldl f b=(l.drop (i+1)).foldl f (f b c):=by rw [h];rfl
theorem Ko {z:be} (hz:xn z≤5242880):(qw z).length≤5242880∧∀ n ∈ qw z,bj n:=by
 have hs:lh ((jh z.ar z.origin 2).getD m5)≤5242880:=by
  cases h:jh z.ar z.origin 2 with
  |none=>show lh m5≤5242880;decide
  |some s=>
   have h1:lh s<fp lh z.ar:=rp (x6 h).1
   unfold xn at hz
   show lh s≤5242880;omega
 have h1:=ru bw (qw z)
 have h2:fp bw (qw z)≤fp v8 _:=Gn ((jh z.ar z.origin 2).getD m5).data
 unfold lh at hs
 refine ⟨by omega,fun n hn=>?_⟩
 have h3:bw n<fp bw (qw z):=rp hn
 unfold bj;omega
theorem K8 {w:bk} (hw:c6 w) (n:Name) (t:UInt16):lh ((mu w n t).getD m5)≤5242880:=by
 have h0:lh m5≤5242880:=by decide
 cases hz:ng w (pz w n) with
 |none=>unfold mu;rw [hz];exact h0
 |some z=>
  have hv:mu w n t=jh z.ar n t:=by unfold mu;rw [hz]
  rw [hv]
  cases h:jh z.ar n t with
  |none=>exact h0
  |some s=>
   have hm:z ∈ w.az:=by
    unfold ng at hz
    split at hz
    ·exact List.mem_of_getElem? hz
    ·cases hz
   have h1:lh s<fp lh z.ar:=rp (x6 h).1
   have h2:=hw.wt z hm
   unfold xn at h2
   show lh s≤5242880;omega
set_option maxHeartbeats 4000000 in
theorem aqk (w:bk) (k:Nat) (z:be) (hw:c6 w) (hz:w.az[k]? = some z):wl PP [anp,Vo,ayp,aDy] 0 (Tryz.f55.body.getD .skip) (dj PP Tryz.f55.results.toList (fun r st=>(r1 (ca bg)).get true st.h r=some (oe w z))) (b9 0 [cr.val false w,(ay .i64).val false k]) (bq []):=by
 have hm:=List.mem_of_getElem? hz
 have hzs:=hw.zone z hm
 obtain ⟨hal,han⟩:=Ko (hw.wt z hm)
 have hq:∀ a b c d,ea a b c=d→ea a b c=d:=fun _ _ _ _ h=>h
 unfold Tryz.f55
 simp only [ed]
 simp only [↓wR,RA,simprocAttr,TF,ae,hz,I2,hzs]
 unfold oe
 obtain ⟨ns,hns⟩:∃ ns,ns=qw z:=⟨_,rfl⟩
 rw [← hns] at hal han ⊢
 refine ji [2,19,20,21,5] (fun (x:Nat × List UInt32)=>[.ptr 0 0,.vl true 1 (ns.map (aw.val true)),.sc (.int .i64 (ns.length)),.sc (.int .i64 (x.1)),.sl 1 0 x.2.length 1]) (fun x=>[some (.row [.vl false 2 (w.az.map (bf.val false)),.vl false 2 (w.dc.map (c8.val false)),.vl false 1 (w.hints.map (bg.val false))] 0 2 50),some (.row ((x.2).map (bg.val false)) 0 0 37)]) (fun x=>(x.1≤ns.length∧ns.foldl (Ki w) []=(ns.drop x.1).foldl (Ki w) x.2)∧(x.2.length:Int)≤(x.1:Int) * 5242880) (fun x=>ns.length - x.1) (0,[]) ⟨⟨Nat.zero_le _,rfl⟩,by simp only [List.length_nil];omega⟩ (by simp only [↓wR,RA,simprocAttr,TF,ae];(refine jt.lax [] (by first|exact Nat.le_of_ble_eq_true rfl|(simp [cw];omega)) ?_ ?_<;>repeat' first|exact fc.nil|exact c7.nil|exact gu.same _|exact gu.nil _ _ _|exact gu.se _ _|exact c7.refl _ _|apply fc.cons|apply c7.ghost|apply c7.same|apply c7.row)) ?_
 rintro ⟨i,x⟩ ⟨⟨hi,hx⟩,hb⟩
 simp only at hi hx hb
 simp only [↓wR,RA,simprocAttr,TF,ae]
 rw [bm];refine ⟨fun h=>?_,fun h=>?_⟩
 ·obtain ⟨n,hn,hd1,hlt⟩:=dv (decide_eq_true h)
  rw [amh _ _ hd1] at hx
  have hnn:=han n (List.mem_of_getElem? hn)
  have hts:=K8 hw n 1
  simp only [↓wR,RA,simprocAttr,TF,ae,h,hn,Oe,Df,hw,hnn]
  obtain ⟨s,hs⟩:∃ s,s=(mu w n 1).getD m5:=⟨_,rfl⟩
  have hsrv:Ki w x n=s.data.foldl Aj x:=by unfold Ki;rw [← hs]
  rw [← hs] at hts ⊢
  rw [hsrv] at hx
  have hsl:s.data.length≤5242880:=by have:=ru v8 s.data;unfold lh at hts;omega
  refine ji [2,19,20,21,32,33,34,5] (fun (y:Nat × List UInt32)=>[.ptr 0 0,.vl true 1 (ns.map (aw.val true)),.sc (.int .i64 (ns.length)),.sc (.int .i64 (i)),.vl true 4 (s.data.map (bz.val true)),.sc (.int .i64 (s.data.length)),.sc (.int .i64 (y.1)),.sl 1 0 y.2.length 1]) (fun y=>[some (.row [.vl false 2 (w.az.map (bf.val false)),.vl false 2 (w.dc.map (c8.val false)),.vl false 1 (w.hints.map (bg.val false))] 0 2 50),some (.row ((y.2).map (bg.val false)) 0 0 37)]) (fun y=>(y.1≤s.data.length∧s.data.foldl Aj x=(s.data.drop y.1).foldl Aj y.2)∧(y.2.length:Int)≤(i:Int) * 5242880+(y.1:Int)) (fun y=>s.data.length - y.1) (0,x) ⟨⟨Nat.zero_le _,rfl⟩,by simp only;omega⟩ (by simp only [↓wR,RA,simprocAttr,TF,ae];(refine jt.lax [] (by first|exact Nat.le_of_ble_eq_true rfl|(simp [cw];omega)) ?_ ?_<;>repeat' first|exact fc.nil|exact c7.nil|exact gu.same _|exact gu.nil _ _ _|exact gu.se _ _|exact c7.refl _ _|apply fc.cons|apply c7.ghost|apply c7.same|apply c7.row)) ?_
  rintro ⟨k,y⟩ ⟨⟨hk,hy⟩,hyb⟩
  simp only at hk hy hyb
  simp only [↓wR,RA,simprocAttr,TF,ae]
  rw [bm];refine ⟨fun h2=>?_,fun h2=>?_⟩
  ·obtain ⟨d,hd,hd2,hlt2⟩:=dv (decide_eq_true h2)
   rw [amh _ _ hd2] at hy
   have hyl:y.length≤281474976710656:=by omega
   simp only [↓wR,RA,simprocAttr,TF,ae,h2,hd,ad9]
   rw [br];refine ⟨fun h3=>?_,fun h3=>?_⟩
   ·simp only [↓wR,RA,simprocAttr,TF,ae,h3,Wi,hyl]
    rw [br];refine ⟨fun h4=>?_,fun h4=>?_⟩
    ·have h4':y.contains (A4 d).1=false:=by simpa only [Bool.not_eq_true'] using h4
     have hlim:(y.length+1) * 4≤140737488355328:=by omega
     rw [show Aj y d=y++[(A4 d).1] from by unfold Aj;rw [h3,h4'];rfl] at hy
     simp only [↓wR,RA,simprocAttr,TF,ae,h4,hlim];repeat (simp (disch:=omega) only [ah,cb,cd,cg,cf];try simp only [↓wR,RA,simprocAttr,TF,ae,h4,hlim])
     exact ⟨(k+1,y++[(A4 d).1]),⟨⟨hlt2,hy⟩,by simp only [List.length_append,List.length_singleton];omega⟩,by simp;omega,by (first|rfl|trivial|omega|((try (simp (disch:=omega) only [ah]));(try (simp only [FB]));first|done|rfl|omega)),by (first|rfl|trivial|omega|((try (simp (disch:=omega) only [ah]));(try (simp only [FB]));first|done|rfl|omega))⟩
    ·have h4':y.contains (A4 d).1=true:=by simpa only [Bool.not_eq_false'] using h4
     rw [show Aj y d=y from by unfold Aj;rw [h3,h4'];rfl] at hy
     simp only [↓wR,RA,simprocAttr,TF,ae,h4];repeat (simp (disch:=omega) only [ah,cb,cd,cg,cf];try simp only [↓wR,RA,simprocAttr,TF,ae,h4])
     exact ⟨(k+1,y),⟨⟨hlt2,hy⟩,by simp only;omega⟩,by simp;omega,by (first|rfl|trivial|omega|((try (simp (disch:=omega) only [ah]));(try (simp only [FB]));first|done|rfl|omega)),by (first|rfl|trivial|omega|((try (simp (disch:=omega) only [ah]));(try (simp only [FB]));first|done|rfl|omega))⟩
   ·rw [show Aj y d=y from by unfold Aj;rw [h3];rfl] at hy
    simp only [↓wR,RA,simprocAttr,TF,ae,h3];repeat (simp (disch:=omega) only [ah,cb,cd,cg,cf];try simp only [↓wR,RA,simprocAttr,TF,ae,h3])
    exact ⟨(k+1,y),⟨⟨hlt2,hy⟩,by simp only;omega⟩,by simp;omega,by (first|rfl|trivial|omega|((try (simp (disch:=omega) only [ah]));(try (simp only [FB]));first|done|rfl|omega)),by (first|rfl|trivial|omega|((try (simp (disch:=omega) only [ah]));(try (simp only [FB]));first|done|rfl|omega))⟩
  ·rw [dz (decide_eq_false h2),List.foldl_nil] at hy
   rw [hy] at hx
   have hkl:k=s.data.length:=by omega
   simp only [↓wR,RA,simprocAttr,TF,ae,h2];repeat (simp (disch:=omega) only [ah,cb,cd,cg,cf];try simp only [↓wR,RA,simprocAttr,TF,ae,h2])
   exact ⟨(i+1,y),⟨⟨hlt,hx⟩,by simp only;omega⟩,by simp;omega,by (first|rfl|trivial|omega|((try (simp (disch:=omega) only [ah]));(try (simp only [FB]));first|done|rfl|omega)),by (first|rfl|trivial|omega|((try (simp (disch:=omega) only [ah]));(try (simp only [FB]));first|done|rfl|omega))⟩
 ·rw [dz (decide_eq_false h),List.foldl_nil] at hx
  subst hx
  simp only [↓wR,RA,simprocAttr,TF,ae,h]
def zk (w:bk) (i:Int):List UInt32:=match ng w i with|none=>[]|some z=>oe w z
theorem aj5 (w:bk) (i:Int) (hw:c6 w) (hi:(ng w i).isSome=true):wl PP [anp,Vo,ayp,aDy] 0 (Tryz.f55.body.getD .skip) (dj PP Tryz.f55.results.toList (fun r st=>(r1 (ca bg)).get true st.h r=some (zk w i))) (b9 0 [cr.val false w,(ay .i64).val false i]) (bq []):=by
 have h1:¬ i<0:=fun h=>by rw [Kr h] at hi;cases hi
 have h2:¬ i ≥ (w.az.length:Int):=fun h=>by rw [U9 h] at hi;cases hi
 obtain ⟨k,z,rfl,hz⟩:=aat h1 h2
 have hv:zk w (k:Int)=oe w z:=by unfold zk;rw [pd,hz]
 rw [hv]
 exact aqk w k z hw hz
noncomputable def Xk (x:bk × Int × Unit):Option AV:=if c6 x.1∧(ng x.1 x.2.1).isSome=true then some ((r1 (ca bg)).E true (zk x.1 x.2.1)) else none
set_option maxRecDepth 2000000 in
theorem au4 (x:bk × Int × Unit) (r:AV) (h:Xk x=some r):bc PP 55 ((aC cr (aC (ay .i64) a0)).E x) r:=by
 by_cases hc:c6 x.1∧(ng x.1 x.2.1).isSome=true
 case neg=>simp only [Xk,if_neg hc] at h;cases h
 simp only [Xk,if_pos hc] at h
 cases h
 exact ba (aj.cons (ai Wk) (aj.cons (ai Eh) (aj.cons (ai aqj) (aj.cons (ai aq9) (aj.nil PP))))) Tryz.func55 (by kernel_rfl) (by kernel_rfl) (by kernel_rfl) (Nat.le_of_ble_eq_true (by kernel_rfl)) (r1 (ca bg)) true (zk x.1 x.2.1) (aj5 x.1 x.2.1 hc.1 hc.2)
noncomputable abbrev aG6:Nat × Bool × (List AV→M AV):=(55,true,cx (aC cr (aC (ay .i64) a0)) Xk)
def qb (w:bk) (a:UInt32) (i:Int):Bool:=w.dc.any fun h=>decide ((h.addr.toNat:Int)=a.toNat) && h.az.contains i
theorem atr (w:bk) (a:UInt32) (i:Int) (hw:c6 w):wl PP [ag8] 0 (Tryz.f22.body.getD .skip) (dj PP Tryz.f22.results.toList (fun r st=>(r1 bn).get true st.h r=some (qb w a i))) (b9 0 [cr.val false w,bg.val false a,(ay .i64).val false i]) (bq []):=by
 have hl:=hw.hlen
 unfold Tryz.f22
 simp only [ed]
 simp only [↓wR,RA,simprocAttr,TF,ae]
 refine bt (T:=[]) (aj.nil PP) mixed Tryz.func56 rfl (by kernel_rfl) (by kernel_rfl) (by kernel_rfl) (by kernel_rfl) ?_;unfold Tryz.f56
 simp only [↓wR,RA,simprocAttr,TF,ae]
 refine bt (T:=[]) (aj.nil PP) mixed Tryz.func94 rfl (by kernel_rfl) (by kernel_rfl) (by kernel_rfl) (by kernel_rfl) ?_;unfold Tryz.f94
 simp only [↓wR,RA,simprocAttr,TF,ae]
 refine di [0,1,7,8] (fun (k:Nat)=>[.vl false 2 (w.dc.map (c8.val false)),.fn (.func 57) [] [.ptr 1 0,.ptr 2 0],.sc (.int .i64 (w.dc.length)),.sc (.int .i64 (k))]) (fun _=>[some (.row [.vl false 2 (w.az.map (bf.val false)),.vl false 2 (w.dc.map (c8.val false)),.vl false 1 (w.hints.map (bg.val false))] 0 2 50),some (.row [.sc (.int .u32 a.toNat)] 0 2 37),some (.row [.sc (.int .i64 i)] 0 2 3)]) (fun k=>k≤w.dc.length∧qb w a i=((w.dc.drop k).any fun h=>decide ((h.addr.toNat:Int)=a.toNat) && h.az.contains i)) (fun k=>w.dc.length - k) 0 ⟨Nat.zero_le _,rfl⟩ (by simp only [↓wR,RA,simprocAttr,TF,ae]<;>rfl) (by simp only [↓wR,RA,simprocAttr,TF,ae]<;>rfl) ?_
 rintro k ⟨hk,hx⟩
 simp only [↓wR,RA,simprocAttr,TF,ae]
 rw [bm];refine ⟨fun h3=>?_,fun h3=>?_⟩
 ·obtain ⟨c,hc,hd1,hlt⟩:=dv (decide_eq_true h3)
  rw [hd1,List.any_cons] at hx
  have hcz:c.az.length≤281474976710656:=by have:=hw.host c (List.mem_of_getElem? hc);omega
  simp only [↓wR,RA,simprocAttr,TF,ae,h3,hc];repeat (simp (disch:=omega) only [ah,cb,cd,cg,cf];try simp only [↓wR,RA,simprocAttr,TF,ae,h3,hc])
  refine bt (T:=[ag8]) (aj.cons (ai De) (aj.nil PP)) mixed Tryz.func57 rfl (by kernel_rfl) (by kernel_rfl) (by kernel_rfl) (by kernel_rfl) ?_;unfold Tryz.f57
  simp only [↓wR,RA,simprocAttr,TF,ae]
  rw [c9];refine ⟨fun ⟨h4,e4⟩=>?_,fun ⟨h4,e4⟩=>?_⟩
  ·rw [decide_eq_true e4,Bool.true_and] at hx
   simp only [↓wR,RA,simprocAttr,TF,ae,h4,K2,hcz]
   rw [br];refine ⟨fun h5=>?_,fun h5=>?_⟩
   ·rw [h5,Bool.true_or] at hx
    simp only [↓wR,RA,simprocAttr,TF,ae,h5]
    rw [hx]
   ·rw [h5,Bool.false_or] at hx
    simp only [↓wR,RA,simprocAttr,TF,ae,h5];repeat (simp (disch:=omega) only [ah,cb,cd,cg,cf];try simp only [↓wR,RA,simprocAttr,TF,ae,h5])
    exact ⟨k+1,⟨hlt,hx⟩,by omega,by (first|rfl|trivial|omega|((try (simp (disch:=omega) only [ah]));(try (simp only [FB]));first|done|rfl|omega))⟩
  ·rw [decide_eq_false e4,Bool.false_and,Bool.false_or] at hx
   simp only [↓wR,RA,simprocAttr,TF,ae,h4];repeat (simp (disch:=omega) only [ah,cb,cd,cg,cf];try simp only [↓wR,RA,simprocAttr,TF,ae,h4])
   exact ⟨k+1,⟨hlt,hx⟩,by omega,by (first|rfl|trivial|omega|((try (simp (disch:=omega) only [ah]));(try (simp only [FB]));first|done|rfl|omega))⟩
 ·rw [dz (decide_eq_false h3),List.any_nil] at hx
  simp only [↓wR,RA,simprocAttr,TF,ae,h3]
  rw [hx]<;>rfl
noncomputable def Bp (x:bk × UInt32 × Int × Unit):Option AV:=if c6 x.1 then some ((r1 bn).E true (qb x.1 x.2.1 x.2.2.1)) else none
set_option maxRecDepth 2000000 in
theorem Oy (x:bk × UInt32 × Int × Unit) (r:AV) (h:Bp x=some r):bc PP 22 ((aC cr (aC bg (aC (ay .i64) a0))).E x) r:=by
 by_cases hc:c6 x.1
 case neg=>simp only [Bp,if_neg hc] at h;cases h
 simp only [Bp,if_pos hc] at h
 cases h
 exact ba (aj.cons (ai De) (aj.nil PP)) Tryz.func22 (by kernel_rfl) (by kernel_rfl) (by kernel_rfl) (Nat.le_of_ble_eq_true (by kernel_rfl)) (r1 bn) true (qb x.1 x.2.1 x.2.2.1) (atr x.1 x.2.1 x.2.2.1 hc)
noncomputable abbrev amf:Nat × Bool × (List AV→M AV):=(22,true,cx (aC cr (aC bg (aC (ay .i64) a0))) Bp)
def H5 (w:bk):Int:=if (w.az.length:Int) > 32∨(w.dc.length:Int) > 64 then 3 else 0
theorem aAn (w:bk):wl PP [] 0 (Tryz.f40.body.getD .skip) (dj PP Tryz.f40.results.toList (fun r st=>(r1 (ay .i64)).get true st.h r=some (H5 w))) (b9 0 [cr.val false w]) (bq []):=by
 unfold Tryz.f40
 simp only [ed]
 unfold H5
 simp only [↓wR,RA,simprocAttr,TF,ae]
 rw [bm];refine ⟨fun h=>?_,fun h=>?_⟩
 ·rw [if_pos (.inl h)]
  simp only [↓wR,RA,simprocAttr,TF,ae,h]
 by_cases h2:(w.dc.length:Int) > 64
 ·rw [if_pos (.inr h2)]
  simp only [↓wR,RA,simprocAttr,TF,ae,h,h2]
 ·rw [if_neg (fun q=>q.elim h h2)]
  simp only [↓wR,RA,simprocAttr,TF,ae,h,h2]
noncomputable def ah1 (x:bk × Unit):Option AV:=some ((r1 (ay .i64)).E true (H5 x.1))
set_option maxRecDepth 2000000 in
theorem aoi (x:bk × Unit) (r:AV) (h:ah1 x=some r):bc PP 40 ((aC cr a0).E x) r:=by
 cases h
 exact ba (aj.nil PP) Tryz.func40 (by kernel_rfl) (by kernel_rfl) (by kernel_rfl) (Nat.le_of_ble_eq_true (by kernel_rfl)) (r1 (ay .i64)) true (H5 x.1) (aAn x.1)
noncomputable abbrev aE6:Nat × Bool × (List AV→M AV):=(40,true,cx (aC cr a0) ah1)
def xj (l:List be) (n:Name):Bool:=l.any fun x=>fi x.origin n
def Ev:List be→Bool→List be→Int
 |_,b,[]=>if b=true then 0 else 300
 |pre,b,z::r=>if xj pre z.origin=true then 300 else Ev (pre++[z]) (b || decide ((z.origin.length:Int)=0)) r
def Ei (w:bk):Int:=Ev [] false w.az
theorem awl {l:List be} {i:Nat} {c:be} (b:Bool) (hc:l[i]? = some c):Ev (l.take i) b (l.drop i)=if xj (l.take i) c.origin=true then 300 else Ev (l.take (i+1)) (b || decide ((c.origin.length:Int)=0)) (l.drop (i+1)):=by
 obtain ⟨hi,rfl⟩:=List.getElem?_eq_some_iff.1 hc
 rw [List.drop_eq_getElem_cons hi,Ev,List.take_succ_eq_append_getElem hi]
theorem Se {l:List be} {i:Nat} {c:be} (n:Name) (h:l.drop i=c::l.drop (i+1)):xj (l.drop i) n=(fi c.origin n || xj (l.drop (i+1)) n):=by rw [h];rfl
theorem avy (l:List be) (n:Name) (ss:List bo) (hl:l.length≤16777216) (hz:∀ z ∈ l,bj z.origin) (hn:bj n):ql PP 80 [.vl false 2 (l.map (bf.val false)),.fn (.func 81) [] [.ptr 0 0]] (bq [some (.row [.vl false 1 (n.map (aq.val false)),.vl false 5 (ss.map (ak.val false))] 0 2 26)]) (fun r st'=>r = .sc (.bool (xj l n))∧st'=bq [some (.row [.vl false 1 (n.map (aq.val false)),.vl false 5 (ss.map (ak.val false))] 0 2 26)]):=by
 refine eb _ rfl ?_ (fun r st' h=>h)
 refine bt (T:=[]) (aj.nil PP) mixed Tryz.func80 rfl (by kernel_rfl) (by kernel_rfl) (by kernel_rfl) (by kernel_rfl) ?_;unfold Tryz.f80
 simp only [↓wR,RA,simprocAttr,TF,ae]
 refine bt (T:=[]) (aj.nil PP) mixed Tryz.func119 rfl (by kernel_rfl) (by kernel_rfl) (by kernel_rfl) (by kernel_rfl) ?_;unfold Tryz.f119
 simp only [↓wR,RA,simprocAttr,TF,ae]
 refine di [0,1,7,8] (fun (k:Nat)=>[.vl false 2 (l.map (bf.val false)),.fn (.func 81) [] [.ptr 0 0],.sc (.int .i64 (l.length)),.sc (.int .i64 (k))]) (fun _=>[some (.row [.vl false 1 (n.map (aq.val false)),.vl false 5 (ss.map (ak.val false))] 0 2 26)]) (fun k=>k≤l.length∧xj l n=xj (l.drop k) n) (fun k=>l.length - k) 0 ⟨Nat.zero_le _,rfl⟩ (by simp only [↓wR,RA,simprocAttr,TF,ae]<;>rfl) (by simp only [↓wR,RA,simprocAttr,TF,ae]<;>rfl) ?_
 rintro k ⟨hk,hx⟩
 simp only [↓wR,RA,simprocAttr,TF,ae]
 rw [bm];refine ⟨fun h3=>?_,fun h3=>?_⟩
 ·obtain ⟨q,hq,hd2,hlt2⟩:=dv (decide_eq_true h3)
  rw [Se n hd2] at hx
  have hqo:=hz q (List.mem_of_getElem? hq)
  simp only [↓wR,RA,simprocAttr,TF,ae,h3,hq];repeat (simp (disch:=omega) only [ah,cb,cd,cg,cf];try simp only [↓wR,RA,simprocAttr,TF,ae,h3,hq])
  refine bt (T:=[dx]) (aj.cons (ai gi) (aj.nil PP)) mixed Tryz.func81 rfl (by kernel_rfl) (by kernel_rfl) (by kernel_rfl) (by kernel_rfl) ?_;unfold Tryz.f81
  simp only [↓wR,RA,simprocAttr,TF,ae,jc,hqo,hn]
  rw [br];refine ⟨fun h5=>?_,fun h5=>?_⟩
  ·rw [h5,Bool.true_or] at hx
   simp only [↓wR,RA,simprocAttr,TF,ae,h5,i7,ir,ic,hx]
  ·rw [h5,Bool.false_or] at hx
   simp only [↓wR,RA,simprocAttr,TF,ae,h5];repeat (simp (disch:=omega) only [ah,cb,cd,cg,cf];try simp only [↓wR,RA,simprocAttr,TF,ae,h5])
   exact ⟨k+1,⟨hlt2,hx⟩,by omega,by (first|rfl|trivial|omega|((try (simp (disch:=omega) only [ah]));(try (simp only [FB]));first|done|rfl|omega))⟩
 ·rw [dz (decide_eq_false h3)] at hx
  have hx':xj l n=false:=hx
  simp only [↓wR,RA,simprocAttr,TF,ae,h3,i7,ir,ic,hx']
theorem aof (l:List be) (n:Name) (hl:l.length≤16777216) (hz:∀ z ∈ l,bj z.origin) (hn:bj n):ql PP 80 [.vl false 2 (l.map (bf.val false)),.fn (.func 85) [] [.ptr 0 0]] (bq [some (.row [aw.val true n] 0 2 23)]) (fun r st'=>r = .sc (.bool (xj l n))∧st'=bq [some (.row [aw.val true n] 0 2 23)]):=by
 refine eb _ rfl ?_ (fun r st' h=>h)
 refine bt (T:=[]) (aj.nil PP) mixed Tryz.func80 rfl (by kernel_rfl) (by kernel_rfl) (by kernel_rfl) (by kernel_rfl) ?_;unfold Tryz.f80
 simp only [↓wR,RA,simprocAttr,TF,ae]
 refine bt (T:=[]) (aj.nil PP) mixed Tryz.func119 rfl (by kernel_rfl) (by kernel_rfl) (by kernel_rfl) (by kernel_rfl) ?_;unfold Tryz.f119
 simp only [↓wR,RA,simprocAttr,TF,ae]
 refine di [0,1,7,8] (fun (k:Nat)=>[.vl false 2 (l.map (bf.val false)),.fn (.func 85) [] [.ptr 0 0],.sc (.int .i64 (l.length)),.sc (.int .i64 (k))]) (fun _=>[some (.row [aw.val true n] 0 2 23)]) (fun k=>k≤l.length∧xj l n=xj (l.drop k) n) (fun k=>l.length - k) 0 ⟨Nat.zero_le _,rfl⟩ (by simp only [↓wR,RA,simprocAttr,TF,ae]<;>rfl) (by simp only [↓wR,RA,simprocAttr,TF,ae]<;>rfl) ?_
 rintro k ⟨hk,hx⟩
 simp only [↓wR,RA,simprocAttr,TF,ae]
 rw [bm];refine ⟨fun h3=>?_,fun h3=>?_⟩
 ·obtain ⟨q,hq,hd2,hlt2⟩:=dv (decide_eq_true h3)
  rw [Se n hd2] at hx
  have hqo:=hz q (List.mem_of_getElem? hq)
  simp only [↓wR,RA,simprocAttr,TF,ae,h3,hq];repeat (simp (disch:=omega) only [ah,cb,cd,cg,cf];try simp only [↓wR,RA,simprocAttr,TF,ae,h3,hq])
  refine bt (T:=[dx]) (aj.cons (ai gi) (aj.nil PP)) mixed Tryz.func85 rfl (by kernel_rfl) (by kernel_rfl) (by kernel_rfl) (by kernel_rfl) ?_;unfold Tryz.f85
  simp only [↓wR,RA,simprocAttr,TF,ae,jc,hqo,hn]
  rw [br];refine ⟨fun h5=>?_,fun h5=>?_⟩
  ·rw [h5,Bool.true_or] at hx
   simp only [↓wR,RA,simprocAttr,TF,ae,h5,i7,ir,ic,hx]
  ·rw [h5,Bool.false_or] at hx
   simp only [↓wR,RA,simprocAttr,TF,ae,h5];repeat (simp (disch:=omega) only [ah,cb,cd,cg,cf];try simp only [↓wR,RA,simprocAttr,TF,ae,h5])
   exact ⟨k+1,⟨hlt2,hx⟩,by omega,by (first|rfl|trivial|omega|((try (simp (disch:=omega) only [ah]));(try (simp only [FB]));first|done|rfl|omega))⟩
 ·rw [dz (decide_eq_false h3)] at hx
  have hx':xj l n=false:=hx
  simp only [↓wR,RA,simprocAttr,TF,ae,h3,i7,ir,ic,hx']
set_option maxHeartbeats 4000000 in
theorem aBc (w:bk) (hw:c6 w):wl PP [dx] 0 (Tryz.f41.body.getD .skip) (dj PP Tryz.f41.results.toList (fun r st=>(r1 (ay .i64)).get true st.h r=some (Ei w))) (b9 0 [cr.val false w]) (bq []):=by
 have hl:=hw.Bw
 unfold Tryz.f41
 simp only [ed]
 simp only [↓wR,RA,simprocAttr,TF,ae]
 refine di [1,3,8,9,10] (fun (x:Nat × Bool)=>[.ptr 0 0,.sc (.bool x.2),.vl false 2 (w.az.map (bf.val false)),.sc (.int .i64 (w.az.length)),.sc (.int .i64 (x.1))]) (fun _=>[some (.row [.vl false 2 (w.az.map (bf.val false)),.vl false 2 (w.dc.map (c8.val false)),.vl false 1 (w.hints.map (bg.val false))] 0 2 100)]) (fun x=>x.1≤w.az.length∧Ei w=Ev (w.az.take x.1) x.2 (w.az.drop x.1)) (fun x=>w.az.length - x.1) (0,false) ⟨Nat.zero_le _,rfl⟩ (by simp only [↓wR,RA,simprocAttr,TF,ae]<;>rfl) (by simp only [↓wR,RA,simprocAttr,TF,ae]<;>rfl) ?_
 rintro ⟨i,b⟩ ⟨hi,hx⟩
 simp only at hi hx
 simp only [↓wR,RA,simprocAttr,TF,ae]
 rw [bm];refine ⟨fun h=>?_,fun h=>?_⟩
 ·obtain ⟨c,hc,hd1,hlt⟩:=dv (decide_eq_true h)
  rw [awl b hc] at hx
  have hcs:=(hw.zone c (List.mem_of_getElem? hc)).origin
  obtain ⟨b',hb'⟩:∃ b',b'=(b || decide ((c.origin.length:Int)=0)):=⟨_,rfl⟩
  rw [← hb'] at hx
  have hdec:((c.origin.length:Int) == 0)=decide ((c.origin.length:Int)=0):=by rw [Bool.eq_iff_iff];simp
  have hwt:∀ z ∈ w.az.take i,bj z.origin:=fun z hz=>(hw.zone z (List.mem_of_mem_take hz)).origin
  simp only [↓wR,RA,simprocAttr,TF,ae,h,hc]
  have htl:(w.az.take i).length≤16777216:=by rw [List.length_take];omega
  cases b<;>simp only [↓wR,RA,simprocAttr,TF,ae,hi,hdec]
  all_goals
   refine Kx [1] (avy (w.az.take i) c.origin c.ar htl hwt hcs) (by decide) (by simp only [↓wR,RA,simprocAttr,TF,ae]) (by simp only [↓wR,RA,simprocAttr,TF,ae]) (Nat.le_of_ble_eq_true rfl) (by simp only [↓wR,RA,simprocAttr,TF,ae]) (by simp only [↓wR,RA,simprocAttr,TF,ae]) ⟨Nat.le_of_ble_eq_true rfl,Nat.le_of_ble_eq_true rfl⟩ ?_
   simp only [↓wR,RA,simprocAttr,TF,ae,g8,uk,Au,tx,Lz]
   rw [br];refine ⟨fun h2=>?_,fun h2=>?_⟩
   ·rw [if_pos h2] at hx
    simp only [↓wR,RA,simprocAttr,TF,ae,h2]
    rw [hx]
   ·rw [if_neg (by rw [h2];decide)] at hx
    simp only [↓wR,RA,simprocAttr,TF,ae,h2];repeat (simp (disch:=omega) only [ah,cb,cd,cg,cf];try simp only [↓wR,RA,simprocAttr,TF,ae,h2])
    exact ⟨(i+1,b'),⟨hlt,hx⟩,by simp;omega,by rw [hb'];(first|rfl|trivial|omega|((try (simp (disch:=omega) only [ah]));(try (simp only [FB]));first|done|rfl|omega))⟩
 ·rw [dz (decide_eq_false h)] at hx
  simp only [↓wR,RA,simprocAttr,TF,ae,h]
  rw [hx]
  rw [br];refine ⟨fun h2=>?_,fun h2=>?_⟩
  ·have hb:b=false:=by simpa using h2
   simp only [↓wR,RA,simprocAttr,TF,ae,h2]
   rw [hb]<;>rfl
  ·have hb:b=true:=by simpa using h2
   simp only [↓wR,RA,simprocAttr,TF,ae,h2]
   rw [hb]<;>rfl
noncomputable def Oa (x:bk × Unit):Option AV:=if c6 x.1 then some ((r1 (ay .i64)).E true (Ei x.1)) else none
set_option maxRecDepth 2000000 in
theorem an3 (x:bk × Unit) (r:AV) (h:Oa x=some r):bc PP 41 ((aC cr a0).E x) r:=by
 by_cases hc:c6 x.1
 case neg=>simp only [Oa,if_neg hc] at h;cases h
 simp only [Oa,if_pos hc] at h
 cases h
 exact ba (aj.cons (ai gi) (aj.nil PP)) Tryz.func41 (by kernel_rfl) (by kernel_rfl) (by kernel_rfl) (Nat.le_of_ble_eq_true (by kernel_rfl)) (r1 (ay .i64)) true (Ei x.1) (aBc x.1 hc)
noncomputable abbrev aFf:Nat × Bool × (List AV→M AV):=(41,true,cx (aC cr a0) Oa)
def ue (f:be→Int):List be→Int
 | []=>0
 |z::r=>if f z≠0 then f z else ue f r
theorem M5 {l:List be} {i:Nat} {c:be} (f:be→Int) (h:l.drop i=c::l.drop (i+1)):ue f (l.drop i)=if f c≠0 then f c else ue f (l.drop (i+1)):=by rw [h];rfl
noncomputable def v7 (w:bk):Int:=ue fq w.az
theorem axu (w:bk) (hw:c6 w):wl PP [ad4] 0 (Tryz.f42.body.getD .skip) (dj PP Tryz.f42.results.toList (fun r st=>(r1 (ay .i64)).get true st.h r=some (v7 w))) (b9 0 [cr.val false w]) (bq []):=by
 have hl:=hw.Bw
 unfold Tryz.f42
 simp only [ed]
 simp only [↓wR,RA,simprocAttr,TF,ae]
 refine di [8,9,10] (fun (i:Nat)=>[.vl false 2 (w.az.map (bf.val false)),.sc (.int .i64 (w.az.length)),.sc (.int .i64 (i))]) (fun _=>[]) (fun i=>i≤w.az.length∧v7 w=ue fq (w.az.drop i)) (fun i=>w.az.length - i) 0 ⟨Nat.zero_le _,rfl⟩ (by simp only [↓wR,RA,simprocAttr,TF,ae]<;>rfl) (by simp only [↓wR,RA,simprocAttr,TF,ae]<;>rfl) ?_
 rintro i ⟨hi,hx⟩
 simp only [↓wR,RA,simprocAttr,TF,ae]
 rw [bm];refine ⟨fun h=>?_,fun h=>?_⟩
 ·obtain ⟨c,hc,hd1,hlt⟩:=dv (decide_eq_true h)
  rw [M5 _ hd1] at hx
  simp only [↓wR,RA,simprocAttr,TF,ae,h,hc,Cn,hw.zone c (List.mem_of_getElem? hc)]
  rw [br];refine ⟨fun h1=>?_,fun h1=>?_⟩
  ·have he:fq c≠0:=by simpa using h1
   rw [if_pos he] at hx
   simp only [↓wR,RA,simprocAttr,TF,ae,h1]
   rw [hx]
  ·have he:fq c=0:=by simpa using h1
   rw [if_neg (by omega)] at hx
   simp only [↓wR,RA,simprocAttr,TF,ae,h1];repeat (simp (disch:=omega) only [ah,cb,cd,cg,cf];try simp only [↓wR,RA,simprocAttr,TF,ae,h1])
   exact ⟨i+1,⟨hlt,hx⟩,by omega,by (first|rfl|trivial|omega|((try (simp (disch:=omega) only [ah]));(try (simp only [FB]));first|done|rfl|omega))⟩
 ·rw [dz (decide_eq_false h)] at hx
  simp only [↓wR,RA,simprocAttr,TF,ae,h]
  rw [hx]<;>rfl
noncomputable def Ja (x:bk × Unit):Option AV:=if c6 x.1 then some ((r1 (ay .i64)).E true (v7 x.1)) else none
set_option maxRecDepth 2000000 in
theorem ak9 (x:bk × Unit) (r:AV) (h:Ja x=some r):bc PP 42 ((aC cr a0).E x) r:=by
 by_cases hc:c6 x.1
 case neg=>simp only [Ja,if_neg hc] at h;cases h
 simp only [Ja,if_pos hc] at h
 cases h
 exact ba (aj.cons (ai Ik) (aj.nil PP)) Tryz.func42 (by kernel_rfl) (by kernel_rfl) (by kernel_rfl) (Nat.le_of_ble_eq_true (by kernel_rfl)) (r1 (ay .i64)) true (v7 x.1) (axu x.1 hc)
noncomputable abbrev aCq:Nat × Bool × (List AV→M AV):=(42,true,cx (aC cr a0) Ja)
def Jz (w:bk) (i:Int):Bool:=w.dc.any fun h=>h.az.contains i
noncomputable def J0 (w:bk):Nat→Nat→Int
 |0,_=>0
 |k+1,i=>if Jz w (i:Int)=true then J0 w k (i+1) else 302
noncomputable def zz (w:bk):Int:=J0 w w.az.length 0
theorem ash (w:bk) (hw:c6 w):wl PP [ag8] 0 (Tryz.f44.body.getD .skip) (dj PP Tryz.f44.results.toList (fun r st=>(r1 (ay .i64)).get true st.h r=some (zz w))) (b9 0 [cr.val false w]) (bq []):=by
 have hl:=hw.Bw
 have hhl:=hw.hlen
 unfold Tryz.f44
 simp only [ed]
 simp only [↓wR,RA,simprocAttr,TF,ae]
 refine di [1,7,8] (fun (i:Nat)=>[.ptr 0 0,.sc (.int .i64 (w.az.length)),.sc (.int .i64 (i))]) (fun _=>[some (.row [.vl false 2 (w.az.map (bf.val false)),.vl false 2 (w.dc.map (c8.val false)),.vl false 1 (w.hints.map (bg.val false))] 0 2 100)]) (fun i=>i≤w.az.length∧zz w=J0 w (w.az.length - i) i) (fun i=>w.az.length - i) 0 ⟨Nat.zero_le _,rfl⟩ (by simp only [↓wR,RA,simprocAttr,TF,ae]<;>rfl) (by simp only [↓wR,RA,simprocAttr,TF,ae]<;>rfl) ?_
 rintro i ⟨hi,hx⟩
 simp only [↓wR,RA,simprocAttr,TF,ae]
 rw [bm];refine ⟨fun h=>?_,fun h=>?_⟩
 ·obtain ⟨m,hm⟩:∃ m,w.az.length - i=m+1:=⟨w.az.length - i - 1,by omega⟩
  have hm':w.az.length - (i+1)=m:=by omega
  rw [hm,J0] at hx
  simp only [↓wR,RA,simprocAttr,TF,ae,h]
  refine eb (fun r st'=>r = .sc (.bool (Jz w i))∧st'=bq [some (.row [.vl false 2 (w.az.map (bf.val false)),.vl false 2 (w.dc.map (c8.val false)),.vl false 1 (w.hints.map (bg.val false))] 0 2 100),some (.row [.sc (.int .i64 i)] 0 2 3)]) rfl ?_ ?_
  ·refine bt (T:=[]) (aj.nil PP) mixed Tryz.func56 rfl (by kernel_rfl) (by kernel_rfl) (by kernel_rfl) (by kernel_rfl) ?_;unfold Tryz.f56
   simp only [↓wR,RA,simprocAttr,TF,ae]
   refine bt (T:=[]) (aj.nil PP) mixed Tryz.func94 rfl (by kernel_rfl) (by kernel_rfl) (by kernel_rfl) (by kernel_rfl) ?_;unfold Tryz.f94
   simp only [↓wR,RA,simprocAttr,TF,ae]
   refine di [0,1,7,8] (fun (k:Nat)=>[.vl false 2 (w.dc.map (c8.val false)),.fn (.func 83) [] [.ptr 1 0],.sc (.int .i64 (w.dc.length)),.sc (.int .i64 (k))]) (fun _=>[some (.row [.vl false 2 (w.az.map (bf.val false)),.vl false 2 (w.dc.map (c8.val false)),.vl false 1 (w.hints.map (bg.val false))] 0 2 100),some (.row [.sc (.int .i64 i)] 0 2 3)]) (fun k=>k≤w.dc.length∧Jz w i=((w.dc.drop k).any fun h=>h.az.contains i)) (fun k=>w.dc.length - k) 0 ⟨Nat.zero_le _,rfl⟩ (by simp only [↓wR,RA,simprocAttr,TF,ae]<;>rfl) (by simp only [↓wR,RA,simprocAttr,TF,ae]<;>rfl) ?_
   rintro k ⟨hk,hy⟩
   simp only [↓wR,RA,simprocAttr,TF,ae]
   rw [bm];refine ⟨fun h3=>?_,fun h3=>?_⟩
   ·obtain ⟨c,hc,hd1,hlt⟩:=dv (decide_eq_true h3)
    rw [hd1,List.any_cons] at hy
    have hcz:c.az.length≤281474976710656:=by have:=hw.host c (List.mem_of_getElem? hc);omega
    simp only [↓wR,RA,simprocAttr,TF,ae,h3,hc];repeat (simp (disch:=omega) only [ah,cb,cd,cg,cf];try simp only [↓wR,RA,simprocAttr,TF,ae,h3,hc])
    refine bt (T:=[ag8]) (aj.cons (ai De) (aj.nil PP)) mixed Tryz.func83 rfl (by kernel_rfl) (by kernel_rfl) (by kernel_rfl) (by kernel_rfl) ?_;unfold Tryz.f83
    simp only [↓wR,RA,simprocAttr,TF,ae,K2,hcz]
    rw [br];refine ⟨fun h5=>?_,fun h5=>?_⟩
    ·rw [h5,Bool.true_or] at hy
     simp only [↓wR,RA,simprocAttr,TF,ae,h5,i7,ir,ic,hy]
    ·rw [h5,Bool.false_or] at hy
     simp only [↓wR,RA,simprocAttr,TF,ae,h5];repeat (simp (disch:=omega) only [ah,cb,cd,cg,cf];try simp only [↓wR,RA,simprocAttr,TF,ae,h5])
     exact ⟨k+1,⟨hlt,hy⟩,by omega,by (first|rfl|trivial|omega|((try (simp (disch:=omega) only [ah]));(try (simp only [FB]));first|done|rfl|omega))⟩
   ·rw [dz (decide_eq_false h3),List.any_nil] at hy
    simp only [↓wR,RA,simprocAttr,TF,ae,h3,i7,ir,ic,hy]
  rintro _ _ ⟨rfl,rfl⟩
  simp only [↓wR,RA,simprocAttr,TF,ae,g8]
  rw [br];refine ⟨fun h4=>?_,fun h4=>?_⟩
  ·have h4':Jz w i=false:=by simpa only [Bool.not_eq_true'] using h4
   rw [h4',if_neg (by decide)] at hx
   simp only [↓wR,RA,simprocAttr,TF,ae,h4]
   rw [hx]
  ·have h4':Jz w i=true:=by simpa only [Bool.not_eq_false'] using h4
   rw [if_pos h4'] at hx
   simp only [↓wR,RA,simprocAttr,TF,ae,h4];repeat (simp (disch:=omega) only [ah,cb,cd,cg,cf];try simp only [↓wR,RA,simprocAttr,TF,ae,h4])
   exact ⟨i+1,⟨by omega,by rw [hm'];exact hx⟩,by omega,by (first|rfl|trivial|omega|((try (simp (disch:=omega) only [ah]));(try (simp only [FB]));first|done|rfl|omega))⟩
 ·rw [show w.az.length - i=0 by omega,J0] at hx
  simp only [↓wR,RA,simprocAttr,TF,ae,h]
  rw [hx]<;>rfl
noncomputable def F4 (x:bk × Unit):Option AV:=if c6 x.1 then some ((r1 (ay .i64)).E true (zz x.1)) else none
set_option maxRecDepth 2000000 in
theorem afq (x:bk × Unit) (r:AV) (h:F4 x=some r):bc PP 44 ((aC cr a0).E x) r:=by
 by_cases hc:c6 x.1
 case neg=>simp only [F4,if_neg hc] at h;cases h
 simp only [F4,if_pos hc] at h
 cases h
 exact ba (aj.cons (ai De) (aj.nil PP)) Tryz.func44 (by kernel_rfl) (by kernel_rfl) (by kernel_rfl) (Nat.le_of_ble_eq_true (by kernel_rfl)) (r1 (ay .i64)) true (zz x.1) (ash x.1 hc)
noncomputable abbrev az3:Nat × Bool × (List AV→M AV):=(44,true,cx (aC cr a0) F4)
def D6 (z:be) (s:bo):Bool:=decide ((s.type.toNat:Int)=2) && B6 s.owner z.origin
def tv (z:be):List Name:=(z.ar.filter (D6 z)).map fun s=>s.owner
theorem awa (z:be) (hz:cy z):wl PP [ar8,qf] 0 (Tryz.f84.body.getD .skip) (dj PP Tryz.f84.results.toList (fun r st=>(r1 (ca aw)).get true st.h r=some (tv z))) (b9 0 [bf.val false z]) (bq []):=by
 have hl:=hz.len
 have hq:∀ a b c d,ea a b c=d→ea a b c=d:=fun _ _ _ _ h=>h
 unfold Tryz.f84
 simp only [gz]
 simp only [↓wR,RA,simprocAttr,TF,ae]
 refine bt (T:=[]) (aj.nil PP) mixed Tryz.func127 rfl (by kernel_rfl) (by kernel_rfl) (by kernel_rfl) (by kernel_rfl) ?_;unfold Tryz.f127
 simp only [↓wR,RA,simprocAttr,TF,ae]
 refine ⟨[1,3,6],?_⟩
 have hib:tq PP 154=some (Tryz.f154.ntmps,Tryz.f154.body.getD .skip):=by kernel_rfl
 simp only [↓wR,RA,simprocAttr,TF,ae,hib]
 refine ⟨by kernel_rfl,fun l=>?_⟩
 unfold Tryz.f154
 simp only [↓wR,RA,simprocAttr,TF,ae]
 refine Ui [0,2,7,8,9] (fun (x:Nat × List Name)=>[.sc (.func (.yield l) #[] #[]),.ptr 3 0,.vl false 5 (z.ar.map (ak.val false)),.sc (.int .i64 (z.ar.length)),.sc (.int .i64 (x.1))]) (fun x=>[some (.row [.vl false 1 (z.origin.map (aq.val false)),.vl false 5 (z.ar.map (ak.val false))] 0 2 26),some (.row [.sl 4 0 x.2.length 1] 0 2 69),some (.row [.vl false 1 (z.origin.map (aq.val false)),.vl false 5 (z.ar.map (ak.val false))] 0 2 26),some (.row [.sc (.int .u16 2)] 0 2 28),some (.row (x.2.map (aw.val true)) 0 0 23)]) (fun x=>(x.1≤z.ar.length∧x.2++((z.ar.drop x.1).filter (D6 z)).map (fun s=>s.owner)=tv z)∧x.2.length≤x.1) (fun x=>z.ar.length - x.1) (0,[]) ⟨⟨Nat.zero_le _,rfl⟩,Nat.zero_le _⟩ (by simp only [↓wR,RA,simprocAttr,TF,ae];(refine jt.lax [] (by first|exact Nat.le_of_ble_eq_true rfl|(simp [cw];omega)) ?_ ?_<;>repeat' first|exact fc.nil|exact c7.nil|exact gu.same _|exact gu.nil _ _ _|exact gu.se _ _|exact c7.refl _ _|apply fc.cons|apply c7.ghost|apply c7.same|apply c7.row)) ?_
 rintro ⟨i,x⟩ ⟨⟨hi,hx⟩,hl2⟩
 simp only at hi hx hl2
 simp only [↓wR,RA,simprocAttr,TF,ae]
 rw [ub];refine ⟨fun h=>?_,fun h=>?_⟩
 ·obtain ⟨c,hc,hd1,hlt⟩:=dv h
  have hcs:=hz.set c (List.mem_of_getElem? hc)
  rw [O0 hd1] at hx
  simp only [↓wR,RA,simprocAttr,TF,ae,h,hc]
  rw [ub];refine ⟨fun h2=>?_,fun h2=>?_⟩
  ·have e2:(c.type.toNat:Int)=2:=by simpa using h2
   simp only [↓wR,RA,simprocAttr,TF,ae,h2]
   refine my [0,2,7,8,9,17,19] ?_
   simp only [↓wR,RA,simprocAttr,TF,ae,py,je,Fa,hcs.owner,hz.origin]
   rw [br];refine ⟨fun h3=>?_,fun h3=>?_⟩
   ·have hp:D6 z c=true:=by unfold D6;rw [decide_eq_true e2,h3];rfl
    rw [if_pos hp] at hx
    have hlim:(x.length+1) * 24≤140737488355328:=by omega
    simp only [↓wR,RA,simprocAttr,TF,ae,h3]
    refine ⟨by kernel_rfl,.inl ?_⟩
    simp only [↓wR,RA,simprocAttr,TF,ae,j8,hcs.owner,hlim];repeat (simp (disch:=omega) only [ah,cb,cd,cg,cf];try simp only [↓wR,RA,simprocAttr,TF,ae,j8,hcs.owner,hlim])
    exact ⟨by apply hq;kernel_rfl,(i+1,x++[c.owner]),⟨⟨hlt,by simpa using hx⟩,by simp;omega⟩,by simp;omega,by (first|rfl|trivial|omega|((try (simp (disch:=omega) only [ah]));(try (simp only [FB]));first|done|rfl|omega)),by (first|rfl|trivial|omega|((try (simp (disch:=omega) only [ah]));(try (simp only [FB]));first|done|rfl|omega))⟩
   ·have hp:D6 z c=false:=by unfold D6;rw [h3,Bool.and_false]
    rw [hp,if_neg (by decide),List.nil_append] at hx
    simp only [↓wR,RA,simprocAttr,TF,ae,h3];repeat (simp (disch:=omega) only [ah,cb,cd,cg,cf];try simp only [↓wR,RA,simprocAttr,TF,ae,h3])
    exact ⟨(i+1,x),⟨⟨hlt,hx⟩,by simp only;omega⟩,by simp;omega,by (first|rfl|trivial|omega|((try (simp (disch:=omega) only [ah]));(try (simp only [FB]));first|done|rfl|omega)),by (first|rfl|trivial|omega|((try (simp (disch:=omega) only [ah]));(try (simp only [FB]));first|done|rfl|omega))⟩
  ·have e2:¬ (c.type.toNat:Int)=2:=by simpa using h2
   have hp:D6 z c=false:=by unfold D6;rw [decide_eq_false e2];rfl
   rw [hp,if_neg (by decide),List.nil_append] at hx
   simp only [↓wR,RA,simprocAttr,TF,ae,h2];repeat (simp (disch:=omega) only [ah,cb,cd,cg,cf];try simp only [↓wR,RA,simprocAttr,TF,ae,h2])
   exact ⟨(i+1,x),⟨⟨hlt,hx⟩,by simp only;omega⟩,by simp;omega,by (first|rfl|trivial|omega|((try (simp (disch:=omega) only [ah]));(try (simp only [FB]));first|done|rfl|omega)),by (first|rfl|trivial|omega|((try (simp (disch:=omega) only [ah]));(try (simp only [FB]));first|done|rfl|omega))⟩
 ·rw [dz h,List.filter_nil,List.map_nil,List.append_nil] at hx
  subst hx
  simp only [↓wR,RA,simprocAttr,TF,ae,h]
noncomputable def Pj (x:be × Unit):Option AV:=if cy x.1 then some ((r1 (ca aw)).E true (tv x.1)) else none
set_option maxRecDepth 2000000 in
theorem anm (x:be × Unit) (r:AV) (h:Pj x=some r):bc PP 84 ((aC bf a0).E x) r:=by
 by_cases hc:cy x.1
 case neg=>simp only [Pj,if_neg hc] at h;cases h
 simp only [Pj,if_pos hc] at h
 cases h
 exact ba (aj.cons (ai Ri) (aj.cons (ai ky) (aj.nil PP))) Tryz.func84 (by kernel_rfl) (by kernel_rfl) (by kernel_rfl) (Nat.le_of_ble_eq_true (by kernel_rfl)) (r1 (ca aw)) true (tv x.1) (awa x.1 hc)
noncomputable abbrev aFe:Nat × Bool × (List AV→M AV):=(84,true,cx (aC bf a0) Pj)
theorem aox {z:be} (hz:cy z):(tv z).length≤16777216∧∀ n ∈ tv z,bj n:=by
 refine ⟨?_,fun n hn=>?_⟩
 ·have h1:=u0 (l:=z.ar) (D6 z)
  have h2:=hz.len
  unfold tv;rw [List.length_map];omega
 ·obtain ⟨s,hs,rfl⟩:=List.mem_map.1 hn
  exact (hz.set s (List.mem_filter.1 hs).1).owner
noncomputable def Cw (w:bk):List Name→Int
 | []=>0
 |n::r=>if xj w.az n=true then Cw w r else 303
noncomputable def Et (w:bk):Int:=ue (fun z=>Cw w (tv z)) w.az
theorem avs {w:bk} {l:List Name} {i:Nat} {c:Name} (h:l.drop i=c::l.drop (i+1)):Cw w (l.drop i)=if xj w.az c=true then Cw w (l.drop (i+1)) else 303:=by rw [h];rfl
theorem aAf (w:bk) (hw:c6 w):wl PP [aFe,dx] 0 (Tryz.f45.body.getD .skip) (dj PP Tryz.f45.results.toList (fun r st=>(r1 (ay .i64)).get true st.h r=some (Et w))) (b9 0 [cr.val false w]) (bq []):=by
 have hl:=hw.Bw
 have hzo:∀ z ∈ w.az,bj z.origin:=fun z hz=>(hw.zone z hz).origin
 unfold Tryz.f45
 simp only [ed]
 simp only [↓wR,RA,simprocAttr,TF,ae]
 refine di [1,9,10,11] (fun (i:Nat)=>[.ptr 0 0,.vl false 2 (w.az.map (bf.val false)),.sc (.int .i64 (w.az.length)),.sc (.int .i64 (i))]) (fun _=>[some (.row [.vl false 2 (w.az.map (bf.val false)),.vl false 2 (w.dc.map (c8.val false)),.vl false 1 (w.hints.map (bg.val false))] 0 2 100)]) (fun i=>i≤w.az.length∧Et w=ue (fun z=>Cw w (tv z)) (w.az.drop i)) (fun i=>w.az.length - i) 0 ⟨Nat.zero_le _,rfl⟩ (by simp only [↓wR,RA,simprocAttr,TF,ae]<;>rfl) (by simp only [↓wR,RA,simprocAttr,TF,ae]<;>rfl) ?_
 rintro i ⟨hi,hx⟩
 simp only [↓wR,RA,simprocAttr,TF,ae]
 rw [bm];refine ⟨fun h=>?_,fun h=>?_⟩
 ·obtain ⟨c,hc,hd1,hlt⟩:=dv (decide_eq_true h)
  rw [M5 _ hd1] at hx
  have hcz:=hw.zone c (List.mem_of_getElem? hc)
  obtain ⟨hnl,hns⟩:=aox hcz
  simp only [↓wR,RA,simprocAttr,TF,ae,h,hc,Pj,hcz]
  refine di [1,9,10,11,16,17,18] (fun (k:Nat)=>[.ptr 0 0,.vl false 2 (w.az.map (bf.val false)),.sc (.int .i64 (w.az.length)),.sc (.int .i64 (i)),.vl true 1 ((tv c).map (aw.val true)),.sc (.int .i64 ((tv c).length)),.sc (.int .i64 (k))]) (fun _=>[some (.row [.vl false 2 (w.az.map (bf.val false)),.vl false 2 (w.dc.map (c8.val false)),.vl false 1 (w.hints.map (bg.val false))] 0 2 100)]) (fun k=>k≤(tv c).length∧Cw w (tv c)=Cw w ((tv c).drop k)) (fun k=>(tv c).length - k) 0 ⟨Nat.zero_le _,rfl⟩ (by simp only [↓wR,RA,simprocAttr,TF,ae]<;>rfl) (by simp only [↓wR,RA,simprocAttr,TF,ae]<;>rfl) ?_
  rintro k ⟨hk,hy⟩
  simp only [↓wR,RA,simprocAttr,TF,ae]
  rw [bm];refine ⟨fun h2=>?_,fun h2=>?_⟩
  ·obtain ⟨n,hn,hd2,hlt2⟩:=dv (decide_eq_true h2)
   rw [avs hd2] at hy
   simp only [↓wR,RA,simprocAttr,TF,ae,h2,hn]
   refine Kx [1] (aof w.az n hl hzo (hns n (List.mem_of_getElem? hn))) (by decide) (by simp only [↓wR,RA,simprocAttr,TF,ae]) (by simp only [↓wR,RA,simprocAttr,TF,ae]) (Nat.le_of_ble_eq_true rfl) (by simp only [↓wR,RA,simprocAttr,TF,ae]) (by simp only [↓wR,RA,simprocAttr,TF,ae]) ⟨Nat.le_of_ble_eq_true rfl,Nat.le_of_ble_eq_true rfl⟩ ?_
   simp only [↓wR,RA,simprocAttr,TF,ae,g8,uk,Au,tx,Lz]
   rw [br];refine ⟨fun h3=>?_,fun h3=>?_⟩
   ·have h3':xj w.az n=false:=by simpa only [Bool.not_eq_true'] using h3
    rw [h3',if_neg (by decide)] at hy
    rw [hy,if_pos (by decide)] at hx
    simp only [↓wR,RA,simprocAttr,TF,ae,h3]
    rw [hx]
   ·have h3':xj w.az n=true:=by simpa only [Bool.not_eq_false'] using h3
    rw [if_pos h3'] at hy
    simp only [↓wR,RA,simprocAttr,TF,ae,h3];repeat (simp (disch:=omega) only [ah,cb,cd,cg,cf];try simp only [↓wR,RA,simprocAttr,TF,ae,h3])
    exact ⟨k+1,⟨hlt2,hy⟩,by omega,by (first|rfl|trivial|omega|((try (simp (disch:=omega) only [ah]));(try (simp only [FB]));first|done|rfl|omega))⟩
  ·rw [dz (decide_eq_false h2),Cw] at hy
   rw [hy,if_neg (by decide)] at hx
   simp only [↓wR,RA,simprocAttr,TF,ae,h2];repeat (simp (disch:=omega) only [ah,cb,cd,cg,cf];try simp only [↓wR,RA,simprocAttr,TF,ae,h2])
   exact ⟨i+1,⟨hlt,hx⟩,by omega,by (first|rfl|trivial|omega|((try (simp (disch:=omega) only [ah]));(try (simp only [FB]));first|done|rfl|omega))⟩
 ·rw [dz (decide_eq_false h)] at hx
  simp only [↓wR,RA,simprocAttr,TF,ae,h]
  rw [hx]<;>rfl
noncomputable def N6 (x:bk × Unit):Option AV:=if c6 x.1 then some ((r1 (ay .i64)).E true (Et x.1)) else none
set_option maxRecDepth 2000000 in
theorem aog (x:bk × Unit) (r:AV) (h:N6 x=some r):bc PP 45 ((aC cr a0).E x) r:=by
 by_cases hc:c6 x.1
 case neg=>simp only [N6,if_neg hc] at h;cases h
 simp only [N6,if_pos hc] at h
 cases h
 exact ba (aj.cons (ai anm) (aj.cons (ai gi) (aj.nil PP))) Tryz.func45 (by kernel_rfl) (by kernel_rfl) (by kernel_rfl) (Nat.le_of_ble_eq_true (by kernel_rfl)) (r1 (ay .i64)) true (Et x.1) (aAf x.1 hc)
noncomputable abbrev aEs:Nat × Bool × (List AV→M AV):=(45,true,cx (aC cr a0) N6)
noncomputable def parentOf (w:bk) (z:be) (p:Int):Int:=
 match ng w p with
 |none=>304
 |some y=>if (jh y.ar z.origin 2).isSome=true then (if wb ((jh z.ar z.origin 2).getD m5) ((jh y.ar z.origin 2).getD m5)=true then 0 else 304) else 304
noncomputable def tf (w:bk):List be→Nat→Int
 | [],_=>0
 |z::r,i=>if (z.origin.length:Int)=0 then tf w r (i+1) else if parentOf w z (ui w (i:Int)).1≠0 then 304 else tf w r (i+1)
noncomputable def vi (w:bk):Int:=tf w w.az 0
theorem akd {w:bk} {l:List be} {i:Nat} {c:be} (k:Nat) (h:l.drop i=c::l.drop (i+1)):tf w (l.drop i) k=if (c.origin.length:Int)=0 then tf w (l.drop (i+1)) (k+1) else if parentOf w c (ui w (k:Int)).1≠0 then 304 else tf w (l.drop (i+1)) (k+1):=by rw [h];rfl
theorem akq {w:bk} {i:Int} (hw:w.az≠[]):∃ (k:Nat) (y:be),(ui w i).1=(k:Int)∧w.az[k]? = some y:=by
 have h0:∃ (k:Nat) (y:be),(0:Int)=(k:Int)∧w.az[k]? = some y:=by
  cases hz:w.az with
  |nil=>exact (hw hz).elim
  |cons y l=>exact ⟨0,y,rfl,rfl⟩
 unfold ui
 split
 ·exact h0
 ·split
  ·exact h0
  ·split
   ·exact h0
   ·rename_i h
    obtain ⟨k,y,h1,h2,_⟩:=au3 h
    exact ⟨k,y,h1,h2⟩
set_option maxHeartbeats 4000000 in
theorem an9 (w:bk) (hw:c6 w):wl PP [aAi,Bi,aqw] 0 (Tryz.f46.body.getD .skip) (dj PP Tryz.f46.results.toList (fun r st=>(r1 (ay .i64)).get true st.h r=some (vi w))) (b9 0 [cr.val false w]) (bq []):=by
 have hl:=hw.Bw
 have hq:∀ a b c d,ea a b c=d→ea a b c=d:=fun _ _ _ _ h=>h
 unfold Tryz.f46
 simp only [ed]
 simp only [↓wR,RA,simprocAttr,TF,ae]
 refine di [1,13,14,15] (fun (i:Nat)=>[.ptr 0 0,.vl false 2 (w.az.map (bf.val false)),.sc (.int .i64 (w.az.length)),.sc (.int .i64 (i))]) (fun _=>[some (.row [.vl false 2 (w.az.map (bf.val false)),.vl false 2 (w.dc.map (c8.val false)),.vl false 1 (w.hints.map (bg.val false))] 0 2 100)]) (fun i=>i≤w.az.length∧vi w=tf w (w.az.drop i) i) (fun i=>w.az.length - i) 0 ⟨Nat.zero_le _,rfl⟩ (by simp only [↓wR,RA,simprocAttr,TF,ae]<;>rfl) (by simp only [↓wR,RA,simprocAttr,TF,ae]<;>rfl) ?_
 rintro i ⟨hi,hx⟩
 simp only [↓wR,RA,simprocAttr,TF,ae]
 rw [bm];refine ⟨fun h=>?_,fun h=>?_⟩
 ·obtain ⟨c,hc,hd1,hlt⟩:=dv (decide_eq_true h)
  rw [akd i hd1] at hx
  have hcz:=hw.zone c (List.mem_of_getElem? hc)
  obtain ⟨k,y,hk,hy⟩:=akq (i:=(i:Int)) (fun q=>by rw [q] at hc;simp at hc)
  have hyz:=hw.zone y (List.mem_of_getElem? hy)
  have hs1:=Ie hcz c.origin 2
  have hs2:=Ie hyz c.origin 2
  simp only [↓wR,RA,simprocAttr,TF,ae,h,hc]
  rw [c9];refine ⟨fun ⟨h1,e1⟩=>?_,fun ⟨h1,e1⟩=>?_⟩
  ·rw [if_pos e1] at hx
   simp only [↓wR,RA,simprocAttr,TF,ae,h1];repeat (simp (disch:=omega) only [ah,cb,cd,cg,cf];try simp only [↓wR,RA,simprocAttr,TF,ae,h1])
   exact ⟨i+1,⟨hlt,hx⟩,by omega,by (first|rfl|trivial|omega|((try (simp (disch:=omega) only [ah]));(try (simp only [FB]));first|done|rfl|omega))⟩
  rw [if_neg e1] at hx
  rcases hpe:ui w (i:Int) with ⟨p,e⟩
  rw [hpe] at hk hx
  simp only at hk hx
  subst hk
  have hpo:parentOf w c (k:Int)=if (jh y.ar c.origin 2).isSome=true then (if wb ((jh c.ar c.origin 2).getD m5) ((jh y.ar c.origin 2).getD m5)=true then 0 else 304) else 304:=by unfold parentOf;rw [pd,hy]
  rw [hpo] at hx
  simp only [↓wR,RA,simprocAttr,TF,ae,h1,Fm,hw,hpe,Oe,uh,hcz.mid,hcz.origin]
  obtain ⟨s1,hd1⟩:∃ s,s=(jh c.ar c.origin 2).getD m5:=⟨_,rfl⟩
  obtain ⟨s2,hd2⟩:∃ s,s=(jh y.ar c.origin 2).getD m5:=⟨_,rfl⟩
  obtain ⟨b,hb⟩:∃ b,b=(jh y.ar c.origin 2).isSome:=⟨_,rfl⟩
  rw [← hd1,← hd2,← hb] at hx
  rw [← hd1] at hs1
  rw [← hd2] at hs2
  rw [← hd1]
  refine ⟨by kernel_rfl,.inl ?_⟩
  simp only [↓wR,RA,simprocAttr,TF,ae,hy,Oe,uh,hyz.mid,hcz.origin,← hd2,← hb]
  refine ⟨by apply hq;kernel_rfl,?_⟩
  cases b with
  |false=>
   rw [if_neg (show ¬ (false=true) by decide),if_pos (by decide)] at hx
   simp only [↓wR,RA,simprocAttr,TF,ae]
   rw [hx]
  |true=>
   rw [if_pos rfl] at hx
   simp only [↓wR,RA,simprocAttr,TF,ae,E6,hs1,hs2]
   rw [br];refine ⟨fun h3=>?_,fun h3=>?_⟩
   ·have h3':wb s1 s2=false:=by simpa only [Bool.not_eq_true'] using h3
    rw [h3',if_neg (show ¬ (false=true) by decide),if_pos (by decide)] at hx
    simp only [↓wR,RA,simprocAttr,TF,ae,h3]
    rw [hx]
   ·have h3':wb s1 s2=true:=by simpa only [Bool.not_eq_false'] using h3
    rw [if_pos h3',if_neg (by decide)] at hx
    simp only [↓wR,RA,simprocAttr,TF,ae,h3];repeat (simp (disch:=omega) only [ah,cb,cd,cg,cf];try simp only [↓wR,RA,simprocAttr,TF,ae,h3])
    exact ⟨i+1,⟨hlt,hx⟩,by omega,by (first|rfl|trivial|omega|((try (simp (disch:=omega) only [ah]));(try (simp only [FB]));first|done|rfl|omega))⟩
 ·rw [dz (decide_eq_false h)] at hx
  simp only [↓wR,RA,simprocAttr,TF,ae,h]
  rw [hx]<;>rfl
noncomputable def Dd (x:bk × Unit):Option AV:=if c6 x.1 then some ((r1 (ay .i64)).E true (vi x.1)) else none
set_option maxRecDepth 2000000 in
theorem acw (x:bk × Unit) (r:AV) (h:Dd x=some r):bc PP 46 ((aC cr a0).E x) r:=by
 by_cases hc:c6 x.1
 case neg=>simp only [Dd,if_neg hc] at h;cases h
 simp only [Dd,if_pos hc] at h
 cases h
 exact ba (aj.cons (ai ael) (aj.cons (ai tl) (aj.cons (ai Sx) (aj.nil PP)))) Tryz.func46 (by kernel_rfl) (by kernel_rfl) (by kernel_rfl) (Nat.le_of_ble_eq_true (by kernel_rfl)) (r1 (ay .i64)) true (vi x.1) (an9 x.1 hc)
noncomputable abbrev axg:Nat × Bool × (List AV→M AV):=(46,true,cx (aC cr a0) Dd)
def Qa (w:bk) (z:be) (cut:bo) (d:c0):Bool:=
 match d.names with
 | []=>false
 |n::_=>(mu w n 1).isSome && (!(jh z.ar n 1).isSome && dr n cut.owner)
def Jn (w:bk) (z:be) (cut:bo):Bool:=cut.data.any (Qa w z cut)
set_option maxHeartbeats 4000000 in
theorem au6 (w:bk) (z:be) (s:bo) (hw:c6 w) (hz:cy z) (hs:dq s) (hn:∀ d ∈ s.data,d.names≠[]):wl PP [Vo,Bi,uv] 0 (Tryz.f87.body.getD .skip) (dj PP Tryz.f87.results.toList (fun r st=>(r1 bn).get true st.h r=some (Jn w z s))) (b9 0 [cr.val false w,bf.val false z,ak.val false s]) (bq []):=by
 have hl:=hs.data.len
 unfold Tryz.f87
 simp only [ed,gz,jq]
 simp only [↓wR,RA,simprocAttr,TF,ae]
 refine di [3,4,5,15,16,17] (fun (i:Nat)=>[.ptr 0 0,.ptr 1 0,.ptr 2 0,.vl false 4 (s.data.map (bz.val false)),.sc (.int .i64 (s.data.length)),.sc (.int .i64 (i))]) (fun _=>[some (.row [.vl false 2 (w.az.map (bf.val false)),.vl false 2 (w.dc.map (c8.val false)),.vl false 1 (w.hints.map (bg.val false))] 0 2 100),some (.row [.vl false 1 (z.origin.map (aq.val false)),.vl false 5 (z.ar.map (ak.val false))] 0 2 26),some (.row [.vl false 1 (s.owner.map (aq.val false)),.sc (.int .u16 s.type.toNat),.sc (.int .u16 s.cls.toNat),.sc (.int .u32 s.ot.toNat),.vl false 4 (s.data.map (bz.val false))] 0 2 40)]) (fun i=>i≤s.data.length∧Jn w z s=(s.data.drop i).any (Qa w z s)) (fun i=>s.data.length - i) 0 ⟨Nat.zero_le _,rfl⟩ (by simp only [↓wR,RA,simprocAttr,TF,ae]<;>rfl) (by simp only [↓wR,RA,simprocAttr,TF,ae]<;>rfl) ?_
 rintro i ⟨hi,hx⟩
 simp only [↓wR,RA,simprocAttr,TF,ae]
 rw [bm];refine ⟨fun h=>?_,fun h=>?_⟩
 ·obtain ⟨d,hd,hd1,hlt⟩:=dv (decide_eq_true h)
  rw [hd1,List.any_cons] at hx
  have hdm:=List.mem_of_getElem? hd
  obtain ⟨n,r,hnr⟩:∃ n r,d.names=n::r:=by
   cases q:d.names with
   |nil=>exact (hn d hdm q).elim
   |cons n r=>exact ⟨n,r,rfl⟩
  have hn0:d.names[0]? = some n:=by rw [hnr];rfl
  have hns:bj n:=(hs.data.mem d hdm).name n (by rw [hnr];simp)
  have hp:Qa w z s d=((mu w n 1).isSome && (!(jh z.ar n 1).isSome && dr n s.owner)):=by unfold Qa;rw [hnr]
  rw [hp] at hx
  have u1:∀ fr h,da.fw fr h (.sc (.int .u16 1))=some 1:=ap4
  simp only [↓wR,RA,simprocAttr,TF,ae,h,hd,hn0,Oe,Df,hw,hns,uh,hz.mid]
  rw [br];refine ⟨fun h1=>?_,fun h1=>?_⟩
  ·rw [h1,Bool.true_and] at hx
   simp only [↓wR,RA,simprocAttr,TF,ae,h1]
   rw [br];refine ⟨fun h2=>?_,fun h2=>?_⟩
   ·rw [h2,Bool.true_and] at hx
    simp only [↓wR,RA,simprocAttr,TF,ae,h2,mn,hns,hs.owner]
    rw [br];refine ⟨fun h3=>?_,fun h3=>?_⟩
    ·rw [h3,Bool.true_or] at hx
     simp only [↓wR,RA,simprocAttr,TF,ae,h3]
     rw [hx]
    ·rw [h3,Bool.false_or] at hx
     simp only [↓wR,RA,simprocAttr,TF,ae,h3];repeat (simp (disch:=omega) only [ah,cb,cd,cg,cf];try simp only [↓wR,RA,simprocAttr,TF,ae,h3])
     exact ⟨i+1,⟨hlt,hx⟩,by omega,by (first|rfl|trivial|omega|((try (simp (disch:=omega) only [ah]));(try (simp only [FB]));first|done|rfl|omega))⟩
   ·rw [h2,Bool.false_and,Bool.false_or] at hx
    simp only [↓wR,RA,simprocAttr,TF,ae,h2];repeat (simp (disch:=omega) only [ah,cb,cd,cg,cf];try simp only [↓wR,RA,simprocAttr,TF,ae,h2])
    exact ⟨i+1,⟨hlt,hx⟩,by omega,by (first|rfl|trivial|omega|((try (simp (disch:=omega) only [ah]));(try (simp only [FB]));first|done|rfl|omega))⟩
  ·rw [h1,Bool.false_and,Bool.false_or] at hx
   simp only [↓wR,RA,simprocAttr,TF,ae,h1];repeat (simp (disch:=omega) only [ah,cb,cd,cg,cf];try simp only [↓wR,RA,simprocAttr,TF,ae,h1])
   exact ⟨i+1,⟨hlt,hx⟩,by omega,by (first|rfl|trivial|omega|((try (simp (disch:=omega) only [ah]));(try (simp only [FB]));first|done|rfl|omega))⟩
 ·rw [dz (decide_eq_false h),List.any_nil] at hx
  simp only [↓wR,RA,simprocAttr,TF,ae,h]
  rw [hx]<;>rfl
def Mu (s:bo):Prop:=∀ d ∈ s.data,d.names≠[]
instance (s:bo):Decidable (Mu s):=inferInstanceAs (Decidable (∀ d ∈ s.data,d.names≠[]))
noncomputable def F6 (x:bk × be × bo × Unit):Option AV:=if (c6 x.1∧cy x.2.1)∧(dq x.2.2.1∧Mu x.2.2.1) then some ((r1 bn).E true (Jn x.1 x.2.1 x.2.2.1)) else none
set_option maxRecDepth 2000000 in
theorem aho (x:bk × be × bo × Unit) (r:AV) (h:F6 x=some r):bc PP 87 ((aC cr (aC bf (aC ak a0))).E x) r:=by
 by_cases hc:(c6 x.1∧cy x.2.1)∧(dq x.2.2.1∧Mu x.2.2.1)
 case neg=>simp only [F6,if_neg hc] at h;cases h
 simp only [F6,if_pos hc] at h
 cases h
 exact ba (aj.cons (ai Eh) (aj.cons (ai tl) (aj.cons (ai nj) (aj.nil PP)))) Tryz.func87 (by kernel_rfl) (by kernel_rfl) (by kernel_rfl) (Nat.le_of_ble_eq_true (by kernel_rfl)) (r1 bn) true (Jn x.1 x.2.1 x.2.2.1) (au6 x.1 x.2.1 x.2.2.1 hc.1.1 hc.1.2 hc.2.1 hc.2.2)
noncomputable abbrev aAr:Nat × Bool × (List AV→M AV):=(87,true,cx (aC cr (aC bf (aC ak a0))) F6)
noncomputable def Az (w:bk) (z:be) (s:bo):Int:=
 if (k8 z s.owner).isSome=false then 0
 else if (s.type.toNat:Int)=2 then (if Jn w z s=true then 305 else 0)
 else match mu w s.owner s.type with
  |none=>305
  |some t=>if wb s t=true then 0 else 305
noncomputable def Ba (w:bk) (z:be):List bo→Int
 | []=>0
 |s::r=>if Az w z s≠0 then Az w z s else Ba w z r
noncomputable def C4 (w:bk):Int:=ue (fun z=>Ba w z z.ar) w.az
theorem au7 {w:bk} {z:be} {l:List bo} {i:Nat} {c:bo} (h:l.drop i=c::l.drop (i+1)):Ba w z (l.drop i)=if Az w z c≠0 then Az w z c else Ba w z (l.drop (i+1)):=by rw [h];rfl
def Fi (w:bk):Prop:=∀ z ∈ w.az,∀ s ∈ z.ar,(s.type.toNat:Int)=2→Mu s
set_option maxHeartbeats 4000000 in
theorem aA6 (w:bk) (hw:c6 w) (hn:Fi w):wl PP [aw1,aAr,Vo,aqw] 0 (Tryz.f47.body.getD .skip) (dj PP Tryz.f47.results.toList (fun r st=>(r1 (ay .i64)).get true st.h r=some (C4 w))) (b9 0 [cr.val false w]) (bq []):=by
 have hl:=hw.Bw
 unfold Tryz.f47
 simp only [ed]
 simp only [↓wR,RA,simprocAttr,TF,ae]
 refine di [1,13,14,15] (fun (i:Nat)=>[.ptr 0 0,.vl false 2 (w.az.map (bf.val false)),.sc (.int .i64 (w.az.length)),.sc (.int .i64 (i))]) (fun _=>[some (.row [.vl false 2 (w.az.map (bf.val false)),.vl false 2 (w.dc.map (c8.val false)),.vl false 1 (w.hints.map (bg.val false))] 0 2 100)]) (fun i=>i≤w.az.length∧C4 w=ue (fun z=>Ba w z z.ar) (w.az.drop i)) (fun i=>w.az.length - i) 0 ⟨Nat.zero_le _,rfl⟩ (by simp only [↓wR,RA,simprocAttr,TF,ae]<;>rfl) (by simp only [↓wR,RA,simprocAttr,TF,ae]<;>rfl) ?_
 rintro i ⟨hi,hx⟩
 simp only [↓wR,RA,simprocAttr,TF,ae]
 rw [bm];refine ⟨fun h=>?_,fun h=>?_⟩
 ·obtain ⟨z,hz,hd1,hlt⟩:=dv (decide_eq_true h)
  rw [M5 _ hd1] at hx
  have hzm:=List.mem_of_getElem? hz
  have hzs:=hw.zone z hzm
  have hzl:=hzs.len
  simp only [↓wR,RA,simprocAttr,TF,ae,h,hz]
  refine di [1,4,13,14,15,20,21,22] (fun (k:Nat)=>[.ptr 0 0,.ptr 1 0,.vl false 2 (w.az.map (bf.val false)),.sc (.int .i64 (w.az.length)),.sc (.int .i64 (i)),.vl false 5 (z.ar.map (ak.val false)),.sc (.int .i64 (z.ar.length)),.sc (.int .i64 (k))]) (fun _=>[some (.row [.vl false 2 (w.az.map (bf.val false)),.vl false 2 (w.dc.map (c8.val false)),.vl false 1 (w.hints.map (bg.val false))] 0 2 100),some (.row [.vl false 1 (z.origin.map (aq.val false)),.vl false 5 (z.ar.map (ak.val false))] 0 2 26)]) (fun k=>k≤z.ar.length∧Ba w z z.ar=Ba w z (z.ar.drop k)) (fun k=>z.ar.length - k) 0 ⟨Nat.zero_le _,rfl⟩ (by simp only [↓wR,RA,simprocAttr,TF,ae]<;>rfl) (by simp only [↓wR,RA,simprocAttr,TF,ae]<;>rfl) ?_
  rintro k ⟨hk,hy⟩
  simp only [↓wR,RA,simprocAttr,TF,ae]
  rw [bm];refine ⟨fun h2=>?_,fun h2=>?_⟩
  ·obtain ⟨s,hs,hd2,hlt2⟩:=dv (decide_eq_true h2)
   rw [au7 hd2] at hy
   have hsm:=List.mem_of_getElem? hs
   have hss:=hzs.set s hsm
   have go0:Az w z s=0→Ba w z z.ar=Ba w z (z.ar.drop (k+1)):=fun q=>by rw [hy,if_neg (fun e=>e q)]
   have go5:Az w z s=305→C4 w=305:=fun q=>by rw [q,if_pos (by decide)] at hy;rw [hx,hy,if_pos (by decide)]
   simp only [↓wR,RA,simprocAttr,TF,ae,h2,hs,Eo,hzs,hss.owner]
   rw [br];refine ⟨fun h3=>?_,fun h3=>?_⟩
   ·have h3':(k8 z s.owner).isSome=false:=by simpa only [Bool.not_eq_true'] using h3
    have e0:=go0 (by unfold Az;rw [if_pos h3'])
    simp only [↓wR,RA,simprocAttr,TF,ae,h3];repeat (simp (disch:=omega) only [ah,cb,cd,cg,cf];try simp only [↓wR,RA,simprocAttr,TF,ae,h3])
    exact ⟨k+1,⟨hlt2,e0⟩,by omega,by (first|rfl|trivial|omega|((try (simp (disch:=omega) only [ah]));(try (simp only [FB]));first|done|rfl|omega))⟩
   have h3':(k8 z s.owner).isSome=true:=by simpa only [Bool.not_eq_false'] using h3
   simp only [↓wR,RA,simprocAttr,TF,ae,h3]
   rw [c9];refine ⟨fun ⟨h4,e4⟩=>?_,fun ⟨h4,e4⟩=>?_⟩
   ·have hnm:=hn z hzm s hsm e4
    simp only [↓wR,RA,simprocAttr,TF,ae,h4,F6,hw,hzs,hss,hnm]
    rw [br];refine ⟨fun h5=>?_,fun h5=>?_⟩
    ·have e0:=go5 (by unfold Az;rw [if_neg (by rw [h3'];decide),if_pos e4,if_pos h5])
     simp only [↓wR,RA,simprocAttr,TF,ae,h5]
     rw [e0]
    ·have e0:=go0 (by unfold Az;rw [if_neg (by rw [h3'];decide),if_pos e4,if_neg (by rw [h5];decide)])
     simp only [↓wR,RA,simprocAttr,TF,ae,h5];repeat (simp (disch:=omega) only [ah,cb,cd,cg,cf];try simp only [↓wR,RA,simprocAttr,TF,ae,h5])
     exact ⟨k+1,⟨hlt2,e0⟩,by omega,by (first|rfl|trivial|omega|((try (simp (disch:=omega) only [ah]));(try (simp only [FB]));first|done|rfl|omega))⟩
   have hg:Az w z s=match mu w s.owner s.type with|none=>305|some t=>if wb s t=true then 0 else 305:=by unfold Az;rw [if_neg (by rw [h3'];decide),if_neg e4]
   have htr:=K8 hw s.owner s.type
   simp only [↓wR,RA,simprocAttr,TF,ae,h4,Df,hw,hss.owner]
   cases ht:mu w s.owner s.type with
   |none=>
    rw [ht] at hg
    have e0:=go5 hg
    simp only [↓wR,RA,simprocAttr,TF,ae,Option.isSome_none]
    rw [e0]
   |some t=>
    rw [ht] at hg htr
    have hts:dq t:=by unfold dq;show lh ((some t).getD m5)≤16777216;omega
    simp only [↓wR,RA,simprocAttr,TF,ae,Option.isSome_some,Option.getD_some,E6,hss,hts]
    rw [br];refine ⟨fun h6=>?_,fun h6=>?_⟩
    ·have h6':wb s t=false:=by simpa only [Bool.not_eq_true'] using h6
     have e0:=go5 (by rw [hg];simp only;rw [h6',if_neg (by decide)])
     simp only [↓wR,RA,simprocAttr,TF,ae,h6]
     rw [e0]
    ·have h6':wb s t=true:=by simpa only [Bool.not_eq_false'] using h6
     have e0:=go0 (by rw [hg];simp only;rw [if_pos h6'])
     simp only [↓wR,RA,simprocAttr,TF,ae,h6];repeat (simp (disch:=omega) only [ah,cb,cd,cg,cf];try simp only [↓wR,RA,simprocAttr,TF,ae,h6])
     exact ⟨k+1,⟨hlt2,e0⟩,by omega,by (first|rfl|trivial|omega|((try (simp (disch:=omega) only [ah]));(try (simp only [FB]));first|done|rfl|omega))⟩
  ·rw [dz (decide_eq_false h2),Ba] at hy
   rw [hy,if_neg (by decide)] at hx
   simp only [↓wR,RA,simprocAttr,TF,ae,h2];repeat (simp (disch:=omega) only [ah,cb,cd,cg,cf];try simp only [↓wR,RA,simprocAttr,TF,ae,h2])
   exact ⟨i+1,⟨hlt,hx⟩,by omega,by (first|rfl|trivial|omega|((try (simp (disch:=omega) only [ah]));(try (simp only [FB]));first|done|rfl|omega))⟩
 ·rw [dz (decide_eq_false h)] at hx
  simp only [↓wR,RA,simprocAttr,TF,ae,h]
  rw [hx]<;>rfl
instance (w:bk):Decidable (Fi w):=inferInstanceAs (Decidable (∀ z ∈ w.az,∀ s ∈ z.ar,(s.type.toNat:Int)=2→Mu s))
noncomputable def Px (x:bk × Unit):Option AV:=if c6 x.1∧Fi x.1 then some ((r1 (ay .i64)).E true (C4 x.1)) else none
set_option maxRecDepth 2000000 in
theorem ap1 (x:bk × Unit) (r:AV) (h:Px x=some r):bc PP 47 ((aC cr a0).E x) r:=by
 by_cases hc:c6 x.1∧Fi x.1
 case neg=>simp only [Px,if_neg hc] at h;cases h
 simp only [Px,if_pos hc] at h
 cases h
 exact ba (aj.cons (ai Ot) (aj.cons (ai aho) (aj.cons (ai Eh) (aj.cons (ai Sx) (aj.nil PP))))) Tryz.func47 (by kernel_rfl) (by kernel_rfl) (by kernel_rfl) (Nat.le_of_ble_eq_true (by kernel_rfl)) (r1 (ay .i64)) true (C4 x.1) (aA6 x.1 hc.1 hc.2)
noncomputable abbrev aFk:Nat × Bool × (List AV→M AV):=(47,true,cx (aC cr a0) Px)
noncomputable def Kt (w:bk) (z:be) (i:Nat):Int:=
 if ((qw z).all fun n=>(mu w n 1).isSome)=true then (if ((oe w z).all fun a=>qb w a (i:Int))=true then 0 else 306) else 306
noncomputable def Lb (w:bk):List be→Nat→Int
 | [],_=>0
 |z::r,i=>if Kt w z i≠0 then 306 else Lb w r (i+1)
noncomputable def C6 (w:bk):Int:=Lb w w.az 0
theorem aw2 {w:bk} {l:List be} {i:Nat} {c:be} (k:Nat) (h:l.drop i=c::l.drop (i+1)):Lb w (l.drop i) k=if Kt w c k≠0 then 306 else Lb w (l.drop (i+1)) (k+1):=by rw [h];rfl
theorem ak5 {w:bk} (hw:c6 w) {z:be} (hz:xn z≤5242880):(oe w z).length≤140737488355328:=by
 have h1:∀ (l:List c0) (acc:List UInt32),(l.foldl Aj acc).length≤acc.length+l.length:=by
  intro l
  induction l with
  |nil=>intro acc;exact Nat.le_refl _
  |cons d l ih=>
   intro acc
   have:=ih (Aj acc d)
   have h2:(Aj acc d).length≤acc.length+1:=by unfold Aj;split<;>simp
   rw [List.foldl_cons,List.length_cons];omega
 have h2:∀ (l:List Name) (acc:List UInt32),((l.foldl (Ki w) acc).length:Int)≤(acc.length:Int)+(l.length:Int) * 5242880:=by
  intro l
  induction l with
  |nil=>intro acc;simp
  |cons n l ih=>
   intro acc
   have h3:=ih (Ki w acc n)
   have h4:=h1 ((mu w n 1).getD m5).data acc
   have h5:=K8 hw n 1
   have h6:=ru v8 ((mu w n 1).getD m5).data
   unfold lh at h5
   have h7:(Ki w acc n).length≤acc.length+5242880:=by unfold Ki;omega
   rw [List.foldl_cons,List.length_cons]
   have h8:((l.length+1:Nat):Int)=(l.length:Int)+1:=by omega
   rw [h8];omega
 have h3:=h2 (qw z) []
 have h4:=(Ko hz).1
 unfold oe
 simp only [List.length_nil] at h3
 omega
theorem aku {w:bk} {k:Nat} {z:be} (h:w.az[k]? = some z):zk w (k:Int)=oe w z:=by unfold zk;rw [pd,h]
set_option maxHeartbeats 4000000 in
theorem ak6 (w:bk) (hw:c6 w):wl PP [anp,Vo,aG6,amf] 0 (Tryz.f48.body.getD .skip) (dj PP Tryz.f48.results.toList (fun r st=>(r1 (ay .i64)).get true st.h r=some (C6 w))) (b9 0 [cr.val false w]) (bq []):=by
 have hl:=hw.Bw
 unfold Tryz.f48
 simp only [ed]
 simp only [↓wR,RA,simprocAttr,TF,ae]
 refine di [1,13,14,15] (fun (i:Nat)=>[.ptr 0 0,.vl false 2 (w.az.map (bf.val false)),.sc (.int .i64 (w.az.length)),.sc (.int .i64 (i))]) (fun _=>[some (.row [.vl false 2 (w.az.map (bf.val false)),.vl false 2 (w.dc.map (c8.val false)),.vl false 1 (w.hints.map (bg.val false))] 0 2 100)]) (fun i=>i≤w.az.length∧C6 w=Lb w (w.az.drop i) i) (fun i=>w.az.length - i) 0 ⟨Nat.zero_le _,rfl⟩ (by simp only [↓wR,RA,simprocAttr,TF,ae]<;>rfl) (by simp only [↓wR,RA,simprocAttr,TF,ae]<;>rfl) ?_
 rintro i ⟨hi,hx⟩
 simp only [↓wR,RA,simprocAttr,TF,ae]
 rw [bm];refine ⟨fun h=>?_,fun h=>?_⟩
 ·obtain ⟨z,hz,hd1,hlt⟩:=dv (decide_eq_true h)
  rw [aw2 i hd1] at hx
  have hzm:=List.mem_of_getElem? hz
  have hzs:=hw.zone z hzm
  obtain ⟨hnl,hns⟩:=Ko (hw.wt z hzm)
  have hsl:=ak5 hw (hw.wt z hzm)
  have hsome:(ng w (i:Int)).isSome=true:=by rw [pd,hz];rfl
  have hsv:=aku hz
  have bad:Kt w z i=306→C6 w=306:=fun q=>by rw [hx,q,if_pos (by decide)]
  simp only [↓wR,RA,simprocAttr,TF,ae,h,hz,I2,hzs]
  refine di [1,3,13,14,15,21,22,23] (fun (k:Nat)=>[.ptr 0 0,.sc (.int .i64 (i)),.vl false 2 (w.az.map (bf.val false)),.sc (.int .i64 (w.az.length)),.sc (.int .i64 (i)),.vl true 1 ((qw z).map (aw.val true)),.sc (.int .i64 ((qw z).length)),.sc (.int .i64 (k))]) (fun _=>[some (.row [.vl false 2 (w.az.map (bf.val false)),.vl false 2 (w.dc.map (c8.val false)),.vl false 1 (w.hints.map (bg.val false))] 0 2 100)]) (fun k=>k≤(qw z).length∧((qw z).all fun n=>(mu w n 1).isSome)=(((qw z).drop k).all fun n=>(mu w n 1).isSome)) (fun k=>(qw z).length - k) 0 ⟨Nat.zero_le _,rfl⟩ (by simp only [↓wR,RA,simprocAttr,TF,ae]<;>rfl) (by simp only [↓wR,RA,simprocAttr,TF,ae]<;>rfl) ?_
  rintro k ⟨hk,hy⟩
  simp only [↓wR,RA,simprocAttr,TF,ae]
  rw [bm];refine ⟨fun h2=>?_,fun h2=>?_⟩
  ·obtain ⟨n,hn,hd2,hlt2⟩:=dv (decide_eq_true h2)
   rw [hd2,List.all_cons] at hy
   simp only [↓wR,RA,simprocAttr,TF,ae,h2,hn,Oe,Df,hw,hns n (List.mem_of_getElem? hn)]
   rw [br];refine ⟨fun h3=>?_,fun h3=>?_⟩
   ·have h3':(mu w n 1).isSome=false:=by simpa only [Bool.not_eq_true'] using h3
    rw [h3',Bool.false_and] at hy
    have e0:=bad (by unfold Kt;rw [hy,if_neg (by decide)])
    simp only [↓wR,RA,simprocAttr,TF,ae,h3]
    rw [e0]
   ·have h3':(mu w n 1).isSome=true:=by simpa only [Bool.not_eq_false'] using h3
    rw [h3',Bool.true_and] at hy
    simp only [↓wR,RA,simprocAttr,TF,ae,h3];repeat (simp (disch:=omega) only [ah,cb,cd,cg,cf];try simp only [↓wR,RA,simprocAttr,TF,ae,h3])
    exact ⟨k+1,⟨hlt2,hy⟩,by omega,by (first|rfl|trivial|omega|((try (simp (disch:=omega) only [ah]));(try (simp only [FB]));first|done|rfl|omega))⟩
  rw [dz (decide_eq_false h2),List.all_nil] at hy
  simp only [↓wR,RA,simprocAttr,TF,ae,h2,Xk,hw,hsome,hsv]
  refine di [1,3,13,14,15,40,41,42] (fun (k:Nat)=>[.ptr 0 0,.sc (.int .i64 (i)),.vl false 2 (w.az.map (bf.val false)),.sc (.int .i64 (w.az.length)),.sc (.int .i64 (i)),.vl true 1 ((oe w z).map (bg.val true)),.sc (.int .i64 ((oe w z).length)),.sc (.int .i64 (k))]) (fun _=>[some (.row [.vl false 2 (w.az.map (bf.val false)),.vl false 2 (w.dc.map (c8.val false)),.vl false 1 (w.hints.map (bg.val false))] 0 2 100)]) (fun k=>k≤(oe w z).length∧((oe w z).all fun a=>qb w a (i:Int))=(((oe w z).drop k).all fun a=>qb w a (i:Int))) (fun k=>(oe w z).length - k) 0 ⟨Nat.zero_le _,rfl⟩ (by simp only [↓wR,RA,simprocAttr,TF,ae]<;>rfl) (by simp only [↓wR,RA,simprocAttr,TF,ae]<;>rfl) ?_
  rintro k ⟨hk,hu⟩
  simp only [↓wR,RA,simprocAttr,TF,ae]
  rw [bm];refine ⟨fun h4=>?_,fun h4=>?_⟩
  ·obtain ⟨a,ha,hd3,hlt3⟩:=dv (decide_eq_true h4)
   rw [hd3,List.all_cons] at hu
   simp only [↓wR,RA,simprocAttr,TF,ae,h4,ha,Bp,hw]
   rw [br];refine ⟨fun h5=>?_,fun h5=>?_⟩
   ·have h5':qb w a (i:Int)=false:=by simpa only [Bool.not_eq_true'] using h5
    rw [h5',Bool.false_and] at hu
    have e0:=bad (by unfold Kt;rw [if_pos hy,hu,if_neg (by decide)])
    simp only [↓wR,RA,simprocAttr,TF,ae,h5]
    rw [e0]
   ·have h5':qb w a (i:Int)=true:=by simpa only [Bool.not_eq_false'] using h5
    rw [h5',Bool.true_and] at hu
    simp only [↓wR,RA,simprocAttr,TF,ae,h5];repeat (simp (disch:=omega) only [ah,cb,cd,cg,cf];try simp only [↓wR,RA,simprocAttr,TF,ae,h5])
    exact ⟨k+1,⟨hlt3,hu⟩,by omega,by (first|rfl|trivial|omega|((try (simp (disch:=omega) only [ah]));(try (simp only [FB]));first|done|rfl|omega))⟩
  ·rw [dz (decide_eq_false h4),List.all_nil] at hu
   have e0:Kt w z i=0:=by unfold Kt;rw [if_pos hy,if_pos hu]
   rw [e0,if_neg (by decide)] at hx
   simp only [↓wR,RA,simprocAttr,TF,ae,h4];repeat (simp (disch:=omega) only [ah,cb,cd,cg,cf];try simp only [↓wR,RA,simprocAttr,TF,ae,h4])
   exact ⟨i+1,⟨hlt,hx⟩,by omega,by (first|rfl|trivial|omega|((try (simp (disch:=omega) only [ah]));(try (simp only [FB]));first|done|rfl|omega))⟩
 ·rw [dz (decide_eq_false h)] at hx
  simp only [↓wR,RA,simprocAttr,TF,ae,h]
  rw [hx]<;>rfl
noncomputable def N5 (x:bk × Unit):Option AV:=if c6 x.1 then some ((r1 (ay .i64)).E true (C6 x.1)) else none
set_option maxRecDepth 2000000 in
theorem api (x:bk × Unit) (r:AV) (h:N5 x=some r):bc PP 48 ((aC cr a0).E x) r:=by
 by_cases hc:c6 x.1
 case neg=>simp only [N5,if_neg hc] at h;cases h
 simp only [N5,if_pos hc] at h
 cases h
 exact ba (aj.cons (ai Wk) (aj.cons (ai Eh) (aj.cons (ai au4) (aj.cons (ai Oy) (aj.nil PP))))) Tryz.func48 (by kernel_rfl) (by kernel_rfl) (by kernel_rfl) (Nat.le_of_ble_eq_true (by kernel_rfl)) (r1 (ay .i64)) true (C6 x.1) (ak6 x.1 hc)
noncomputable abbrev aFb:Nat × Bool × (List AV→M AV):=(48,true,cx (aC cr a0) N5)
def D1 (w:bk):Int:=if (w.hints.all fun a=>qb w a (pz w []))=true then (if (w.hints.length:Int)=0 then 307 else 0) else 307
theorem awe (w:bk) (hw:c6 w):wl PP [V2,amf] 0 (Tryz.f49.body.getD .skip) (dj PP Tryz.f49.results.toList (fun r st=>(r1 (ay .i64)).get true st.h r=some (D1 w))) (b9 0 [cr.val false w]) (bq []):=by
 have hl:=hw.aEl
 have h0:bj []:=by decide
 unfold Tryz.f49
 simp only [ed]
 simp only [↓wR,RA,simprocAttr,TF,ae,zw,hw,h0]
 refine di [1,3,11,12,13] (fun (i:Nat)=>[.ptr 0 0,.sc (.int .i64 (pz w [])),.vl false 1 (w.hints.map (bg.val false)),.sc (.int .i64 (w.hints.length)),.sc (.int .i64 (i))]) (fun _=>[some (.row [.vl false 2 (w.az.map (bf.val false)),.vl false 2 (w.dc.map (c8.val false)),.vl false 1 (w.hints.map (bg.val false))] 0 2 100)]) (fun i=>i≤w.hints.length∧(w.hints.all fun a=>qb w a (pz w []))=((w.hints.drop i).all fun a=>qb w a (pz w []))) (fun i=>w.hints.length - i) 0 ⟨Nat.zero_le _,rfl⟩ (by simp only [↓wR,RA,simprocAttr,TF,ae]<;>rfl) (by simp only [↓wR,RA,simprocAttr,TF,ae]<;>rfl) ?_
 rintro i ⟨hi,hx⟩
 simp only [↓wR,RA,simprocAttr,TF,ae]
 unfold D1
 rw [bm];refine ⟨fun h=>?_,fun h=>?_⟩
 ·obtain ⟨a,ha,hd1,hlt⟩:=dv (decide_eq_true h)
  rw [hd1,List.all_cons] at hx
  simp only [↓wR,RA,simprocAttr,TF,ae,h,ha,Bp,hw]
  rw [br];refine ⟨fun h5=>?_,fun h5=>?_⟩
  ·have h5':qb w a (pz w [])=false:=by simpa only [Bool.not_eq_true'] using h5
   rw [h5',Bool.false_and] at hx
   rw [hx,if_neg (by decide)]
   simp only [↓wR,RA,simprocAttr,TF,ae,h5]
  ·have h5':qb w a (pz w [])=true:=by simpa only [Bool.not_eq_false'] using h5
   rw [h5',Bool.true_and] at hx
   simp only [↓wR,RA,simprocAttr,TF,ae,h5];repeat (simp (disch:=omega) only [ah,cb,cd,cg,cf];try simp only [↓wR,RA,simprocAttr,TF,ae,h5])
   exact ⟨i+1,⟨hlt,hx⟩,by omega,by (first|rfl|trivial|omega|((try (simp (disch:=omega) only [ah]));(try (simp only [FB]));first|done|rfl|omega))⟩
 ·rw [dz (decide_eq_false h),List.all_nil] at hx
  rw [if_pos hx]
  simp only [↓wR,RA,simprocAttr,TF,ae,h]
  rw [c9];refine ⟨fun ⟨h2,e2⟩=>?_,fun ⟨h2,e2⟩=>?_⟩
  ·rw [if_pos e2]
   simp only [↓wR,RA,simprocAttr,TF,ae,h2]
  ·rw [if_neg e2]
   simp only [↓wR,RA,simprocAttr,TF,ae,h2]
noncomputable def Ka (x:bk × Unit):Option AV:=if c6 x.1 then some ((r1 (ay .i64)).E true (D1 x.1)) else none
set_option maxRecDepth 2000000 in
theorem ale (x:bk × Unit) (r:AV) (h:Ka x=some r):bc PP 49 ((aC cr a0).E x) r:=by
 by_cases hc:c6 x.1
 case neg=>simp only [Ka,if_neg hc] at h;cases h
 simp only [Ka,if_pos hc] at h
 cases h
 exact ba (aj.cons (ai Ct) (aj.cons (ai Oy) (aj.nil PP))) Tryz.func49 (by kernel_rfl) (by kernel_rfl) (by kernel_rfl) (Nat.le_of_ble_eq_true (by kernel_rfl)) (r1 (ay .i64)) true (D1 x.1) (awe x.1 hc)
noncomputable abbrev aD4:Nat × Bool × (List AV→M AV):=(49,true,cx (aC cr a0) Ka)
end Go.Proofs.YtajammoepjpiiaaGreat
end
namespace Go.Vm
noncomputable section
inductive Bz:bh→bh→Prop
 |rfl (x:bh):Bz x x
 |perm (es es':List (Value × AV)) (h:es.Perm es') (hl:loose es=true):Bz (.map es) (.map es')
theorem Bz.ghost {x y} (hs:Bz x y) (h:Ck y):Ck x:=by
 cases hs with
 |rfl=>exact h
 |perm es es' hp hl=>obtain ⟨s,e,he⟩:=h;cases he
theorem Bz.obj {g w b base x y} (hs:Bz x y) (h:oc g w b base y):oc g w b base x:=by
 cases hs with
 |rfl=>exact h
 |perm es es' hp hl=>
  obtain ⟨h0,ms,clock,h1,h2,h3,h4,l,h5,h6,h7⟩:=h
  refine ⟨h0,ms,clock,h1,by rw [h2,hp.length_eq],h3,h4,?_⟩
  have hlen:l.length=es'.length:=by rw [h5.length_eq,← h2];simp
  have key:∀ (k k':List (Value × AV)),k.Perm k'→∀ l':List MapEntry,l'.length=k'.length→(∀ (i:Nat) e m,k'[i]? = some e→l'[i]? = some m→m.key=e.1∧Rel g w e.2 m.val) →
   ∃ l:List MapEntry,l.Perm l'∧l.length=k.length∧(∀ (i:Nat) e m,k[i]? = some e→l[i]? = some m→m.key=e.1∧Rel g w e.2 m.val):=by
   intro k k' hp
   induction hp with
   |nil=>intro l' hl' hr;exact ⟨l',.refl _,hl',hr⟩
   |cons a _ ih=>
    intro l' hl' hr
    cases l' with
    |nil=>simp at hl'
    |cons m l'=>
     obtain ⟨l,q1,q2,q3⟩:=ih l' (by simpa using hl') (fun i e m' he hm=>hr (i+1) e m' (by simpa using he) (by simpa using hm))
     refine ⟨m::l,q1.cons m,by simp [q2],fun i e m' he hm=>?_⟩
     cases i with
     |zero=>exact hr 0 e m' (by simpa using he) (by simpa using hm)
     |succ i=>exact q3 i e m' (by simpa using he) (by simpa using hm)
   |swap a b k=>
    intro l' hl' hr
    match l',hl' with
    |m::n::l',hl'=>
     refine ⟨n::m::l',List.Perm.swap _ _ _,by simpa using hl',fun i e m' he hm=>?_⟩
     match i with
     |0=>exact hr 1 e m' (by simpa using he) (by simpa using hm)
     |1=>exact hr 0 e m' (by simpa using he) (by simpa using hm)
     |i+2=>exact hr (i+2) e m' (by simpa using he) (by simpa using hm)
   |trans _ _ ih1 ih2=>
    intro l' hl' hr
    obtain ⟨l2,q1,q2,q3⟩:=ih2 l' hl' hr
    obtain ⟨l1,p1,p2,p3⟩:=ih1 l2 q2 q3
    exact ⟨l1,p1.trans q1,p2,p3⟩
  obtain ⟨l2,q1,_,q3⟩:=key es es' hp l hlen h6
  exact ⟨l2,q1.trans h5,q3,.inr hl⟩
theorem Ok.agy {g h h' w} (hok:Ok g h' w) (hs:∀ o x,h.get o=some x→∃ y,h'.get o=some y∧Bz x y):Ok g h w:=by
 refine ⟨hok.size,fun o x hx=>?_,fun o o' x x' b base base' hne hx hx'=>?_,hok.K⟩
 ·obtain ⟨y,h1,h2⟩:=hs o x hx
  refine (hok.nn o y h1).imp (fun q=>⟨q.1,h2.ghost q.2⟩) ?_
  rintro ⟨b,base,q1,q2,q3⟩
  exact ⟨b,base,q1,q2,h2.obj q3⟩
 ·obtain ⟨y,h1,_⟩:=hs o x hx
  obtain ⟨y',h1',_⟩:=hs o' x' hx'
  exact hok.sep o o' y y' b base base' hne h1 h1'
theorem ac3 {h h':Tr bh} (hs:∀ o x,h.get o=some x→∃ y,h'.get o=some y∧Bz x y) {o:Nat} (ho:(h.get o).isSome=true):(h'.get o).isSome=true:=by
 obtain ⟨x,hx⟩:=Option.isSome_iff_exists.1 ho
 obtain ⟨y,h1,_⟩:=hs o x hx
 rw [h1];rfl
structure Lit where
 i:Nat
 d:TypeDesc
 e:Value × AV
def qy (lits:List Lit) (D:Nat→Bool):List (Value × AV):=(lits.filter fun q=>D q.i).map (·.e)
structure ae4 (lits:List Lit):Prop where
 idx:(lits.map (·.i)).Nodup
 apart:∀ q ∈ lits,∀ r ∈ lits,q.i≠r.i→oi q.e.1 r.e.1=true∧Instr.sameNow q.d q.e.1 r.e.1=some false
theorem aim {lits:List Lit} {D:Nat→Bool} {e:Value × AV} (h:e ∈ qy lits D):∃ q ∈ lits,D q.i=true∧q.e=e:=by
 simp only [qy,List.mem_map,List.mem_filter] at h
 obtain ⟨q,⟨h1,h2⟩,h3⟩:=h
 exact ⟨q,h1,h2,h3⟩
theorem Rg {D:Nat→Bool}:∀ {lits:List Lit},ae4 lits→po (qy lits D)=true
 | [],_=>rfl
 |q::l,h=>by
  have hl:ae4 l:=⟨by have:=h.idx;rw [List.map_cons,List.nodup_cons] at this;exact this.2,fun a ha b hb=>h.apart a (by simp [ha]) b (by simp [hb])⟩
  have ih:=Rg (D:=D) hl
  unfold qy at ih ⊢
  rw [List.filter_cons]
  split
  ·simp only [List.map_cons,po,Bool.and_eq_true,List.all_eq_true]
   refine ⟨fun x hx=>?_,ih⟩
   obtain ⟨r,h1,_,rfl⟩:=aim (D:=D) hx
   refine (h.apart q (by simp) r (by simp [h1]) (fun e=>?_)).1
   have:=h.idx
   rw [List.map_cons,List.nodup_cons] at this
   exact this.1 (by rw [e];exact List.mem_map_of_mem h1)
  ·exact ih
theorem awv {lits:List Lit} (h:(lits.map (·.i)).Nodup) {D:Nat→Bool} {q:Lit} (hq:q ∈ lits) (hD:D q.i=false):(qy lits (kl D q.i)).Perm (qy lits D++[q.e]):=by
 induction lits with
 |nil=>cases hq
 |cons a l ih=>
  rw [List.map_cons,List.nodup_cons] at h
  unfold qy at ih ⊢
  rcases List.mem_cons.1 hq with rfl|hq
  ·rw [List.filter_cons_of_pos (by simp [kl]),List.filter_cons_of_neg (by simp [hD])]
   have:l.filter (fun r=>kl D q.i r.i)=l.filter (fun r=>D r.i):=by
    refine List.filter_congr fun r hr=>?_
    have:r.i≠q.i:=fun e=>h.1 (by rw [← e];exact List.mem_map_of_mem hr)
    simp [kl,this]
   rw [this,List.map_cons]
   exact (List.perm_append_singleton _ _).symm
  ·have hne:a.i≠q.i:=fun e=>h.1 (by rw [e];exact List.mem_map_of_mem hq)
   have hu:kl D q.i a.i=D a.i:=by simp [kl,hne]
   cases hb:D a.i with
   |true=>
    rw [List.filter_cons_of_pos (by rw [hu,hb]),List.filter_cons_of_pos (by rw [hb])]
    exact (ih h.2 hq).cons _
   |false=>
    rw [List.filter_cons_of_neg (by rw [hu,hb];simp),List.filter_cons_of_neg (by rw [hb];simp)]
    exact ih h.2 hq
theorem aos {lits:List Lit} {D:Nat→Bool} {i:Nat} (h:∀ q ∈ lits,q.i≠i):qy lits (kl D i)=qy lits D:=by
 unfold qy
 congr 1
 exact List.filter_congr fun q hq=>by simp [kl,h q hq]
theorem asl {lits:List Lit} {D:Nat→Bool} (h:∀ q ∈ lits,D q.i=false):qy lits D=[]:=by
 unfold qy
 rw [List.filter_eq_nil_iff.2 (fun q hq=>by simp [h q hq])]
 rfl
theorem axd {lits:List Lit} {D:Nat→Bool} (h:∀ q ∈ lits,D q.i=true):qy lits D=lits.map (·.e):=by
 unfold qy
 rw [List.filter_eq_self.2 (fun q hq=>h q hq)]
theorem O5 (d:TypeDesc) (k:Value):∀ (l:List MapEntry) (i:Nat),(∀ m ∈ l,Instr.sameNow d k m.key=some false)→Instr.findNow d k l i=some none
 | [],_,_=>rfl
 |m::l,i,h=>by
  rw [Instr.findNow,h m (by simp)]
  exact O5 d k l (i+1) (fun m hm=>h m (by simp [hm]))
theorem Vy {P:Program} {kt:TypeId} {d:TypeDesc} {k:Value} {es:List (Value × AV)} (hu:P.underlying kt=some d) (h:∀ e ∈ es,Instr.sameNow d k e.1=some false):qa P kt k es=some none:=by
 have hf:Instr.findNow d k (mw es) 0=some none:=O5 d k _ 0 (fun m hm=>by
  simp only [mw,List.mem_map] at hm
  obtain ⟨e,he,rfl⟩:=hm
  exact h e he)
 have hn:Ll P kt k es=true:=by unfold Ll;rw [hu];simp only;rw [hf];rfl
 unfold qa
 rw [hn,Bool.or_true,cond_true]
 have hevu:ev P (underlying kt)=some d:=by
  simp [underlying,program,ev,hu,ny,uc,Sem.bind,bind]
 have:ev P (Instr.findKey kt k (mw es))=some none:=by
  unfold Instr.findKey
  rw [ny,hevu]
  simp only [Option.bind_some]
  rw [hf];rfl
 rw [this];rfl
theorem Step.agy {g h w lo hi g' h' h'' w'} (s:Step g h w lo hi g' h' w') (hs:∀ o x,h''.get o=some x→∃ y,h'.get o=some y∧Bz x y):Step g h w lo hi g' h'' w':=
 ⟨s.ext,s.size,s.os,s.tape,s.output,s.frame,s.fresh,fun o b base ho hi=>s.own o b base (ac3 hs ho) hi,s.pw⟩
def u5 (o:Oper):Bool:=match o.op with|.insert .. => true|_=>false
def xa (ops:Array Oper) (L:SL) (o:Oper):Option Bool:=bif u5 o then some false else za ops L o
def aol (P:Program) (T:eg) (ops:Array Oper) (E:List Rec→Prop):List Oper→(SL→St→Prop)→List Rec→SL→St→Prop
 | [],K=>fun recs L st=>E recs∧K L st
 |o::r,K=>fun recs L st=>(xa ops L o=some true∧Uf P T o recs (aol P T ops E r K) L st)∨(xa ops L o=some false∧aol P T ops E r K (recs++[⟨[],[]⟩]) (ia o.dst (.sc undef) L) st)
theorem awn {P:Program} {T:eg} {ops:Array Oper} {E:List Rec→Prop} {K:SL→St→Prop}:∀ (l:List Oper) (L:SL) (st:St) (recs:List Rec),aol P T ops E l K recs L st →
 ∃ ds L' st',ds.map (·.o)=l∧(∀ d ∈ ds,DSRun P T d∧xa ops d.L d.o=some d.want)∧Qm ds L st L' st'∧E (recs++ds.map fun d=>⟨d.R,d.W⟩)∧K L' st':=by
 intro l
 induction l with
 |nil=>intro L st recs h;exact ⟨[],L,st,rfl,by simp,⟨rfl,rfl⟩,by simpa using h.1,h.2⟩
 |cons o l ih=>
  intro L st recs h
  rcases h with ⟨hb,F,W,v,bp,hop,h4,h5,h6,h7,h8⟩|⟨hb,h3⟩
  ·obtain ⟨ds,L',st',e1,e2,e3,e4,e5⟩:=ih _ _ _ h8
   have hle:=zd hop
   refine ⟨{ o,L,st,want:=true,v,bp,R:=F,W:=W++dw st.nx (bp.nx - st.nx) }::ds,L',st',by simp [e1],?_,⟨rfl,rfl,?_⟩,?_,e5⟩
   ·intro d hd
    rcases List.mem_cons.1 hd with rfl|hd
    ·refine ⟨⟨fun _=>⟨hop,h6,h7,fun q=>?_,fun q hq hn=>?_⟩,fun e=>by cases e⟩,hb⟩
     ·simp only [List.mem_append,ja]
      constructor
      ·rintro (hq|hq)
       ·exact .inl ⟨.inl hq,h4 q hq⟩
       ·exact .inr ⟨hq.1,by simp at hle;omega⟩
      ·rintro (hq|hq)
       ·exact hq.1
       ·exact .inr ⟨hq.1,by omega⟩
     ·have:=h5 q hq (fun hw=>hn (List.mem_append.2 (.inl hw)))
      rw [rk _ _ _ (fun p hp=>by have:=h6 p hp;simp at hle;omega),if_pos hq] at this
      exact this
    ·exact e2 d hd
   ·exact e3
   ·simpa [List.append_assoc] using e4
  ·obtain ⟨ds,L',st',e1,e2,e3,e4,e5⟩:=ih _ _ _ h3
   refine ⟨{ o,L,st,want:=false,v:=.sc undef,bp:=st,R:=[],W:=[] }::ds,L',st',by simp [e1],?_,⟨rfl,rfl,?_⟩,?_,e5⟩
   ·intro d hd
    rcases List.mem_cons.1 hd with rfl|hd
    ·exact ⟨⟨(fun e=>by cases e),fun _=>⟨rfl,rfl,rfl,rfl⟩⟩,hb⟩
    ·exact e2 d hd
   ·exact e3
   ·simpa [List.append_assoc] using e4
theorem awu {P:Program} {T:eg} {ops:Array Oper} {ds:List DS} {L:SL} {st:St} {L':SL} {st':St} (hs:nl ops=true) (e1:ds.map (·.o)=ops.toList) (e2:∀ d ∈ ds,DSRun P T d) (e3:Qm ds L st L' st'):vc P T ops ds L st L' st':=by
 obtain ⟨c1,c2,c3,c4⟩:=adt e2 e3
 unfold nl at hs
 rw [Bool.and_eq_true] at hs
 refine ⟨e1,e2,c1,⟨c2,c3,c4⟩,fun i k x y t hik hx hy ht hdt=>?_,fun i o ho e he hb=>?_⟩
 ·have hxi:(x.o,i) ∈ ops.toList.zipIdx:=by
   rw [List.mem_zipIdx_iff_getElem?,← e1];simp [hx]
  have hyk:(y.o,k) ∈ ops.toList.zipIdx:=by
   rw [List.mem_zipIdx_iff_getElem?,← e1];simp [hy]
  have h1:=List.all_eq_true.1 hs.1 _ hxi
  have h2:=List.all_eq_true.1 h1 t ht
  have h3:=List.all_eq_true.1 h2 _ hyk
  simp only [hdt,Bool.or_eq_true] at h3
  rcases h3 with (h3|h3)|h3
  ·simp at h3
  ·simp at h3;omega
  ·rw [Nat.max_comm,Nat.min_comm];exact h3
 ·have hoi:(o,i) ∈ ops.toList.zipIdx:=by rw [List.mem_zipIdx_iff_getElem?];simpa using ho
  have h1:=List.all_eq_true.1 hs.2 _ hoi
  rw [Array.all_eq_true_iff_forall_mem] at h1
  have:=h1 e he
  rw [hb] at this
  simpa using this
theorem azw {ops:Array Oper} {ds:List DS} (e4:ea (Region.before ops) 0 (ds.map fun d=>⟨d.R,d.W⟩)=true):Calm ops ds:=fun i k x y hik hx hy=>by
 have:=Ii _ 0 e4 i k ⟨x.R,x.W⟩ ⟨y.R,y.W⟩ hik (by simp [hx]) (by simp [hy])
 simp only [xu,Nat.zero_add,Bool.or_eq_true,Bool.and_eq_true] at this
 rcases this with h1|h1
 ·exact .inr ⟨h1.1.1,h1.1.2,h1.2⟩
 ·exact .inl h1
end
end Go.Vm
namespace Go.Vm
noncomputable section
theorem At.ins {H:(Nat→Bool)→Nat→Option bh} {P:Program} {T:eg} (hT:oz P T) {ops:Array Oper} {ds:List DS} {L0:SL} {g0:Gh} {st0:St} {w0:World} {df:List Deferred} {ro:Option Nat} {N:Nat} {nt:Nat} {L':SL} {st':St} (R:vc P T ops ds L0 st0 L' st')
 {D:Nat→Bool} {a:Act} {w:World} {i:Nat} {d:DS} (hi:ds[i]? = some d) (hD:D i=false) (hr:∀ e ∈ d.o.after,Region.binds .any e=true→D e.on=true) (A:At H ops ds L0 g0 st0 w0 df nt (ju ds st0.nx ds.length) D a w)
 {t:TypeId} {m k x:Operand} (hop:d.o.op = .insert t m k x) (hdst:d.o.dst=none) (hgd:d.o.guard=none) {p:Nat} {kt et:TypeId} {key:Value} (hu:P.underlying t=some (.map kt et)) (hm:ct d.o d.L m = .mp p) (hkey:(ct d.o d.L k).ft=some key)
 (hck:ev P (Instr.checkKey false 10000 kt key)=some ()) {es:List (Value × AV)} (hes:H D p=some (.map es)) (hlim:p≤cw) (hplt:p<ju ds st0.nx ds.length) (hfind:qa P kt key es=some none) (hst:stays es (es++[(key,ct d.o d.L x)])=true)
 {es':List (Value × AV)} (hes':H (kl D i) p=some (.map es')) (hsame:Bz (.map es') (.map (es++[(key,ct d.o d.L x)]))) (hoth:∀ o,o≠p→H (kl D i) o=H D o)
 {Q:Exit→Act→World→Prop} {K:Act→World→Prop} (hK:∀ a' w',At H ops ds L0 g0 st0 w0 df nt (ju ds st0.nx ds.length) (kl D i) a' w'→K a' w'):wpOpIn (gq ro) N P ops Q i K a w:=by
 have ho:=R.get hi
 have hbef:=xy A.closed ho hr
 have hcl:=A.closed.kl ho hr
 obtain ⟨a1,a2,a3,a4⟩:=R.w4 i d hi
 obtain ⟨g,h,h1,h2,h3,h4,h5⟩:=A.mem
 have slot:∀ t ∈ v9 ops d.o,kf ds L0 D ds.length t=lk d.L t:=by
  intro t ht
  have hlt:i<ds.length:=(List.getElem?_eq_some_iff.1 hi).1
  have:=Oc (L0:=L0) (D:=D) (i:=i) (t:=t) (ds:=ds) (fun k e hk he=>?_) ds.length
  ·rw [this,a1 t];congr 1;omega
  ·rcases Nat.lt_trichotomy k i with hlt'|rfl|hgt
   ·have:=R.slots i k d e t (by omega) hi hk ht he
    rw [show max i k=i from by omega,show min i k=k from by omega] at this
    exact ⟨fun _=>hlt',fun _=>hbef k this⟩
   ·exact ⟨(fun q=>by rw [hD] at q;cases q),(fun q=>by omega)⟩
   ·have:=R.slots i k d e t (by omega) hi hk ht he
    rw [show max i k=k from by omega,show min i k=i from by omega] at this
    exact ⟨(fun q=>by have:=A.closed k i q this;rw [hD] at this;cases this),(fun q=>by omega)⟩
 have mono1:∀ i d,ds[i]? = some d→d.st.nx=ju ds st0.nx i∧d.st.nx≤d.bp.nx:=fun i d hd=>⟨(R.w4 i d hd).2.2.1,(R.w4 i d hd).2.2.2⟩
 have hp:∀ q ∈ [p],q≤cw:=fun q hq=>by rw [List.mem_singleton] at hq;subst hq;exact hlim
 have hmask:∀ o,(ki h [p]).get o=if o=p then h.get o else none:=fun o=>by rw [rk _ _ _ hp];simp
 have hsub:∀ o x,(ki h [p]).get o=some x→h.get o=some x:=fun o x hx=>by
  rw [hmask] at hx
  by_cases e:o=p
  ·rw [if_pos e] at hx;exact hx
  ·rw [if_neg e] at hx;cases hx
 have hrel:oa g w (ct d.o d.L) a.eval:=U3 fun t ⟨x,hx,e⟩=>by
  have hu:t ∈ v9 ops d.o:=by
   simp only [v9,List.mem_append,List.mem_filterMap]
   exact .inl (.inr ⟨x,hx,by rw [e]⟩)
  rw [← slot t hu]
  exact h4 t
 have hgp:(ki h [p]).get p=some (.map es):=by rw [hmask,if_pos rfl,h1,hes]
 obtain ⟨bp,hst1⟩:∃ bp:St,bp = { h:=(ki h [p]).set depth p (some (.map (es++[(key,ct d.o d.L x)]))),nx:=ju ds st0.nx ds.length,rl:=[p],wl:=[p] }:=⟨_,rfl⟩
 have hrun:fo P T d.o (ct d.o d.L) { h:=ki h [p],nx:=ju ds st0.nx ds.length,rl:=[],wl:=[] }=some (.sc undef,bp):=by
  have h6:Dm P d.o (ct d.o d.L) { h:=ki h [p],nx:=ju ds st0.nx ds.length,rl:=[],wl:=[] }=some (.sc undef,bp):=by
   unfold Dm
   rw [hop]
   simp only [m6,hu,hm,hkey,M.bind,de,hgp,rj,hck,hfind,hst,cond_true,jd,M.pure,hst1]
   rw [show Nat.ble p cw=true from Nat.ble_eq_true_of_le hlim]
   rfl
  have h7:fo P T d.o (ct d.o d.L)=mono (Dm P d.o (ct d.o d.L)):=by unfold fo;rw [hop]
  rw [h7,mono,h6]
  simp only
  rw [hst1]
  simp only
  rw [show Nat.ble (ju ds st0.nx ds.length) (ju ds st0.nx ds.length)=true from Nat.ble_eq_true_of_le (Nat.le_refl _)]
  rfl
 unfold wpOpIn
 rw [ho]
 dsimp only
 rw [if_pos (by simp [Region.wanted,hgd])]
 refine H6 hT (h2.part hsub) (fun o q1 q2=>by rw [hst1] at q2;exact absurd (Nat.lt_of_le_of_lt q1 q2) (Nat.lt_irrefl _)) (fun o x hx=>?_) hrel hrun ro N _ _ ?_
 ·have hx':(ki h [p]).get o=some x:=hx
  rw [hmask] at hx'
  by_cases e:o=p
  ·subst e;exact hplt
  ·rw [if_neg e] at hx';cases hx'
 rintro u w' ⟨g',q1,q2,q3⟩
 have hget1:∀ o,bp.h.get o=if o=p then some (.map (es++[(key,ct d.o d.L x)])) else none:=fun o=>by
  rw [hst1]
  simp only
  rw [fj _ _ _ _ hlim,hmask]
  by_cases e:o=p
  ·rw [if_pos e,if_pos e]
  ·rw [if_neg e,if_neg e,if_neg e]
 have hfs:=Vh (h':=qm bp.h [p] h) (S:=fun o=>o ∈ [p]) h2 hsub (fun o x hx=>by
  rw [hmask] at hx
  by_cases e:o=p
  ·rw [e];exact List.mem_singleton.2 rfl
  ·rw [if_neg e] at hx;cases hx) q1 q2 (fun o hS=>by rw [pc _ _ _ _ hp,if_pos hS]) (fun o hS=>by rw [pc _ _ _ _ hp,if_neg hS]) (fun o e1 e2=>by rw [hst1] at e2;exact absurd (Nat.lt_of_le_of_lt e1 e2) (Nat.lt_irrefl _))
 have hH:∀ o,((qm bp.h [p] h).set depth p (some (.map es'))).get o=H (kl D i) o:=fun o=>by
  rw [fj _ _ _ _ hlim]
  by_cases e:o=p
  ·rw [if_pos e,e,hes']
  ·rw [if_neg e,pc _ _ _ _ hp,if_neg (by simpa using e),h1,hoth o e]
 have hcov:∀ o y,((qm bp.h [p] h).set depth p (some (.map es'))).get o=some y→∃ z,(qm bp.h [p] h).get o=some z∧Bz y z:=fun o y hy=>by
  rw [fj _ _ _ _ hlim] at hy
  by_cases e:o=p
  ·rw [if_pos e] at hy
   cases hy
   refine ⟨_,?_,hsame⟩
   rw [pc _ _ _ _ hp,if_pos (by simpa using e),hget1,if_pos e]
  ·rw [if_neg e] at hy
   exact ⟨y,hy,.rfl _⟩
 have hnx1:bp.nx=ju ds st0.nx ds.length:=by rw [hst1]
 refine hK _ _ ⟨⟨g',_,hH,hfs.2.agy hcov,(h3.both ((by have:=hfs.1;rw [hnx1] at this;exact this.adg (l8 mono1 ds.length 0 (Nat.zero_le _)) (Nat.le_refl _)))).agy hcov,fun t=>?_,fun k e hk hkD o o1 o2=>?_⟩,by rw [Ua];exact A.size,by rw [put_defers];exact A.defers,hcl⟩
 ·rw [Tu hi (fun q=>by rw [hdst] at q;cases q),if_neg (fun q=>by have:=q.1;rw [hdst] at this;cases this),hdst]
  exact (h4 t).ext q1.ext
 ·have hki:k≠i:=fun q=>by subst q;simp [kl] at hkD
  simp only [kl,if_neg hki] at hkD
  exact q1.fresh o (h5 k e hk hkD o o1 o2) (fun q=>by have:=q.2;rw [hnx1] at this;exact absurd (Nat.lt_of_le_of_lt q.1 this) (Nat.lt_irrefl _))
theorem abt {P:Program} {T:eg} (hm:P.follows .mixedOrders=true) {H:(Nat→Bool)→Nat→Option bh} {ops:Array Oper} {ro:Option Nat} {N:Nat} {B:gv} {nt id:Nat} {Q:Exit→Act→World→Prop} {ds:List DS} {L:SL} {st:St} {L':SL} {st' stF:St} (R:vc P T ops ds L st L' st')
 {g:Gh} {w:World} {a:Act} (h0:∀ o,H (fun _=>false) o=st.h.get o) (hF:∀ D,(∀ i,i<ds.length→D i=true)→∀ o,H D o=stF.h.get o) (hnF:stF.nx=st'.nx)
 (hstep:∀ (w0:World) (D:Nat→Bool) (a':Act) (w':World) (i:Nat) (d:DS) (Q:Exit→Act→World→Prop) (K:Act→World→Prop),ds[i]? = some d→D i=false→(∀ e ∈ d.o.after,Region.binds .any e=true→D e.on=true)→At H ops ds L g st w0 a.defers nt (ju ds st.nx ds.length) D a' w'→(∀ a'' w'',At H ops ds L g st w0 a.defers nt (ju ds st.nx ds.length) (kl D i) a'' w''→K a'' w'')→wpOpIn (gq ro) N P ops Q i K a' w')
 (hnear:B.wx st.nx st'.nx) (hc:ga B g st w) (hr:eh g w nt L a.tmps) (hd:Marks B.n0 st.h g w a.defers)
 (hK:∀ g w a',ga B g stF w→eh g w nt L' a'.tmps→Marks B.n0 stF.h g w a'.defers→a'.defers=a.defers→Q .normal a' w) :
 (Code.region id ops true).wpIn (gq ro) N P Q a w:=by
 have c1:=R.w4
 obtain ⟨c2,c3,c4⟩:=R.fin
 have hc1:=hc.drawn
 have hd':Marks B.n0 st.h g { w with drawn:=w.drawn+1 } a.defers:=hd
 have mono1:∀ i d,ds[i]? = some d→d.st.nx=ju ds st.nx i∧d.st.nx≤d.bp.nx:=fun i d hd=>⟨(c1 i d hd).2.2.1,(c1 i d hd).2.2.2⟩
 refine wpIn_region_any hm (ark (H:=H) (L0:=L) (g0:=g) (st0:=st) (w0:={ w with drawn:=w.drawn+1 }) (df:=a.defers) R (fun D a w i d Q K hi hD hr A hK=>hstep _ D a w i d Q K hi hD hr A hK) ?_ ops.size _ a _ (by simp) ?_ ?_)
 ·intro D a' w' hall A
  obtain ⟨g',h',q1,q2,q3,q4,q5⟩:=A.mem
  have hh:∀ o,h'.get o=stF.h.get o:=fun o=>by rw [q1 o,hF D hall o]
  have hle:st.nx≤st'.nx:=by rw [c4];exact l8 mono1 ds.length 0 (Nat.zero_le _)
  refine hK g' w' a' (hc1.step (st':=stF) (by rw [hnF];exact hnear) ⟨by rw [hnF];exact hle,?_⟩ (q2.congr hh)) ⟨A.size,fun t=>?_⟩ (by rw [A.defers];exact Marks.congr (Marks.step q3 hd') hh) A.defers
  ·rw [hnF,c4];exact q3.congr hh
  ·rw [c2 t,← T7 _ hall];exact q4 t
 ·exact Zc _ _
 ·have hf:(fun k=>(Array.replicate ops.size false).getD k false)=fun _=>false:=by
   funext k
   simp only [Array.getD_eq_getD_getElem?,Array.getElem?_replicate]
   split<;>rfl
  rw [hf]
  exact ⟨⟨g,st.h,fun o=>(h0 o).symm,hc1.ok,.refl _ _ _ _ _,fun t=>by
   rw [Pp];exact (hr.2 t).ext (Ext.same (w:=w) (w':={ w with drawn:=w.drawn+1 }) rfl),fun i d hd _ o h1 h9=>hc.fresh o (by
   have:=l8 mono1 i 0 (Nat.zero_le _)
   rw [(c1 i d hd).2.2.1] at h1
   exact Nat.le_trans this h1) (hnear o (by
   have:=l8 mono1 i 0 (Nat.zero_le _)
   rw [(c1 i d hd).2.2.1] at h1
   exact Nat.le_trans this h1) (by
   rw [c4]
   have h10:=l8 mono1 ds.length (i+1) (List.getElem?_eq_some_iff.1 hd).1
   rw [ju.eq_2,hd] at h10
   exact Nat.lt_of_lt_of_le h9 h10))⟩,hr.1,rfl,fun i k hik=>by cases hik⟩
theorem Fz {ds:List DS} {h0:Tr bh} {D:Nat→Bool} {p:Nat}:∀ m,(∀ k e,k<m→ds[k]? = some e→D k=true→p ∉ e.W)→j4 ds h0 D m p=h0.get p
 |0,_=>rfl
 |m+1,h=>by
  have ih:=Fz (h0:=h0) (D:=D) (p:=p) m (fun k e hk=>h k e (by omega))
  rw [j4]
  cases hd:ds[m]? with
  |none=>exact ih
  |some d=>
   simp only
   rw [if_neg (fun q=>h m d (by omega) hd q.1 q.2),ih]
theorem aa1 {ds:List DS} {h0:Tr bh} {D:Nat→Bool} {p k0:Nat} {d:DS} (hd:ds[k0]? = some d) (hW:p ∈ d.W) (hD:D k0=true) (ho:∀ k e,ds[k]? = some e→k≠k0→p ∉ e.W):∀ m,k0<m→j4 ds h0 D m p=d.bp.h.get p
 |0,h=>by omega
 |m+1,h=>by
  rw [j4]
  by_cases e:m=k0
  ·subst e
   rw [hd]
   simp only
   rw [if_pos ⟨hD,hW⟩]
  ·have ih:=aa1 (h0:=h0) hd hW hD ho m (by omega)
   cases hm:ds[m]? with
   |none=>exact ih
   |some f=>
    simp only
    rw [if_neg (fun q=>ho m f hm e q.2),ih]
def O7 (ds:List DS) (h0:Tr bh) (p k0:Nat) (lits:List Lit) (D:Nat→Bool) (o:Nat):Option bh:=if o=p then (if D k0=true then some (.map (qy lits D)) else h0.get p) else j4 ds h0 D ds.length o
structure aEq (P:Program) (ops:Array Oper) (ds:List DS) (p k0:Nat) (q:Lit):Prop where
 w4:∃ d,ds[q.i]? = some d∧∃ t m k x kt et,d.o.op = .insert t m k x∧d.o.dst=none∧d.o.guard=none∧P.underlying t=some (.map kt et)∧P.underlying kt=some q.d∧ct d.o d.L m = .mp p∧(ct d.o d.L k).ft=some q.e.1∧ev P (Instr.checkKey false 10000 kt q.e.1)=some ()∧ct d.o d.L x=q.e.2
 bef:((Region.before ops).getD q.i 0).testBit k0=true
theorem asi {P:Program} {T:eg} (hT:oz P T) (hm:P.follows .mixedOrders=true) {ops:Array Oper} {ro:Option Nat} {N:Nat} {B:gv} {nt id:Nat} {Q:Exit→Act→World→Prop} (hg:qh nt ops=true) (hdst:vx nt ops=true) {ds:List DS} {L:SL} {st:St} {L':SL} {st' stF:St} (R:vc P T ops ds L st L' st') (C:Calm ops ds)
 (hgY:∀ d ∈ ds,xa ops d.L d.o=some d.want) {p k0:Nat} {lits:List Lit} (hl:ae4 lits) (hat:∀ q ∈ lits,aEq P ops ds p k0 q) (hall:∀ i d,ds[i]? = some d→u5 d.o=true→∃ q ∈ lits,q.i=i) {d0:DS} (hk0:ds[k0]? = some d0) (hk0':u5 d0.o=false) (hno:∀ k e,ds[k]? = some e→k≠k0→p ∉ e.R∧p ∉ e.W)
 (hp:st'.h.get p=some (.map [])) (hplt:p<st'.nx) (hlim:p≤cw) (hF:∀ o,stF.h.get o=if o=p then some (.map (lits.map (·.e))) else st'.h.get o) (hnF:stF.nx=st'.nx)
 {g:Gh} {w:World} {a:Act} (hnear:B.wx st.nx st'.nx) (hc:ga B g st w) (hr:eh g w nt L a.tmps) (hd:Marks B.n0 st.h g w a.defers)
 (hK:∀ g w a',ga B g stF w→eh g w nt L' a'.tmps→Marks B.n0 stF.h g w a'.defers→a'.defers=a.defers→Q .normal a' w) :
 (Code.region id ops true).wpIn (gq ro) N P Q a w:=by
 have hlt0:k0<ds.length:=(List.getElem?_eq_some_iff.1 hk0).1
 have hlen:∀ q ∈ lits,q.i<ds.length:=fun q hq=>by
  obtain ⟨d,h1,_⟩:=(hat q hq).w4
  exact (List.getElem?_eq_some_iff.1 h1).1
 have hne0:∀ q ∈ lits,q.i≠k0:=fun q hq e=>by
  obtain ⟨d,h1,t,m,k,x,kt,et,h2,_⟩:=(hat q hq).w4
  rw [e,hk0] at h1
  cases h1
  unfold u5 at hk0'
  rw [h2] at hk0'
  cases hk0'
 have hfin:j4 ds st.h (fun _=>true) ds.length p=some (.map []):=by rw [← R.fin.2.1 p,hp]
 have hW0:p ∈ d0.W→d0.bp.h.get p=some (.map []):=fun hW=>by
  rw [← aa1 (h0:=st.h) (D:=fun _=>true) hk0 hW rfl (fun k e hk hne=>(hno k e hk hne).2) ds.length hlt0];exact hfin
 have hN0:p ∉ d0.W→st.h.get p=some (.map []):=fun hW=>by
  rw [← Fz (h0:=st.h) (D:=fun _=>true) (p:=p) ds.length (fun k e _ hk _=>by
   by_cases h:k=k0
   ·rw [h,hk0] at hk;cases hk;exact hW
   ·exact (hno k e hk h).2)]
  exact hfin
 have hnx:st'.nx=ju ds st.nx ds.length:=R.fin.2.2
 refine abt hm (H:=O7 ds st.h p k0 lits) (stF:=stF) R (fun o=>?_) (fun D hD o=>?_) hnF (fun w0 D a' w' i d Q K hi hD hrd A hK=>?_) hnear hc hr hd hK
 ·unfold O7
  by_cases e:o=p
  ·rw [if_pos e,if_neg (by simp),e]
  ·rw [if_neg e,Hg]
 ·unfold O7
  rw [hF]
  by_cases e:o=p
  ·rw [if_pos e,if_pos e,if_pos (hD k0 hlt0),axd (fun q hq=>hD _ (hlen q hq))]
  ·rw [if_neg e,if_neg e,Ku _ hD,← R.fin.2.1 o]
 ·have hbef:=xy A.closed (R.get hi) hrd
  have hmem:=List.mem_of_getElem? hi
  have hgv:=hgY d hmem
  have hcalm:=G3 R C hi hD A.closed hrd
  cases hins:u5 d.o with
  |false=>
   have hgv':za ops d.L d.o=some d.want:=by unfold xa at hgv;rw [hins] at hgv;exact hgv
   have hnl:∀ q ∈ lits,q.i≠i:=fun q hq e=>by
    obtain ⟨d',h1,t,m,k,x,kt,et,h2,_⟩:=(hat q hq).w4
    rw [e,hi] at h1
    cases h1
    unfold u5 at hins
    rw [h2] at hins
    cases hins
   refine At.step hT R hg hdst hi hgv' (fun o ho=>?_) (fun o=>?_) hD hrd A hK
   ·unfold O7
    by_cases e:o=p
    ·subst e
     by_cases hik:i=k0
     ·subst hik
      rw [if_pos rfl,if_neg (by rw [hD];simp)]
      rw [(R.w4 i d hi).2.1 o,Fz i (fun k e hk he _=>(hno k e he (by omega)).2)]
     ·exact ((hno i d hi hik).1 ho).elim
    ·rw [if_neg e];exact hcalm.1 o ho
   ·unfold O7
    by_cases e:o=p
    ·subst e
     rw [if_pos rfl,if_pos rfl]
     by_cases hik:i=k0
     ·subst hik
      rw [hk0] at hi
      cases hi
      have hen:qy lits (kl D i)=[]:=asl (fun q hq=>by
       have hne:=hne0 q hq
       simp only [kl,if_neg hne]
       cases hDq:D q.i with
       |false=>rfl
       |true=>have:=A.closed q.i i hDq (hat q hq).bef;rw [hD] at this;cases this)
      rw [if_pos (show kl D i i=true from by simp [kl]),hen]
      by_cases hW:o ∈ d0.W
      ·rw [if_pos hW,hW0 hW]
      ·rw [if_neg hW,if_neg (by rw [hD];simp),hN0 hW]
     ·rw [if_neg (hno i d hi hik).2,aos hnl]
      simp only [kl,if_neg (Ne.symm hik)]
    ·rw [if_neg e,if_neg e];exact hcalm.2 o
  |true=>
   obtain ⟨q,hq,rfl⟩:=hall i d hi hins
   obtain ⟨d',h1,t,m,k,x,kt,et,h2,h3,h4,h5,h6,h7,h8,h9,h10⟩:=(hat q hq).w4
   rw [hi] at h1
   cases h1
   have hDk:D k0=true:=hbef k0 (hat q hq).bef
   have hne:=hne0 q hq
   have hothers:∀ e ∈ qy lits D,∃ r ∈ lits,r.i≠q.i∧r.e=e:=fun e he=>by
    obtain ⟨r,r1,r2,r3⟩:=aim he
    exact ⟨r,r1,(fun e=>by rw [e,hD] at r2;cases r2),r3⟩
   have hperm:=awv hl.idx hq hD
   have hW:d.W=[]:=by
    have:d.want=false:=by
     unfold xa at hgv
     rw [hins] at hgv
     simpa using hgv.symm
    exact ((R.ok d hmem).skip this).2.2.2
   refine At.ins hT R hi hD hrd A h2 h3 h4 h5 h7 h8 h9 (es:=qy lits D) (es':=qy lits (kl D q.i)) ?_ hlim (by rw [← hnx];exact hplt) (Vy h6 (fun e he=>?_)) ?_ ?_ ?_ (fun o e=>?_) hK
   ·unfold O7;rw [if_pos rfl,if_pos hDk]
   ·obtain ⟨r,r1,r2,rfl⟩:=hothers e he
    exact (hl.apart q hq r r1 (Ne.symm r2)).2
   ·have hqe:(q.e.1,ct d.o d.L x)=q.e:=by rw [h10]
    rw [hqe]
    unfold stays
    cases hlo:loose (qy lits D) with
    |false=>rfl
    |true=>
     have:loose (qy lits D++[q.e])=true:=by
      unfold loose at hlo ⊢
      simp only [Bool.and_eq_true] at hlo ⊢
      refine ⟨Nat.ble_eq_true_of_le (by have:=Nat.le_of_ble_eq_true hlo.1;rw [List.length_append];omega),?_⟩
      have key:∀ l:List (Value × AV),po l=true→(∀ e ∈ l,oi e.1 q.e.1=true)→po (l++[q.e])=true:=by
       intro l
       induction l with
       |nil=>intro _ _;rfl
       |cons b l ih=>
        intro h1 h2
        simp only [po,List.cons_append,Bool.and_eq_true,List.all_eq_true] at h1 ⊢
        refine ⟨fun y hy=>?_,ih h1.2 (fun e he=>h2 e (by simp [he]))⟩
        rcases List.mem_append.1 hy with hy|hy
        ·exact h1.1 y hy
        ·rw [List.mem_singleton] at hy;rw [hy];exact h2 b (by simp)
      refine key _ hlo.2 (fun e he=>?_)
      obtain ⟨r,r1,r2,rfl⟩:=hothers e he
      exact (hl.apart r r1 q hq r2).1
     rw [this];rfl
   ·unfold O7;rw [if_pos rfl,if_pos (by simp [kl,hDk])]
   ·have hqe:(q.e.1,ct d.o d.L x)=q.e:=by rw [h10]
    rw [hqe]
    by_cases h2 : 2≤(qy lits (kl D q.i)).length
    ·refine .perm _ _ hperm ?_
     unfold loose
     rw [Nat.ble_eq_true_of_le h2,Rg hl]
     rfl
    ·have h3:(qy lits D).length=0:=by have:=hperm.length_eq;rw [List.length_append] at this;simp at this;omega
     have h4:qy lits D=[]:=List.eq_nil_of_length_eq_zero h3
     rw [h4] at hperm ⊢
     rw [List.nil_append] at hperm ⊢
     rw [List.perm_singleton.1 hperm]
     exact .rfl _
   ·unfold O7
    rw [if_neg e,if_neg e,hcalm.2 o,hW,if_neg (by simp)]
end
end Go.Vm
namespace Go.Vm
def Br (a:UInt32):Value × AV:=(.int .u32 a.toNat,.sc (.bool true))
def lx (l:List UInt32):List (Value × AV):=l.map Br
theorem Tj (a b:UInt32):Instr.sameNow (.int .u32) (.int .u32 a.toNat) (Br b).1=some (a == b):=by
 show (if IntKind.u32=IntKind.u32 then some (((a.toNat:Int)) == (b.toNat:Int)) else none)=_
 rw [if_pos rfl]
 congr 1
 rw [Bool.eq_iff_iff,beq_iff_eq,beq_iff_eq]
 exact ⟨fun h=>UInt32.toNat_inj.1 (by omega),fun h=>by rw [h]⟩
theorem Wl {P:Program} {kt:TypeId} (hu:P.underlying kt=some (.int .u32)) (a:UInt32) (l:List UInt32) :
 (l.contains a=false∧qa P kt (.int .u32 a.toNat) (lx l)=some none)∨(l.contains a=true∧∃ i,qa P kt (.int .u32 a.toNat) (lx l)=some (some i)∧(lx l)[i]? = some (Br a)):=by
 have hall:∀ m ∈ mw (lx l),(Instr.sameNow (.int .u32) (.int .u32 a.toNat) m.key).isSome=true:=fun m hm=>by
  simp only [mw,lx,List.map_map,List.mem_map] at hm
  obtain ⟨b,_,rfl⟩:=hm
  show (Instr.sameNow _ _ (Br b).1).isSome=true
  rw [Tj];rfl
 rcases yx (.int .u32) (.int .u32 a.toNat) (mw (lx l)) 0 hall with ⟨h1,h2⟩|⟨j,m,h1,h2,h3⟩
 ·refine .inl ⟨?_,Vy hu fun e he=>?_⟩
  ·cases hc:l.contains a with
   |false=>rfl
   |true=>
    have:=h2 { key:=(Br a).1,val:=undef,born:=0 } (by
     simp only [mw,lx,List.map_map,List.mem_map]
     exact ⟨a,by simpa using hc,rfl⟩)
    rw [show ({ key:=(Br a).1,val:=undef,born:=0 }:MapEntry).key=(Br a).1 from rfl,Tj] at this
    simp at this
  ·have:=h2 { key:=e.1,val:=undef,born:=0 } (by
    simp only [mw,List.mem_map]
    exact ⟨e,he,rfl⟩)
   exact this
 ·simp only [mw,lx,List.map_map,List.getElem?_map,Option.map_eq_some_iff] at h1
  obtain ⟨b,hb,rfl⟩:=h1
  have h2':Instr.sameNow (.int .u32) (.int .u32 a.toNat) (Br b).1=some true:=h2
  rw [Tj] at h2'
  have hab:a=b:=by simpa using h2'
  subst hab
  refine .inr ⟨by simpa using List.mem_of_getElem? hb,j,?_,by simp only [lx,List.getElem?_map,hb,Option.map_some]⟩
  have hn:Ll P kt (.int .u32 a.toNat) (lx l)=true:=by unfold Ll;rw [hu];simp only;rw [h3];rfl
  unfold qa
  rw [hn,Bool.or_true,cond_true]
  have hevu:ev P (underlying kt)=some (.int .u32):=by
   simp [underlying,program,ev,hu,ny,uc,Sem.bind,bind]
  have:ev P (Instr.findKey kt (.int .u32 a.toNat) (mw (lx l)))=some (some (j,undef)):=by
   unfold Instr.findKey
   rw [ny,hevu]
   simp only [Option.bind_some]
   rw [h3,Nat.zero_add];rfl
  rw [this];rfl
theorem Z9 {P:Program} {kt:TypeId} (hu:P.underlying kt=some (.int .u32)) (b:Bool) (v:Value):∃ x,ev P (Instr.checkKey b 10000 kt v)=some x:=by
 have hevu:ev P (underlying kt)=some (.int .u32):=by
  simp [underlying,program,ev,hu,ny,uc,Sem.bind,bind]
 refine ⟨(),?_⟩
 show ev P (Instr.checkKey b (9999+1) kt v)=_
 rw [Instr.checkKey,ny,hevu]
 rfl
theorem aE3 {P:Program} {kt et:TypeId} (hu:P.underlying kt=some (.int .u32)) (hz:ew P et=some (.bool false)) (a:UInt32) (l:List UInt32):xl P kt et (.int .u32 a.toNat) false (.map (lx l)) = .pure (.sc (.bool (l.contains a))):=by
 unfold xl
 simp only
 obtain ⟨x,hx⟩:=Z9 hu (lx l).isEmpty (.int .u32 a.toNat)
 rw [hx]
 rcases Wl hu a l with ⟨h1,h2⟩|⟨h1,i,h2,h3⟩
 ·rw [h2,h1];simp only [found,hz];rfl
 ·rw [h2,h1];simp only [h3,found,hz];rfl
theorem aov {a b:UInt32} (h:a≠b):oi (Br a).1 (Br b).1=true:=by
 show (decide (IntKind.u32=IntKind.u32) && !((a.toNat:Int) == (b.toNat:Int)))=true
 have:¬ (a.toNat:Int)=b.toNat:=fun q=>h (UInt32.toNat_inj.1 (by omega))
 simp [this]
theorem Sb:∀ (l:List UInt32),l.Nodup→po (lx l)=true
 | [],_=>rfl
 |a::l,h=>by
  have h1:=Sb l (List.nodup_cons.1 h).2
  show (_ && po (lx l))=true
  rw [h1,Bool.and_true,List.all_eq_true]
  intro e he
  obtain ⟨b,hb,rfl⟩:=List.mem_map.1 he
  exact aov fun q=>(List.nodup_cons.1 h).1 (by rw [q];exact hb)
theorem an7 (l:List UInt32) (a:UInt32) (h:(l++[a]).Nodup):stays (lx l) (lx (l++[a]))=true:=by
 have h1:=Sb _ h
 have hl:(lx l).length=l.length:=by simp [lx]
 have hl2:(lx (l++[a])).length=l.length+1:=by simp [lx]
 unfold stays loose
 rw [h1,hl,hl2]
 cases hb:Nat.ble 2 l.length with
 |false=>simp
 |true=>
  have h2 : 2≤l.length:=Nat.le_of_ble_eq_true hb
  have:Nat.ble 2 (l.length+1)=true:=Nat.ble_eq_true_of_le (by omega)
  simp [this]
theorem aG4 {P:Program} {kt:TypeId} (hu:P.underlying kt=some (.int .u32)) (id:Nat) (a:UInt32) (l:List UInt32) (h:l.contains a=false) (hn:l.Nodup) :
 rj P id kt (.int .u32 a.toNat) (.sc (.bool true)) (.map (lx l))=(jd id (.map (lx (l++[a])))).bind fun _=>.pure (.sc undef):=by
 unfold rj
 simp only
 obtain ⟨x,hx⟩:=Z9 hu false (.int .u32 a.toNat)
 rw [hx]
 have hd:(l++[a]).Nodup:=List.nodup_append.2 ⟨hn,by simp,fun q hq y hy=>by
  rw [List.mem_singleton] at hy
  subst hy
  intro e;subst e
  have:l.contains q=true:=by simpa using hq
  rw [h] at this;cases this⟩
 rcases Wl hu a l with ⟨h1,h2⟩|⟨h1,_⟩
 ·have e:lx l++[((.int .u32 a.toNat:Value),AV.sc (.bool true))]=lx (l++[a]):=by simp [lx,Br]
  rw [h2]
  simp only [e,an7 l a hd,cond_true]
 ·rw [h] at h1;cases h1
theorem yg (l:List UInt32):AV.names.go ((lx l).map fun x=>x.2)=[]:=by
 induction l with
 |nil=>rfl
 |cons a l ih=>exact ih
theorem Bx (τ:Nat→Option Nat) (l:List UInt32):((lx l).map fun e=>(e.1,e.2.dk τ))=lx l:=by
 induction l with
 |nil=>rfl
 |cons a l ih=>show Br a::(lx l).map _=Br a::lx l;rw [ih]
theorem asx (v:Value):(AV.sc v).ft=some v:=rfl
end Go.Vm
section
namespace Go.Proofs.YtajammoepjpiiaaGreat
open Go.Vm
set_option maxRecDepth 2000000
def Rl (k:Int):List Int→List Int→Int
 |_,[]=>0
 |pre,i::r=>if i<0∨(i ≥ k∨pre.contains i=true) then 301 else Rl k (pre++[i]) r
theorem aCw {l:List Int} {i:Nat} {c k:Int} (hc:l[i]? = some c):Rl k (l.take i) (l.drop i)=if c<0∨(c ≥ k∨(l.take i).contains c=true) then 301 else Rl k (l.take (i+1)) (l.drop (i+1)):=by
 obtain ⟨hi,rfl⟩:=List.getElem?_eq_some_iff.1 hc
 rw [List.drop_eq_getElem_cons hi,Rl,List.take_succ_eq_append_getElem hi]
def C9 (k:Int):List UInt32→List ou→Int
 |_,[]=>0
 |met,h::r=>if met.contains h.addr=true∨(h.az.length:Int)=0 then 301 else if Rl k [] h.az≠0 then 301 else C9 k (met++[h.addr]) r
theorem ata {l:List ou} {i:Nat} {c:ou} {k:Int} (met:List UInt32) (h:l.drop i=c::l.drop (i+1)):C9 k met (l.drop i)=if met.contains c.addr=true∨(c.az.length:Int)=0 then 301 else if Rl k [] c.az≠0 then 301 else C9 k (met++[c.addr]) (l.drop (i+1)):=by rw [h];rfl
def xr (w:bk):Int:=if C9 w.az.length [] w.dc≠0 then 301 else if (w.dc.length:Int)=0 then 301 else 0
theorem aBz:PP.underlying 142=some (.map 37 4):=by kernel_rfl
theorem aC4:PP.underlying 37=some (.int .u32):=by kernel_rfl
theorem aE4:ew PP 4=some (.bool false):=by kernel_rfl
set_option maxHeartbeats 4000000 in
theorem axn (w:bk) (hw:c6 w):wl PP [ag8] 0 (Tryz.f43.body.getD .skip) (dj PP Tryz.f43.results.toList (fun r st=>(r1 (ay .i64)).get true st.h r=some (xr w))) (b9 0 [cr.val false w]) (bq []):=by
 have hl:=hw.hlen
 have hzl:=hw.Bw
 have lkU:=aE3 aC4 aE4
 unfold Tryz.f43
 simp only [ed]
 simp only [↓wR,RA,simprocAttr,TF,ae,s5]
 refine di [1,3,11,12,13] (fun (x:Nat × List UInt32)=>[.ptr 0 0,.mp 1,.vl false 2 (w.dc.map (c8.val false)),.sc (.int .i64 (w.dc.length)),.sc (.int .i64 (x.1))]) (fun x=>[some (.row [.vl false 2 (w.az.map (bf.val false)),.vl false 2 (w.dc.map (c8.val false)),.vl false 1 (w.hints.map (bg.val false))] 0 2 100),some (.map (lx x.2))]) (fun x=>x.1≤w.dc.length∧(C9 w.az.length [] w.dc=C9 w.az.length x.2 (w.dc.drop x.1)∧x.2.Nodup)) (fun x=>w.dc.length - x.1) (0,[]) ⟨Nat.zero_le _,rfl,.nil⟩ (by simp only [↓wR,RA,simprocAttr,TF,ae]<;>rfl) (by simp only [↓wR,RA,simprocAttr,TF,ae]<;>rfl) ?_
 rintro ⟨i,met⟩ ⟨hi,hx,hnd⟩
 simp only at hi hx hnd
 have bad:C9 w.az.length [] w.dc=301→xr w=301:=fun q=>by unfold xr;rw [q,if_pos (by decide)]
 simp only [↓wR,RA,simprocAttr,TF,ae]
 rw [bm];refine ⟨fun h=>?_,fun h=>?_⟩
 ·obtain ⟨c,hc,hd1,hlt⟩:=dv (decide_eq_true h)
  rw [ata met hd1] at hx
  have hcz:=hw.host c (List.mem_of_getElem? hc)
  simp only [↓wR,RA,simprocAttr,TF,ae,h,hc,aBz,lkU,asx]
  rw [br];refine ⟨fun h1=>?_,fun h1=>?_⟩
  ·have e0:=bad (by rw [hx,if_pos (.inl h1)])
   simp only [↓wR,RA,simprocAttr,TF,ae,h1]
   rw [e0]
  simp only [↓wR,RA,simprocAttr,TF,ae,h1]
  rw [c9];refine ⟨fun ⟨h2,e2⟩=>?_,fun ⟨h2,e2⟩=>?_⟩
  ·have e0:=bad (by rw [hx,if_pos (.inr e2)])
   simp only [↓wR,RA,simprocAttr,TF,ae,h2]
   rw [e0]
  rw [if_neg (fun q=>q.elim (fun q=>by rw [h1] at q;cases q) e2)] at hx
  have upU:=fun id=>aG4 aC4 id c.addr met h1 hnd
  have hnd2:(met++[c.addr]).Nodup:=List.nodup_append.2 ⟨hnd,by simp,fun q hq y hy=>by
   rw [List.mem_singleton] at hy
   subst hy
   intro e;subst e
   have:met.contains c.addr=true:=by simpa using hq
   rw [h1] at this;cases this⟩
  simp only [↓wR,RA,simprocAttr,TF,ae,h2,m6,aBz,upU,asx]
  obtain ⟨met',hm'⟩:∃ m,m=met++[c.addr]:=⟨_,rfl⟩
  rw [← hm'] at hx hnd2 ⊢
  refine di [1,3,5,11,12,13,31,32,33] (fun (k:Nat)=>[.ptr 0 0,.mp 1,.ptr 2 0,.vl false 2 (w.dc.map (c8.val false)),.sc (.int .i64 (w.dc.length)),.sc (.int .i64 (i)),.vl false 1 (c.az.map ((ay .i64).val false)),.sc (.int .i64 (c.az.length)),.sc (.int .i64 (k))]) (fun _=>[some (.row [.vl false 2 (w.az.map (bf.val false)),.vl false 2 (w.dc.map (c8.val false)),.vl false 1 (w.hints.map (bg.val false))] 0 2 100),some (.map (lx met')),some (.row [.sc (.int .u32 c.addr.toNat),.vl false 1 (c.az.map ((ay .i64).val false))] 0 2 80)]) (fun k=>k≤c.az.length∧Rl w.az.length [] c.az=Rl w.az.length (c.az.take k) (c.az.drop k)) (fun k=>c.az.length - k) 0 ⟨Nat.zero_le _,rfl⟩ (by simp only [↓wR,RA,simprocAttr,TF,ae,yg,Bx]<;>rfl) (by simp only [↓wR,RA,simprocAttr,TF,ae,yg,Bx]<;>rfl) ?_
  rintro k ⟨hk,hy⟩
  simp only [↓wR,RA,simprocAttr,TF,ae]
  rw [bm];refine ⟨fun h3=>?_,fun h3=>?_⟩
  ·obtain ⟨q,hq,hd2,hlt2⟩:=dv (decide_eq_true h3)
   rw [aCw hq] at hy
   have bad2:Rl w.az.length [] c.az=301→xr w=301:=fun q=>bad (by rw [hx,q,if_pos (by decide)])
   have htk:k≤281474976710656:=by omega
   simp only [↓wR,RA,simprocAttr,TF,ae,h3,hq]
   rw [bm];refine ⟨fun h4=>?_,fun h4=>?_⟩
   ·have e0:=bad2 (by rw [hy,if_pos (.inl h4)])
    simp only [↓wR,RA,simprocAttr,TF,ae,h4]
    rw [e0]
   simp only [↓wR,RA,simprocAttr,TF,ae,h4]
   rw [bm];refine ⟨fun h5=>?_,fun h5=>?_⟩
   ·have e0:=bad2 (by rw [hy,if_pos (.inr (.inl h5))])
    simp only [↓wR,RA,simprocAttr,TF,ae,h5]
    rw [e0]
   simp only [↓wR,RA,simprocAttr,TF,ae,h5,hk,K2,htk]
   rw [br];refine ⟨fun h6=>?_,fun h6=>?_⟩
   ·have e0:=bad2 (by rw [hy,if_pos (.inr (.inr h6))])
    simp only [↓wR,RA,simprocAttr,TF,ae,h6]
    rw [e0]
   ·rw [if_neg (fun q=>q.elim h4 (fun q=>q.elim h5 (fun q=>by rw [h6] at q;cases q)))] at hy
    simp only [↓wR,RA,simprocAttr,TF,ae,h6,yg,Bx];repeat (simp (disch:=omega) only [ah,cb,cd,cg,cf];try simp only [↓wR,RA,simprocAttr,TF,ae,h6,yg,Bx])
    exact ⟨k+1,⟨hlt2,hy⟩,by omega,by (first|rfl|trivial|omega|((try (simp (disch:=omega) only [ah]));(try (simp only [FB]));first|done|rfl|omega))⟩
  ·rw [dz (decide_eq_false h3),Rl] at hy
   rw [hy,if_neg (by decide)] at hx
   simp only [↓wR,RA,simprocAttr,TF,ae,h3,yg,Bx];repeat (simp (disch:=omega) only [ah,cb,cd,cg,cf];try simp only [↓wR,RA,simprocAttr,TF,ae,h3,yg,Bx])
   exact ⟨(i+1,met'),⟨hlt,hx,hnd2⟩,by simp;omega,by (first|rfl|trivial|omega|((try (simp (disch:=omega) only [ah]));(try (simp only [FB]));first|done|rfl|omega)),by (first|rfl|trivial|omega|((try (simp (disch:=omega) only [ah]));(try (simp only [FB]));first|done|rfl|omega))⟩
 ·rw [dz (decide_eq_false h),C9] at hx
  simp only [↓wR,RA,simprocAttr,TF,ae,h]
  unfold xr
  rw [if_neg (by omega)]
  rw [c9];refine ⟨fun ⟨h2,e2⟩=>?_,fun ⟨h2,e2⟩=>?_⟩
  ·rw [if_pos e2]
   simp only [↓wR,RA,simprocAttr,TF,ae,h2]
  ·rw [if_neg e2]
   simp only [↓wR,RA,simprocAttr,TF,ae,h2]
noncomputable def I9 (x:bk × Unit):Option AV:=if c6 x.1 then some ((r1 (ay .i64)).E true (xr x.1)) else none
set_option maxRecDepth 2000000 in
theorem ala (x:bk × Unit) (r:AV) (h:I9 x=some r):bc PP 43 ((aC cr a0).E x) r:=by
 by_cases hc:c6 x.1
 case neg=>simp only [I9,if_neg hc] at h;cases h
 simp only [I9,if_pos hc] at h
 cases h
 exact ba (aj.cons (ai De) (aj.nil PP)) Tryz.func43 (by kernel_rfl) (by kernel_rfl) (by kernel_rfl) (Nat.le_of_ble_eq_true (by kernel_rfl)) (r1 (ay .i64)) true (xr x.1) (axn x.1 hc)
noncomputable abbrev aC0:Nat × Bool × (List AV→M AV):=(43,true,cx (aC cr a0) I9)
noncomputable def aer:List Int→Int
 | []=>0
 |e::r=>if e≠0 then e else aer r
noncomputable def aqg (w:bk):List Int:=[H5 w,Ei w,v7 w,xr w,zz w,Et w,vi w,C4 w,C6 w,D1 w]
noncomputable def iu (w:bk):Int:=aer (aqg w)
theorem akk {w:bk} (h:v7 w=0):Fi w:=by
 have key:∀ l:List be,ue fq l=0→∀ z ∈ l,fq z=0:=by
  intro l
  induction l with
  |nil=>intro _ z hz;cases hz
  |cons a l ih=>
   intro h z hz
   rw [ue] at h
   split at h
   ·contradiction
   ·rename_i q
    rcases List.mem_cons.1 hz with rfl|hz
    ·omega
    ·exact ih h z hz
 intro z hz s hs ht d hd
 have hg:=Di (key _ h z hz) s hs
 have h1:=(El (Um hg d hd)).1
 have h2:(jm s.type).names=1:=by unfold jm;rw [ht];rfl
 rw [h2] at h1
 intro q
 rw [q] at h1;simp at h1
theorem F3:zi PP 102=some (101,1,[.sc .nilFunc])∧dp PP 101=some 1∧j3 PP 101=some false:=⟨by kernel_rfl,by kernel_rfl,by kernel_rfl⟩
set_option maxHeartbeats 8000000 in
theorem auc (w:bk) (hw:c6 w):wl PP [aE6,aFf,aCq,aC0,az3,aEs,axg,aFk,aFb,aD4] 0 (Tryz.f16.body.getD .skip) (dj PP Tryz.f16.results.toList (fun r st=>(r1 (ay .i64)).get true st.h r=some (iu w))) (b9 0 [cr.val false w]) (bq []):=by
 unfold Tryz.f16
 simp only [ed]
 simp (maxSteps:=9000000) only [↓wR,RA,simprocAttr,TF,ae,F3]
 have gl:v7 w=0→Fi w:=akk
 refine di [29,30,31] (fun (i:Nat)=>[.sl 0 0 10 1,.sc (.int .i64 (10)),.sc (.int .i64 (i))]) (fun _=>[some (.row [.fn (.func 40) [.agg [.vl false 2 (w.az.map (bf.val false)),.vl false 2 (w.dc.map (c8.val false)),.vl false 1 (w.hints.map (bg.val false))]] [],.fn (.func 41) [.agg [.vl false 2 (w.az.map (bf.val false)),.vl false 2 (w.dc.map (c8.val false)),.vl false 1 (w.hints.map (bg.val false))]] [],.fn (.func 42) [.agg [.vl false 2 (w.az.map (bf.val false)),.vl false 2 (w.dc.map (c8.val false)),.vl false 1 (w.hints.map (bg.val false))]] [],.fn (.func 43) [.agg [.vl false 2 (w.az.map (bf.val false)),.vl false 2 (w.dc.map (c8.val false)),.vl false 1 (w.hints.map (bg.val false))]] [],.fn (.func 44) [.agg [.vl false 2 (w.az.map (bf.val false)),.vl false 2 (w.dc.map (c8.val false)),.vl false 1 (w.hints.map (bg.val false))]] [],.fn (.func 45) [.agg [.vl false 2 (w.az.map (bf.val false)),.vl false 2 (w.dc.map (c8.val false)),.vl false 1 (w.hints.map (bg.val false))]] [],.fn (.func 46) [.agg [.vl false 2 (w.az.map (bf.val false)),.vl false 2 (w.dc.map (c8.val false)),.vl false 1 (w.hints.map (bg.val false))]] [],.fn (.func 47) [.agg [.vl false 2 (w.az.map (bf.val false)),.vl false 2 (w.dc.map (c8.val false)),.vl false 1 (w.hints.map (bg.val false))]] [],.fn (.func 48) [.agg [.vl false 2 (w.az.map (bf.val false)),.vl false 2 (w.dc.map (c8.val false)),.vl false 1 (w.hints.map (bg.val false))]] [],.fn (.func 49) [.agg [.vl false 2 (w.az.map (bf.val false)),.vl false 2 (w.dc.map (c8.val false)),.vl false 1 (w.hints.map (bg.val false))]] []] 0 0 101)]) (fun i=>i≤10∧iu w=aer ((aqg w).drop i)∧(3≤i→v7 w=0)) (fun i=>10 - i) 0 ⟨by decide,rfl,by omega⟩ (by simp only [↓wR,RA,simprocAttr,TF,ae]<;>rfl) (by simp only [↓wR,RA,simprocAttr,TF,ae]<;>rfl) ?_
 rintro i ⟨hi,hx,hz⟩
 by_cases h10:i=10
 ·subst h10
  simp only [↓wR,RA,simprocAttr,TF,ae]
  rw [hx]<;>rfl
 have hcase:i=0∨i=1∨i=2∨i=3∨i=4∨i=5∨i=6∨i=7∨i=8∨i=9:=by omega
 rcases hcase with rfl|rfl|rfl|rfl|rfl|rfl|rfl|rfl|rfl|rfl
 ·skip
  simp only [↓wR,RA,simprocAttr,TF,ae,F3,ah1]
  rw [br];refine ⟨fun h=>?_,fun h=>?_⟩
  ·have he:H5 w≠0:=by simpa using h
   have e0:iu w=H5 w:=by rw [hx];exact if_pos he
   simp only [↓wR,RA,simprocAttr,TF,ae,h]
   rw [e0]
  ·have he:H5 w=0:=by simpa using h
   simp only [↓wR,RA,simprocAttr,TF,ae,h];repeat (simp (disch:=omega) only [ah,cb,cd,cg,cf];try simp only [↓wR,RA,simprocAttr,TF,ae,h])
   exact ⟨0+1,⟨by decide,by rw [hx];exact if_neg (fun q=>q he),fun q=>absurd q (by decide)⟩,by decide,by (first|rfl|trivial|omega|((try (simp (disch:=omega) only [ah]));(try (simp only [FB]));first|done|rfl|omega))⟩
 ·skip
  simp only [↓wR,RA,simprocAttr,TF,ae,F3,Oa,hw]
  rw [br];refine ⟨fun h=>?_,fun h=>?_⟩
  ·have he:Ei w≠0:=by simpa using h
   have e0:iu w=Ei w:=by rw [hx];exact if_pos he
   simp only [↓wR,RA,simprocAttr,TF,ae,h]
   rw [e0]
  ·have he:Ei w=0:=by simpa using h
   simp only [↓wR,RA,simprocAttr,TF,ae,h];repeat (simp (disch:=omega) only [ah,cb,cd,cg,cf];try simp only [↓wR,RA,simprocAttr,TF,ae,h])
   exact ⟨1+1,⟨by decide,by rw [hx];exact if_neg (fun q=>q he),fun q=>absurd q (by decide)⟩,by decide,by (first|rfl|trivial|omega|((try (simp (disch:=omega) only [ah]));(try (simp only [FB]));first|done|rfl|omega))⟩
 ·skip
  simp only [↓wR,RA,simprocAttr,TF,ae,F3,Ja,hw]
  rw [br];refine ⟨fun h=>?_,fun h=>?_⟩
  ·have he:v7 w≠0:=by simpa using h
   have e0:iu w=v7 w:=by rw [hx];exact if_pos he
   simp only [↓wR,RA,simprocAttr,TF,ae,h]
   rw [e0]
  ·have he:v7 w=0:=by simpa using h
   simp only [↓wR,RA,simprocAttr,TF,ae,h];repeat (simp (disch:=omega) only [ah,cb,cd,cg,cf];try simp only [↓wR,RA,simprocAttr,TF,ae,h])
   exact ⟨2+1,⟨by decide,by rw [hx];exact if_neg (fun q=>q he),fun _=>he⟩,by decide,by (first|rfl|trivial|omega|((try (simp (disch:=omega) only [ah]));(try (simp only [FB]));first|done|rfl|omega))⟩
 ·skip
  simp only [↓wR,RA,simprocAttr,TF,ae,F3,I9,hw]
  rw [br];refine ⟨fun h=>?_,fun h=>?_⟩
  ·have he:xr w≠0:=by simpa using h
   have e0:iu w=xr w:=by rw [hx];exact if_pos he
   simp only [↓wR,RA,simprocAttr,TF,ae,h]
   rw [e0]
  ·have he:xr w=0:=by simpa using h
   simp only [↓wR,RA,simprocAttr,TF,ae,h];repeat (simp (disch:=omega) only [ah,cb,cd,cg,cf];try simp only [↓wR,RA,simprocAttr,TF,ae,h])
   exact ⟨3+1,⟨by decide,by rw [hx];exact if_neg (fun q=>q he),fun _=>hz (by decide)⟩,by decide,by (first|rfl|trivial|omega|((try (simp (disch:=omega) only [ah]));(try (simp only [FB]));first|done|rfl|omega))⟩
 ·skip
  simp only [↓wR,RA,simprocAttr,TF,ae,F3,F4,hw]
  rw [br];refine ⟨fun h=>?_,fun h=>?_⟩
  ·have he:zz w≠0:=by simpa using h
   have e0:iu w=zz w:=by rw [hx];exact if_pos he
   simp only [↓wR,RA,simprocAttr,TF,ae,h]
   rw [e0]
  ·have he:zz w=0:=by simpa using h
   simp only [↓wR,RA,simprocAttr,TF,ae,h];repeat (simp (disch:=omega) only [ah,cb,cd,cg,cf];try simp only [↓wR,RA,simprocAttr,TF,ae,h])
   exact ⟨4+1,⟨by decide,by rw [hx];exact if_neg (fun q=>q he),fun _=>hz (by decide)⟩,by decide,by (first|rfl|trivial|omega|((try (simp (disch:=omega) only [ah]));(try (simp only [FB]));first|done|rfl|omega))⟩
 ·skip
  simp only [↓wR,RA,simprocAttr,TF,ae,F3,N6,hw]
  rw [br];refine ⟨fun h=>?_,fun h=>?_⟩
  ·have he:Et w≠0:=by simpa using h
   have e0:iu w=Et w:=by rw [hx];exact if_pos he
   simp only [↓wR,RA,simprocAttr,TF,ae,h]
   rw [e0]
  ·have he:Et w=0:=by simpa using h
   simp only [↓wR,RA,simprocAttr,TF,ae,h];repeat (simp (disch:=omega) only [ah,cb,cd,cg,cf];try simp only [↓wR,RA,simprocAttr,TF,ae,h])
   exact ⟨5+1,⟨by decide,by rw [hx];exact if_neg (fun q=>q he),fun _=>hz (by decide)⟩,by decide,by (first|rfl|trivial|omega|((try (simp (disch:=omega) only [ah]));(try (simp only [FB]));first|done|rfl|omega))⟩
 ·skip
  simp only [↓wR,RA,simprocAttr,TF,ae,F3,Dd,hw]
  rw [br];refine ⟨fun h=>?_,fun h=>?_⟩
  ·have he:vi w≠0:=by simpa using h
   have e0:iu w=vi w:=by rw [hx];exact if_pos he
   simp only [↓wR,RA,simprocAttr,TF,ae,h]
   rw [e0]
  ·have he:vi w=0:=by simpa using h
   simp only [↓wR,RA,simprocAttr,TF,ae,h];repeat (simp (disch:=omega) only [ah,cb,cd,cg,cf];try simp only [↓wR,RA,simprocAttr,TF,ae,h])
   exact ⟨6+1,⟨by decide,by rw [hx];exact if_neg (fun q=>q he),fun _=>hz (by decide)⟩,by decide,by (first|rfl|trivial|omega|((try (simp (disch:=omega) only [ah]));(try (simp only [FB]));first|done|rfl|omega))⟩
 ·have hn:=gl (hz (by decide))
  simp only [↓wR,RA,simprocAttr,TF,ae,F3,Px,hw,hn]
  rw [br];refine ⟨fun h=>?_,fun h=>?_⟩
  ·have he:C4 w≠0:=by simpa using h
   have e0:iu w=C4 w:=by rw [hx];exact if_pos he
   simp only [↓wR,RA,simprocAttr,TF,ae,h]
   rw [e0]
  ·have he:C4 w=0:=by simpa using h
   simp only [↓wR,RA,simprocAttr,TF,ae,h];repeat (simp (disch:=omega) only [ah,cb,cd,cg,cf];try simp only [↓wR,RA,simprocAttr,TF,ae,h])
   exact ⟨7+1,⟨by decide,by rw [hx];exact if_neg (fun q=>q he),fun _=>hz (by decide)⟩,by decide,by (first|rfl|trivial|omega|((try (simp (disch:=omega) only [ah]));(try (simp only [FB]));first|done|rfl|omega))⟩
 ·skip
  simp only [↓wR,RA,simprocAttr,TF,ae,F3,N5,hw]
  rw [br];refine ⟨fun h=>?_,fun h=>?_⟩
  ·have he:C6 w≠0:=by simpa using h
   have e0:iu w=C6 w:=by rw [hx];exact if_pos he
   simp only [↓wR,RA,simprocAttr,TF,ae,h]
   rw [e0]
  ·have he:C6 w=0:=by simpa using h
   simp only [↓wR,RA,simprocAttr,TF,ae,h];repeat (simp (disch:=omega) only [ah,cb,cd,cg,cf];try simp only [↓wR,RA,simprocAttr,TF,ae,h])
   exact ⟨8+1,⟨by decide,by rw [hx];exact if_neg (fun q=>q he),fun _=>hz (by decide)⟩,by decide,by (first|rfl|trivial|omega|((try (simp (disch:=omega) only [ah]));(try (simp only [FB]));first|done|rfl|omega))⟩
 ·skip
  simp only [↓wR,RA,simprocAttr,TF,ae,F3,Ka,hw]
  rw [br];refine ⟨fun h=>?_,fun h=>?_⟩
  ·have he:D1 w≠0:=by simpa using h
   have e0:iu w=D1 w:=by rw [hx];exact if_pos he
   simp only [↓wR,RA,simprocAttr,TF,ae,h]
   rw [e0]
  ·have he:D1 w=0:=by simpa using h
   simp only [↓wR,RA,simprocAttr,TF,ae,h];repeat (simp (disch:=omega) only [ah,cb,cd,cg,cf];try simp only [↓wR,RA,simprocAttr,TF,ae,h])
   exact ⟨9+1,⟨by decide,by rw [hx];exact if_neg (fun q=>q he),fun _=>hz (by decide)⟩,by decide,by (first|rfl|trivial|omega|((try (simp (disch:=omega) only [ah]));(try (simp only [FB]));first|done|rfl|omega))⟩
noncomputable def B5 (x:bk × Unit):Option AV:=if c6 x.1 then some ((r1 (ay .i64)).E true (iu x.1)) else none
set_option maxRecDepth 2000000 in
theorem Sn (x:bk × Unit) (r:AV) (h:B5 x=some r):bc PP 16 ((aC cr a0).E x) r:=by
 by_cases hc:c6 x.1
 case neg=>simp only [B5,if_neg hc] at h;cases h
 simp only [B5,if_pos hc] at h
 cases h
 exact ba (aj.cons (ai aoi) (aj.cons (ai an3) (aj.cons (ai ak9) (aj.cons (ai ala) (aj.cons (ai afq) (aj.cons (ai aog) (aj.cons (ai acw) (aj.cons (ai ap1) (aj.cons (ai api) (aj.cons (ai ale) (aj.nil PP))))))))))) Tryz.func16 (by kernel_rfl) (by kernel_rfl) (by kernel_rfl) (Nat.le_of_ble_eq_true (by kernel_rfl)) (r1 (ay .i64)) true (iu x.1) (auc x.1 hc)
noncomputable abbrev aec:Nat × Bool × (List AV→M AV):=(16,true,cx (aC cr a0) B5)
end Go.Proofs.YtajammoepjpiiaaGreat
end
section
namespace Go.Proofs.YtajammoepjpiiaaGreat
open Go.Vm
theorem aav:∀ (l:List Int),aer l=0→∀ e ∈ l,e=0
 | [],_,e,he=>by cases he
 |a::l,h,e,he=>by
  rw [aer] at h
  split at h
  ·contradiction
  ·rename_i q
   rcases List.mem_cons.1 he with rfl|he
   ·omega
   ·exact aav l h e he
theorem Cz {f:be→Int}:∀ (l:List be),ue f l=0→∀ z ∈ l,f z=0
 | [],_,z,hz=>by cases hz
 |a::l,h,z,hz=>by
  rw [ue] at h
  split at h
  ·contradiction
  ·rename_i q
   rcases List.mem_cons.1 hz with rfl|hz
   ·omega
   ·exact Cz l h z hz
structure Ej (w:bk):Prop where
 zone:∀ z ∈ w.az,fq z=0
 root:∃ z ∈ w.az,z.origin=[]
 one:w.az.Pairwise fun a b=>fi a.origin b.origin=false
 aHj:∀ z ∈ w.az,∀ n ∈ tv z,∃ y ∈ w.az,fi y.origin n=true
 par:∀ (i:Nat) z,w.az[i]? = some z→z.origin≠[]→parentOf w z (ui w (i:Int)).1=0
 glue:∀ z ∈ w.az,Ba w z z.ar=0
 srv:∀ (i:Nat) z,w.az[i]? = some z→Kt w z i=0
theorem Xm:∀ (l pre:List be) (b:Bool),Ev pre b l=0→(b=true∨∃ z ∈ l,z.origin=[])∧l.Pairwise (fun a b=>fi a.origin b.origin=false)∧∀ z ∈ l,∀ y ∈ pre,fi y.origin z.origin=false
 | [],pre,b,h=>by
  rw [Ev] at h
  refine ⟨.inl ?_,.nil,fun z hz=>by cases hz⟩
  cases b with
  |true=>rfl
  |false=>rw [if_neg (by decide)] at h;cases h
 |a::l,pre,b,h=>by
  rw [Ev] at h
  split at h
  ·cases h
  ·rename_i q
   obtain ⟨h1,h2,h3⟩:=Xm l (pre++[a]) _ h
   have hd:∀ y ∈ pre,fi y.origin a.origin=false:=fun y hy=>by
    cases hs:fi y.origin a.origin with
    |false=>rfl
    |true=>exact (q (List.any_eq_true.2 ⟨y,hy,hs⟩)).elim
   refine ⟨?_,List.pairwise_cons.2 ⟨fun z hz=>h3 z hz a (by simp),h2⟩,fun z hz y hy=>?_⟩
   ·rcases h1 with h1|⟨z,hz,h1⟩
    ·rw [Bool.or_eq_true] at h1
     rcases h1 with h1|h1
     ·exact .inl h1
     ·refine .inr ⟨a,by simp,?_⟩
      have:=of_decide_eq_true h1
      exact List.eq_nil_of_length_eq_zero (by omega)
    ·exact .inr ⟨z,by simp [hz],h1⟩
   ·rcases List.mem_cons.1 hz with rfl|hz
    ·exact hd y hy
    ·exact h3 z hz y (by simp [hy])
theorem Lx {w:bk}:∀ (l:List be) (i:Nat),tf w l i=0→∀ (k:Nat) z,l[k]? = some z→z.origin≠[]→parentOf w z (ui w ((i+k:Nat):Int)).1=0
 | [],i,_,k,z,hz=>by simp at hz
 |a::l,i,h,k,z,hz=>by
  rw [tf] at h
  intro ho
  cases k with
  |zero=>
   simp at hz
   subst hz
   rw [if_neg (fun q=>ho (List.eq_nil_of_length_eq_zero (by omega)))] at h
   split at h
   ·cases h
   ·rename_i q;rw [Nat.add_zero];omega
  |succ k=>
   have:tf w l (i+1)=0:=by
    split at h
    ·exact h
    ·split at h
     ·cases h
     ·exact h
   have:=Lx l (i+1) this k z (by simpa using hz) ho
   rwa [show i+1+k=i+(k+1) from by omega] at this
theorem Wd {w:bk}:∀ (l:List be) (i:Nat),Lb w l i=0→∀ (k:Nat) z,l[k]? = some z→Kt w z (i+k)=0
 | [],i,_,k,z,hz=>by simp at hz
 |a::l,i,h,k,z,hz=>by
  rw [Lb] at h
  split at h
  ·cases h
  ·rename_i q
   cases k with
   |zero=>simp at hz;subst hz;rw [Nat.add_zero];omega
   |succ k=>
    have:=Wd l (i+1) h k z (by simpa using hz)
    rwa [show i+1+k=i+(k+1) from by omega] at this
theorem X2 {w:bk}:∀ (l:List Name),Cw w l=0→∀ n ∈ l,xj w.az n=true
 | [],_,n,hn=>by cases hn
 |a::l,h,n,hn=>by
  rw [Cw] at h
  split at h
  ·rename_i q
   rcases List.mem_cons.1 hn with rfl|hn
   ·exact q
   ·exact X2 l h n hn
  ·cases h
theorem ay4 {w:bk} (h:iu w=0):Ej w:=by
 have hz:=aav _ h
 unfold aqg at hz
 have h2:=hz (Ei w) (by simp)
 have h3:=hz (v7 w) (by simp)
 have h6:=hz (Et w) (by simp)
 have h7:=hz (vi w) (by simp)
 have h8:=hz (C4 w) (by simp)
 have h9:=hz (C6 w) (by simp)
 obtain ⟨r1,r2,_⟩:=Xm _ _ _ h2
 refine ⟨Cz _ h3,?_,r2,fun z hz n hn=>?_,fun i z hi ho=>?_,Cz _ h8,fun i z hi=>?_⟩
 ·rcases r1 with r1|r1
  ·cases r1
  ·exact r1
 ·have:=X2 _ (Cz _ h6 z hz) n hn
  obtain ⟨y,hy,hs⟩:=List.any_eq_true.1 this
  exact ⟨y,hy,hs⟩
 ·have:=Lx w.az 0 h7 i z hi ho
  rwa [Nat.zero_add] at this
 ·have:=Wd w.az 0 h9 i z hi
  rwa [Nat.zero_add] at this
theorem auh (n:Name):dr n []=true:=u2.2 (by simp [g9])
theorem amk {n:Name}:∀ (l:List be) (i:Nat) (b:Option (Nat × Nat)),(∀ p,H9 n l i b=some p→(∀ q,b=some q→q.2≤p.2)∧∀ z ∈ l,dr n z.origin=true→z.origin.length≤p.2)∧(b.isSome=true∨(∃ z ∈ l,dr n z.origin=true)→(H9 n l i b).isSome=true)
 | [],i,b=>⟨fun p hp=>⟨fun q hq=>by rw [H9,hq] at hp;cases hp;exact Nat.le_refl _,fun z hz=>by cases hz⟩,fun h=>by
  rcases h with h|⟨z,hz,_⟩
  ·exact h
  ·cases hz⟩
 |a::l,i,b=>by
  obtain ⟨h1,h2⟩:=amk (n:=n) l (i+1) (p9 n b i a)
  have key:∀ q,b=some q→∃ r,p9 n b i a=some r∧q.2≤r.2:=fun q hq=>by
   unfold p9
   split
   ·rename_i hc
    rw [Bool.and_eq_true] at hc
    have hf:=hc.2
    rw [hq] at hf
    have:=of_decide_eq_true hf
    exact ⟨_,rfl,by simp only;omega⟩
   ·exact ⟨q,hq,Nat.le_refl _⟩
  have key2:dr n a.origin=true→∃ r,p9 n b i a=some r∧a.origin.length≤r.2:=fun hu=>by
   unfold p9
   rw [hu,Bool.true_and]
   cases b with
   |none=>exact ⟨_,rfl,Nat.le_refl _⟩
   |some q=>
    by_cases hf:J4 (some q) a.origin.length=true
    ·rw [if_pos hf];exact ⟨_,rfl,Nat.le_refl _⟩
    ·rw [if_neg hf]
     refine ⟨q,rfl,?_⟩
     have:¬ q.2<a.origin.length:=fun h=>hf (decide_eq_true h)
     omega
  refine ⟨fun p hp=>?_,fun h=>h2 ?_⟩
  ·obtain ⟨k1,k2⟩:=h1 p hp
   refine ⟨fun q hq=>?_,fun z hz hu=>?_⟩
   ·obtain ⟨r,hr,hle⟩:=key q hq
    exact Nat.le_trans hle (k1 r hr)
   ·rcases List.mem_cons.1 hz with rfl|hz
    ·obtain ⟨r,hr,hle⟩:=key2 hu
     exact Nat.le_trans hle (k1 r hr)
    ·exact k2 z hz hu
  ·rcases h with h|⟨z,hz,hu⟩
   ·obtain ⟨q,hq⟩:=Option.isSome_iff_exists.1 h
    obtain ⟨r,hr,_⟩:=key q hq
    exact .inl (by rw [hr];rfl)
   ·rcases List.mem_cons.1 hz with rfl|hz
    ·obtain ⟨r,hr,_⟩:=key2 hu
     exact .inl (by rw [hr];rfl)
    ·exact .inr ⟨z,hz,hu⟩
structure ac9 (w:bk) (n:Name) (k:Nat) (z:be):Prop where
 val:pz w n=(k:Int)
 get:w.az[k]? = some z
 under:dr n z.origin=true
 max:∀ y ∈ w.az,dr n y.origin=true→y.origin.length≤z.origin.length
theorem aB5 {w:bk} (h:Ej w) (n:Name):∃ k z,ac9 w n k z:=by
 obtain ⟨r,hr,hro⟩:=h.root
 obtain ⟨h1,h2⟩:=amk (n:=n) w.az 0 none
 have hs:=h2 (.inr ⟨r,hr,by rw [hro];exact auh n⟩)
 obtain ⟨p,hp⟩:=Option.isSome_iff_exists.1 hs
 obtain ⟨y,hy1,hy2,hy3⟩:=aie (w:=w) (n:=n) hp
 refine ⟨p.1,y,⟨?_,hy1,hy3,fun z hz hu=>?_⟩⟩
 ·unfold pz T1;rw [hp];rfl
 ·rw [hy2];exact (h1 p hp).2 z hz hu
end Go.Proofs.YtajammoepjpiiaaGreat
end
section
namespace Go.Proofs.YtajammoepjpiiaaGreat
open Go.Vm
set_option maxRecDepth 2000000
def K0 (l:List be):Bool:=l.all Oi
def Ld (l:List ou):Bool:=l.all fun h=>!decide ((h.az.length:Int) > 40)
def aph (w:bk):Bool:=
 K0 w.az && (Ld w.dc && ((decide ((w.az.length:Int)≤8) || (decide ((w.az.length:Int) > 32) && decide ((w.az.length:Int)<40))) && ((decide ((w.dc.length:Int)≤12) || (decide ((w.dc.length:Int) > 64) && decide ((w.dc.length:Int)<80))) && decide ((w.hints.length:Int)≤40))))
set_option maxHeartbeats 8000000 in
theorem az7 (w:bk) (hw:c6 w):wl PP [aHf] 0 (Tryz.f15.body.getD .skip) (dj PP Tryz.f15.results.toList (fun r st=>(r1 bn).get true st.h r=some (aph w))) (b9 0 [cr.val false w]) (bq []):=by
 have hl:=hw.Bw
 have hhl:=hw.hlen
 unfold Tryz.f15
 simp only [ed]
 simp only [↓wR,RA,simprocAttr,TF,ae]
 refine di [1,3] (fun (i:Nat)=>[.ptr 0 0,.sc (.int .i64 (i))]) (fun _=>[some (.row [.vl false 2 (w.az.map (bf.val false)),.vl false 2 (w.dc.map (c8.val false)),.vl false 1 (w.hints.map (bg.val false))] 0 2 50)]) (fun i=>i≤w.az.length∧K0 w.az=K0 (w.az.drop i)) (fun i=>w.az.length - i) 0 ⟨Nat.zero_le _,rfl⟩ (by simp only [↓wR,RA,simprocAttr,TF,ae]<;>rfl) (by simp only [↓wR,RA,simprocAttr,TF,ae]<;>rfl) ?_
 rintro i ⟨hi,hx⟩
 simp only [↓wR,RA,simprocAttr,TF,ae]
 unfold aph
 rw [bm];refine ⟨fun h=>?_,fun h=>?_⟩
 ·obtain ⟨c,hc,hd1,hlt⟩:=dv (decide_eq_true h)
  rw [hd1,K0,K0,List.all_cons] at hx
  simp only [↓wR,RA,simprocAttr,TF,ae,h,hc,P6,hw.zone c (List.mem_of_getElem? hc)];repeat (simp (disch:=omega) only [ah,cb,cd,cg,cf];try simp only [↓wR,RA,simprocAttr,TF,ae,h,hc,P6,hw.zone c (List.mem_of_getElem? hc)])
  rw [br];refine ⟨fun h1=>?_,fun h1=>?_⟩
  ·have h1':Oi c=false:=by simpa only [Bool.not_eq_true'] using h1
   rw [h1',Bool.false_and] at hx
   simp only [↓wR,RA,simprocAttr,TF,ae,h1]
   rw [K0,hx];rfl
  ·have h1':Oi c=true:=by simpa only [Bool.not_eq_false'] using h1
   rw [h1',Bool.true_and] at hx
   simp only [↓wR,RA,simprocAttr,TF,ae,h1];repeat (simp (disch:=omega) only [ah,cb,cd,cg,cf];try simp only [↓wR,RA,simprocAttr,TF,ae,h1])
   exact ⟨i+1,⟨hlt,hx⟩,by omega,by (first|rfl|trivial|omega|((try (simp (disch:=omega) only [ah]));(try (simp only [FB]));first|done|rfl|omega))⟩
 rw [dz (decide_eq_false h)] at hx
 have hx':K0 w.az=true:=hx
 clear hx hi
 simp only [↓wR,RA,simprocAttr,TF,ae,h]
 refine di [1,4] (fun (i:Nat)=>[.ptr 0 0,.sc (.int .i64 (i))]) (fun _=>[some (.row [.vl false 2 (w.az.map (bf.val false)),.vl false 2 (w.dc.map (c8.val false)),.vl false 1 (w.hints.map (bg.val false))] 0 2 50)]) (fun i=>i≤w.dc.length∧Ld w.dc=Ld (w.dc.drop i)) (fun i=>w.dc.length - i) 0 ⟨Nat.zero_le _,rfl⟩ (by simp only [↓wR,RA,simprocAttr,TF,ae]<;>rfl) (by simp only [↓wR,RA,simprocAttr,TF,ae]<;>rfl) ?_
 rintro i ⟨hi,hy⟩
 simp only [↓wR,RA,simprocAttr,TF,ae]
 rw [bm];refine ⟨fun h2=>?_,fun h2=>?_⟩
 ·obtain ⟨c,hc,hd1,hlt⟩:=dv (decide_eq_true h2)
  rw [hd1,Ld,Ld,List.all_cons] at hy
  simp only [↓wR,RA,simprocAttr,TF,ae,h2,hc];repeat (simp (disch:=omega) only [ah,cb,cd,cg,cf];try simp only [↓wR,RA,simprocAttr,TF,ae,h2,hc])
  rw [bm];refine ⟨fun h3=>?_,fun h3=>?_⟩
  ·rw [decide_eq_true h3,Bool.not_true,Bool.false_and] at hy
   simp only [↓wR,RA,simprocAttr,TF,ae,h3]
   rw [hx',Ld,hy];rfl
  ·rw [decide_eq_false h3,Bool.not_false,Bool.true_and] at hy
   simp only [↓wR,RA,simprocAttr,TF,ae,h3];repeat (simp (disch:=omega) only [ah,cb,cd,cg,cf];try simp only [↓wR,RA,simprocAttr,TF,ae,h3])
   exact ⟨i+1,⟨hlt,hy⟩,by omega,by (first|rfl|trivial|omega|((try (simp (disch:=omega) only [ah]));(try (simp only [FB]));first|done|rfl|omega))⟩
 rw [dz (decide_eq_false h2)] at hy
 have hy':Ld w.dc=true:=hy
 clear hy hi
 rw [hx',hy',Bool.true_and,Bool.true_and]
 simp only [↓wR,RA,simprocAttr,TF,ae,h2]
 rw [bm];refine ⟨fun p1=>?_,fun p1=>?_⟩
 ·rw [decide_eq_true p1,Bool.true_or,Bool.true_and]
  simp only [↓wR,RA,simprocAttr,TF,ae,p1]
  rw [bm];refine ⟨fun p4=>?_,fun p4=>?_⟩
  ·rw [decide_eq_true p4,Bool.true_or,Bool.true_and]
   simp only [↓wR,RA,simprocAttr,TF,ae,p4]
  ·rw [decide_eq_false p4,Bool.false_or]
   simp only [↓wR,RA,simprocAttr,TF,ae,p4]
   rw [bm];refine ⟨fun p5=>?_,fun p5=>?_⟩
   ·rw [decide_eq_true p5,Bool.true_and]
    simp only [↓wR,RA,simprocAttr,TF,ae,p5]
    rw [bm];refine ⟨fun p6=>?_,fun p6=>?_⟩
    ·rw [decide_eq_true p6,Bool.true_and]
     simp only [↓wR,RA,simprocAttr,TF,ae,p6]
    ·rw [decide_eq_false p6,Bool.false_and]
     simp only [↓wR,RA,simprocAttr,TF,ae,p6]
   ·rw [decide_eq_false p5,Bool.false_and,Bool.false_and]
    simp only [↓wR,RA,simprocAttr,TF,ae,p5]
 ·rw [decide_eq_false p1,Bool.false_or]
  simp only [↓wR,RA,simprocAttr,TF,ae,p1]
  rw [bm];refine ⟨fun p2=>?_,fun p2=>?_⟩
  ·rw [decide_eq_true p2,Bool.true_and]
   simp only [↓wR,RA,simprocAttr,TF,ae,p2]
   rw [bm];refine ⟨fun p3=>?_,fun p3=>?_⟩
   ·rw [decide_eq_true p3,Bool.true_and]
    simp only [↓wR,RA,simprocAttr,TF,ae,p3]
    rw [bm];refine ⟨fun p4=>?_,fun p4=>?_⟩
    ·rw [decide_eq_true p4,Bool.true_or,Bool.true_and]
     simp only [↓wR,RA,simprocAttr,TF,ae,p4]
    ·rw [decide_eq_false p4,Bool.false_or]
     simp only [↓wR,RA,simprocAttr,TF,ae,p4]
     rw [bm];refine ⟨fun p5=>?_,fun p5=>?_⟩
     ·rw [decide_eq_true p5,Bool.true_and]
      simp only [↓wR,RA,simprocAttr,TF,ae,p5]
      rw [bm];refine ⟨fun p6=>?_,fun p6=>?_⟩
      ·rw [decide_eq_true p6,Bool.true_and]
       simp only [↓wR,RA,simprocAttr,TF,ae,p6]
      ·rw [decide_eq_false p6,Bool.false_and]
       simp only [↓wR,RA,simprocAttr,TF,ae,p6]
     ·rw [decide_eq_false p5,Bool.false_and,Bool.false_and]
      simp only [↓wR,RA,simprocAttr,TF,ae,p5]
   ·rw [decide_eq_false p3,Bool.false_and]
    simp only [↓wR,RA,simprocAttr,TF,ae,p3]
  ·rw [decide_eq_false p2,Bool.false_and,Bool.false_and]
   simp only [↓wR,RA,simprocAttr,TF,ae,p2]
noncomputable def Mv (x:bk × Unit):Option AV:=if c6 x.1 then some ((r1 bn).E true (aph x.1)) else none
set_option maxRecDepth 2000000 in
theorem apo (x:bk × Unit) (r:AV) (h:Mv x=some r):bc PP 15 ((aC cr a0).E x) r:=by
 by_cases hc:c6 x.1
 case neg=>simp only [Mv,if_neg hc] at h;cases h
 simp only [Mv,if_pos hc] at h
 cases h
 exact ba (aj.cons (ai aug) (aj.nil PP)) Tryz.func15 (by kernel_rfl) (by kernel_rfl) (by kernel_rfl) (Nat.le_of_ble_eq_true (by kernel_rfl)) (r1 bn) true (aph x.1) (az7 x.1 hc)
noncomputable abbrev azb:Nat × Bool × (List AV→M AV):=(15,true,cx (aC cr a0) Mv)
def Em (z:be) (n:Name) (s:bo):Bool:=D6 z s && dr n s.owner
theorem avn {z:be} {n:Name}:∀ (l:List bo) (b:Option Name),(∀ m,b=some m→∃ c,l.foldl (iq z n) b=some c∧c.length≤m.length)∧(∀ s ∈ l,Em z n s=true→∃ c,l.foldl (iq z n) b=some c∧c.length≤s.owner.length)∧∀ c,l.foldl (iq z n) b=some c→b=some c∨∃ s ∈ l,Em z n s=true∧s.owner=c:=by
 intro l
 induction l with
 |nil=>intro b;exact ⟨fun m hm=>⟨m,hm,Nat.le_refl _⟩,(fun s hs=>by cases hs),fun c hc=>.inl hc⟩
 |cons a l ih=>
  intro b
  obtain ⟨i1,i2,i3⟩:=ih (iq z n b a)
  rw [List.foldl_cons]
  have hst:iq z n b a=if (Em z n a && E9 a.owner b)=true then some a.owner else b:=by
   unfold iq Em D6
   simp only [Bool.and_assoc]
  have keep:∀ m,b=some m→∃ q,iq z n b a=some q∧q.length≤m.length:=fun m hm=>by
   rw [hst]
   split
   ·rename_i h
    rw [Bool.and_eq_true,hm] at h
    have:=of_decide_eq_true h.2
    exact ⟨_,rfl,by omega⟩
   ·exact ⟨m,hm,Nat.le_refl _⟩
  refine ⟨fun m hm=>?_,fun s hs hok=>?_,fun c hc=>?_⟩
  ·obtain ⟨q,hq,hle⟩:=keep m hm
   obtain ⟨c,hc,hle2⟩:=i1 q hq
   exact ⟨c,hc,by omega⟩
  ·rcases List.mem_cons.1 hs with rfl|hs
   ·cases hsh:E9 s.owner b with
    |true=>
     rw [hok,hsh,if_pos (by rfl)] at hst
     exact i1 _ hst
    |false=>
     cases b with
     |none=>cases hsh
     |some m=>
      have h2:¬ s.owner.length<m.length:=of_decide_eq_false hsh
      obtain ⟨q,hq,hle⟩:=keep m rfl
      obtain ⟨c,hc,hle2⟩:=i1 q hq
      exact ⟨c,hc,by omega⟩
   ·exact i2 s hs hok
  ·rcases i3 c hc with h|⟨s,hs,h1,h2⟩
   ·rw [hst] at h
    split at h
    ·rename_i hq
     rw [Bool.and_eq_true] at hq
     cases h
     exact .inr ⟨a,by simp,hq.1,rfl⟩
    ·exact .inl h
   ·exact .inr ⟨s,by simp [hs],h1,h2⟩
theorem aCe {z:be} {n c:Name} (h:k8 z n=some c):∃ s ∈ z.ar,Em z n s=true∧s.owner=c:=by
 rcases (avn z.ar none).2.2 c h with h|h
 ·cases h
 ·exact h
theorem atu {z:be} {n:Name} {s:bo} (h:Em z n s=true):(s.type.toNat:Int)=2∧z.origin.length<s.owner.length∧dr s.owner z.origin=true∧dr n s.owner=true:=by
 unfold Em D6 B6 at h
 simp only [Bool.and_eq_true,decide_eq_true_eq] at h
 exact ⟨h.1.1,h.1.2.1,h.1.2.2,h.2⟩
theorem axf {w:bk} (hg:Ej w) {z:be} (hz:z ∈ w.az) {n:Name} {s:bo} (hs:s ∈ z.ar) (h:Em z n s=true):∃ y ∈ w.az,fi y.origin s.owner=true:=by
 unfold Em at h
 rw [Bool.and_eq_true] at h
 exact hg.aHj z hz s.owner (List.mem_map.2 ⟨s,List.mem_filter.2 ⟨hs,h.1⟩,rfl⟩)
theorem Tb {w:bk} (hg:Ej w) {z:be} (hz:z ∈ w.az) {n:Name} (hn:dt n=0) (hu:dr n z.origin=true):jl z n=0:=by
 have:=hg.zone z hz
 unfold jl;rw [if_neg (by omega),if_neg (by omega),if_neg (by rw [hu];decide)]
theorem at3 {w:bk} (hg:Ej w) {n:Name} {k:Nat} {z:be} (ho:ac9 w n k z):k8 z n=none:=by
 cases h:k8 z n with
 |none=>rfl
 |some c=>
  obtain ⟨s,hs,hok,_⟩:=aCe h
  have hzm:=List.mem_of_getElem? ho.get
  obtain ⟨y,hy,hsame⟩:=axf hg hzm hs hok
  obtain ⟨_,h1,_,h2⟩:=atu hok
  have h3:=ho.max y hy (by rw [afn hsame];exact h2)
  have h4:=axh hsame
  omega
theorem aBh {w:bk} (hg:Ej w) {z:be} (hz:z ∈ w.az) {n:Name} {t:UInt16} (hn:dt n=0) (hu:dr n z.origin=true) (t0:(t.toNat:Int)≠0) (t41:(t.toNat:Int)≠41):Li z n t=(tc z n t (jj z n).1,0):=by
 have h:=Tb hg hz hn hu
 have hf:(jj z n).2=0:=by rcases X7 h with ⟨_,_,e⟩|⟨_,_,_,e⟩|⟨_,_,_,e⟩|⟨_,_,_,_,e⟩|⟨_,_,_,_,e⟩<;>rw [e]
 have ha:qk z n t=jj z n:=by unfold qk;rw [if_neg (fun q=>q.2.elim t0 t41)]
 unfold Li;rw [ha,if_neg (by omega)]
theorem av5 {w:bk} (hg:Ej w) {n:Name} {t:UInt16} (hn:dt n=0) {k:Nat} {z:be} (ho:ac9 w n k z):(tc z n t (jj z n).1).turn≠4:=by
 have h:=Tb hg (List.mem_of_getElem? ho.get) hn ho.under
 have hc:=at3 hg ho
 rcases Yk t h with ⟨c,s,hc',_⟩|⟨_,e⟩|⟨_,e⟩|⟨_,l,_,_,_,_,e⟩|⟨_,s,d,m,_,_,_,_,_,_,_,_,_,e⟩
 ·rw [hc] at hc';cases hc'
 ·rw [e];intro q;cases q
 ·rw [e];intro q;cases q
 ·rw [e];intro q;cases q
 ·rw [e];intro q;cases q
end Go.Proofs.YtajammoepjpiiaaGreat
end
namespace Go.Vm
noncomputable section
def fnD {α:Type} (f:Nat) (C:dn α) (h:Tr bh):AV→Option α
 |.fn (.func k) [] [p]=>bif Nat.beq k f then K5 C h p else none
 |_=>none
def aF {α β:Type} (f:Nat) (C:dn α) (R:AC β):AC (α × β) where
 E p:=.fn (.func f) [] [.gn (C.cells false p.1)]::R.E p.2
 D h l:=match l with
  | []=>none
  |a::r=>match fnD f C h a,R.D h r with
   |some x,some y=>some (x,y)
   |_,_=>none
 rt h p:=by
  have h1:K5 C h (.gn (C.cells false p.1))=some p.1:=by
   rw [N9,C.len,Nat.ble_self_eq_true,cond_true,List.take_of_length_le (by rw [C.len];exact Nat.le_refl _)]
   exact C.rt false h false p.1 (fun e=>by cases e)
  have:fnD f C h (.fn (.func f) [] [.gn (C.cells false p.1)])=some p.1:=by
   rw [fnD,Nat.beq_refl,cond_true,h1]
  simp only [this,R.rt]
 ok:=by
  intro g h w K b0 l vs x hok hl hr hd
  match l,hd with
  |a::r,hd=>
   simp only at hd
   split at hd
   ·rename_i x1 y1 hx hy
    simp at hd;subst hd
    match vs,hr with
    | [],hr=>have:=hr.1;simp at this
    |v::vs,hr=>
     refine bu.cons ?_ (R.ok hok hl hr.tail hy)
     unfold fnD at hx
     split at hx
     ·rename_i k p hr2
      cases hb:Nat.beq k f with
      |false=>rw [hb] at hx;cases hx
      |true=>
       have hk:k=f:=Nat.eq_of_beq_eq_true hb
       subst hk
       rw [hb,cond_true] at hx
       cases hr.head with
       |fn _ _ _ va vb hs hv hs' hv'=>
        refine .fn _ _ _ va vb hs (fun i a v h _=>by simp at h) (by simpa using hs') (fun i a v h1 h2=>?_)
        cases i with
        |zero=>
         simp at h1
         subst h1
         exact al9 C hok hl (hv' 0 p v rfl h2) hx
        |succ i=>simp at h1
     ·cases hx
   ·cases hd
theorem aCc {α β:Type} (f:Nat) (C:dn α) (R:AC β) (h:Tr bh) (k:Nat) (p:AV) (r:List AV):(aF f C R).get h (.fn (.func k) [] [p]::r)=match bif Nat.beq k f then K5 C h p else none,R.get h r with|some x,some y=>some (x,y)|_,_=>none:=id rfl
theorem apt {P:Program} {T:eg} {l:Nat} {bd:Nat} {L:SL} {st:St} {Q:QI} {ps:List Tmp} {ra rb:Code} {L0:SL} {α:Type} {b:Code} (keep:List Nat) (V : α→List AV) (O : α→List (Option bh)) (I : α→Prop) (μ : α→Nat) (x : α) (hx:I x)
 (hv:jt bd (kc bd keep L st) (gw bd keep L st) (V x) (O x))
 (step:∀ x,I x→nw P T l (je ps (fun p=>wl P T p ra) (fun p=>wl P T p rb) L0) bd b (vd (ya bd keep (fun vs os=>∃ y,I y ∧ μ y < μ x∧jt bd vs os (V y) (O y)) (fun _ _ _=>False)) Q) none (nq keep (V x)) (bq (O x))):nw P T l (je ps (fun p=>wl P T p ra) (fun p=>wl P T p rb) L0) bd (.loop b) Q none L st:=by
 have mono:∀ (Q1 Q2:QL),(∀ e L st,Q1 e L st→Q2 e L st)→∀ L st,nw P T l (je ps (fun p=>wl P T p ra) (fun p=>wl P T p rb) L0) bd b (vd Q1 Q) none L st→nw P T l (je ps (fun p=>wl P T p ra) (fun p=>wl P T p rb) L0) bd b (vd Q2 Q) none L st:=fun Q1 Q2 h L st hh=>Kv (Iu P T) b _ _ (fun e pe L st q=>by
  cases e with
  |normal=>exact ⟨q.1,h _ _ _ q.2⟩
  |ret=>exact q
  |exit i=>exact q) none L st hh
 exact ⟨rfl,sx.aqr (B:=fun Q' L st=>nw P T l _ bd b (vd Q' Q) none L st) keep V O I μ x hx hv mono (fun x hi=>step x hi)⟩
end
end Go.Vm
