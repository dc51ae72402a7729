/- A piece of the proof. Proved: where the arguments are together of bulk at most 1048576, the law LookupHolds returns true (each set that is answered holds), and what it was given reads afterwards as it did before. No other conditions. -/
import Derived.WalkKit
import Derived.CallsIn
import Derived.RangeFuncIn
import Derived.RangeFuncLeaves
import Derived.Orders
import Derived.OrdersIn
import Derived.Scope
import Derived.RangeFuncOwn
import Derived.Stop.SameAnswer
import Derived.Laws.Externs
import Derived.Lib.Bytealg
import Derived.ProofKit
import Derived.OpenShut
import Derived.ReadAgain
import Derived.Deep.Slices
import Derived.ChangeSame
import Derived.Test.YtajammoepjpiiaaGreatProg
import Derived.KernelRfl
import Derived.Test.YtajammoepjpiiaaGreatRows
import Derived.Maps.RangeRun
import Derived.JoinedCond
import Derived.Test.YtajammoepjpiiaaGreatC3
set_option linter.unusedSimpArgs false
set_option linter.unusedVariables false
section
namespace Go.Proofs.YtajammoepjpiiaaGreat
open Go.Vm
set_option maxRecDepth 2000000
def tm (t:UInt16) (l:List bh):sn:=
 if (t.toNat:Int)=255∧0<l.length then vo 0 l []
 else match l.find? (fun s=>decide ((s.type.toNat:Int)=t.toNat)) with
  |some x=>vo 0 [x] []
  |none=>match l.find? (fun s=>decide ((s.type.toNat:Int)=5) && decide ((t.toNat:Int)≠255)) with
   |some x=>vo 1 [x] (((x.data[0]?).bind fun d=>d.names[0]?).getD [])
   |none=>vo 2 [] []
noncomputable def jx (z:ba) (n:Name) (t:UInt16) (s:C0):sn:=
 if s.kind=4 then vo 4 [(ji z.aj s.node 2).getD m5] []
 else if s.kind=0 then vo 3 [] []
 else if s.kind=2 then vo 2 [] []
 else tm t (if s.kind=3 then (js z s.node).map (wx n) else js z s.node)
theorem m11:x8 1 [1]=true:=id rfl
theorem m01:x8 0 [1]=false:=id rfl
set_option maxHeartbeats 4000000 in
theorem ax2 (z:ba) (n:Name) (t:UInt16) (s:C0) (hz:c7 z) (hn:bc n) (he:fy z=0) (hsn:bc s.node):wl PP [Bd,dv,Ey,o9] 0 (Tryz.f59.body.getD .skip) (dp PP Tryz.f59.results.toList (fun r st=>(r1 oj).get true st.h r=some (jx z n t s))) (ca 0 [bg.val false z,ar.val false n,cw.val false t,sg.val false s]) (br []):=by
 have hl:=hz.len
 have ok:ak PP [Bd,dv,Ey,o9]:=ak.cons (ai te) (ak.cons (ai fg) (ak.cons (ai A8) (ak.cons (ai j8) (ak.nil PP))))
 unfold Tryz.f59
 simp only [ic,dm,H0]
 simp only [↓wR,RA,simprocAttr,TF,ae]
 unfold jx
 rw [cz];refine ⟨fun ⟨h4,e4⟩=>?_,fun ⟨h4,e4⟩=>?_⟩
 ·rw [if_pos e4]
  simp only [↓wR,RA,simprocAttr,TF,ae,h4,J9,tt,hz.mid,hsn,Mj]
 rw [if_neg e4]
 simp only [↓wR,RA,simprocAttr,TF,ae,h4]
 rw [cz];refine ⟨fun ⟨h0,e0⟩=>?_,fun ⟨h0,e0⟩=>?_⟩
 ·rw [if_pos e0]
  simp only [↓wR,RA,simprocAttr,TF,ae,h0]
 rw [if_neg e0]
 simp only [↓wR,RA,simprocAttr,TF,ae,h0]
 rw [cz];refine ⟨fun ⟨h2,e2⟩=>?_,fun ⟨h2,e2⟩=>?_⟩
 ·rw [if_pos e2]
  simp only [↓wR,RA,simprocAttr,TF,ae,h2]
 rw [if_neg e2]
 simp only [↓wR,RA,simprocAttr,TF,ae,h2]
 refine ea (fun r st'=>r = .sl 3 0 (js z s.node).length 5∧st'=br [some (.row [.vl false 1 (z.origin.map (aq.val false)),.vl false 5 (z.aj.map (an.val false))] 0 2 26),some (.row [.sc (.int .u8 s.kind),.vl false 1 (s.node.map (aq.val false)),.vl false 1 (s.wb.map (aq.val false))] 0 2 90),some (.row [.sc (.int .u8 0),.sc (.slice none 0 0),.sc (.slice none 0 0)] 0 2 64),some (.row (cellsOf an true (js z s.node)) 0 0 40)]) rfl ?_ ?_
 ·refine bo (T:=[Bd,dv,Ey,o9]) ok mixed Tryz.func96 rfl (by kernel_rfl) (by kernel_rfl) (by kernel_rfl) (by kernel_rfl) ?_;unfold Tryz.f96
  simp only [↓wR,RA,simprocAttr,TF,ae]
  refine ma [1,9,10,11,5] (fun (x:Nat × List bh)=>[.vl false 1 (s.node.map (aq.val false)),.vl false 5 (z.aj.map (an.val false)),.sc (.int .i64 (z.aj.length)),.sc (.int .i64 (x.1)),.sl 3 0 x.2.length 5]) (fun x=>[some (.row [.vl false 1 (z.origin.map (aq.val false)),.vl false 5 (z.aj.map (an.val false))] 0 2 26),some (.row [.sc (.int .u8 s.kind),.vl false 1 (s.node.map (aq.val false)),.vl false 1 (s.wb.map (aq.val false))] 0 2 90),some (.row [.sc (.int .u8 0),.sc (.slice none 0 0),.sc (.slice none 0 0)] 0 2 64),some (.row (cellsOf an true (x.2)) 0 0 40)]) (fun x=>x.1≤z.aj.length∧x.2++(z.aj.drop x.1).filter (fun q=>ef q.owner s.node)=js z s.node) (fun x=>z.aj.length - x.1) (0,[]) ⟨Nat.zero_le _,rfl⟩ (by simp only [↓wR,RA,simprocAttr,TF,ae];(refine me.lax [] (by first|exact Nat.le_of_ble_eq_true rfl|(simp [cx];omega)) ?_ ?_<;>repeat' first|exact iu.nil|exact dq.nil|exact jk.same _|exact jk.nil _ _ _|exact jk.wu _ _|exact dq.refl _ _|apply iu.cons|apply dq.ghost|apply dq.same|apply dq.row)) ?_
  rintro ⟨i,x⟩ ⟨hi,hx⟩
  simp only at hi hx
  have hxl:x.length≤z.aj.length:=by
   have h1:=uw (l:=z.aj) (fun q=>ef q.owner s.node)
   have h2:=congrArg List.length hx
   simp only [List.length_append,js] at h2
   omega
  simp only [↓wR,RA,simprocAttr,TF,ae]
  rw [bj];refine ⟨fun h=>?_,fun h=>?_⟩
  ·obtain ⟨c,hc,hd1,hlt⟩:=dw (decide_eq_true h)
   rw [N3 hd1] at hx
   have hcs:=hz.set c (List.mem_of_getElem? hc)
   simp only [↓wR,RA,simprocAttr,TF,ae,h,hc,fm,hcs.owner,hsn]
   rw [bm];refine ⟨fun h1=>?_,fun h1=>?_⟩
   ·rw [if_pos h1] at hx
    have hlim:(x.length * 5+5) * 64≤140737488355328:=by omega
    simp only [↓wR,RA,simprocAttr,TF,ae,h1,ta,hcs,hlim];repeat (simp (disch:=omega) only [ah,b9,bu,bw,bz];try simp only [↓wR,RA,simprocAttr,TF,ae,h1,ta,hcs,hlim])
    refine ⟨(i+1,x++[c]),⟨hlt,by rw [← hx];simp⟩,by simp;omega,by (first|rfl|trivial|omega|((try (simp (disch:=omega) only [ah]));(try (simp only [FB]));first|done|rfl|omega)),?_⟩
    rw [Fy]
   ·rw [if_neg (by rw [h1];decide)] at hx
    simp only [↓wR,RA,simprocAttr,TF,ae,h1];repeat (simp (disch:=omega) only [ah,b9,bu,bw,bz];try simp only [↓wR,RA,simprocAttr,TF,ae,h1])
    exact ⟨(i+1,x),⟨hlt,hx⟩,by simp;omega,by (first|rfl|trivial|omega|((try (simp (disch:=omega) only [ah]));(try (simp only [FB]));first|done|rfl|omega)),by (first|rfl|trivial|omega|((try (simp (disch:=omega) only [ah]));(try (simp only [FB]));first|done|rfl|omega))⟩
  ·rw [dz (decide_eq_false h)] at hx
   rw [List.filter_nil,List.append_nil] at hx
   subst hx
   simp only [↓wR,RA,simprocAttr,TF,ae,h,jf,iz,il]
 rintro _ _ ⟨rfl,rfl⟩
 simp only [↓wR,RA,simprocAttr,TF,ae,ia]
 rw [cz];refine ⟨fun ⟨h3,e3⟩=>?_,fun ⟨h3,e3⟩=>?_⟩
 rotate_left
 rw [if_neg e3]
 simp only [↓wR,RA,simprocAttr,TF,ae,h3]
 obtain ⟨L,hLe⟩:∃ L,L=js z s.node:=⟨_,rfl⟩
 have hLd:∀ x ∈ L,∃ y ∈ z.aj,x.data=y.data∧x.type=y.type:=fun x hx=>⟨x,by rw [hLe] at hx;exact (List.mem_filter.1 hx).1,rfl,rfl⟩
 have hLl:L.length=(js z s.node).length:=by rw [hLe]
 rw [← hLl,← hLe]
 clear hLe
 rotate_left
 rw [if_pos e3]
 simp only [↓wR,RA,simprocAttr,TF,ae,h3]
 refine ea (fun r st'=>r = .sl 3 0 (js z s.node).length 5∧st'=br [some (.row [.vl false 1 (z.origin.map (aq.val false)),.vl false 5 (z.aj.map (an.val false))] 0 2 26),some (.row [.sc (.int .u8 s.kind),.vl false 1 (s.node.map (aq.val false)),.vl false 1 (s.wb.map (aq.val false))] 0 2 90),some (.row [.sc (.int .u8 0),.sc (.slice none 0 0),.sc (.slice none 0 0)] 0 2 64),some (.row (cellsOf an true ((js z s.node).map (wx n))) 0 0 40)]) rfl ?_ ?_
 ·refine bo (T:=[Bd,dv,Ey,o9]) ok mixed Tryz.func97 rfl (by kernel_rfl) (by kernel_rfl) (by kernel_rfl) (by kernel_rfl) ?_;unfold Tryz.f97
  simp only [↓wR,RA,simprocAttr,TF,ae]
  refine dh [0,1,7,8] (fun (i:Nat)=>[.sl 3 0 (js z s.node).length 5,.vl false 1 (n.map (aq.val false)),.sc (.int .i64 ((js z s.node).length)),.sc (.int .i64 (i))]) (fun i=>[some (.row [.vl false 1 (z.origin.map (aq.val false)),.vl false 5 (z.aj.map (an.val false))] 0 2 26),some (.row [.sc (.int .u8 s.kind),.vl false 1 (s.node.map (aq.val false)),.vl false 1 (s.wb.map (aq.val false))] 0 2 90),some (.row [.sc (.int .u8 0),.sc (.slice none 0 0),.sc (.slice none 0 0)] 0 2 64),some (.row (cellsOf an true (((js z s.node).take i).map (wx n)++(js z s.node).drop i)) 0 0 40)]) (fun i=>i≤(js z s.node).length) (fun i=>(js z s.node).length - i) 0 (Nat.zero_le _) (by simp only [↓wR,RA,simprocAttr,TF,ae]<;>rfl) (by simp only [↓wR,RA,simprocAttr,TF,ae]<;>rfl) ?_
  intro i hi
  have hal:(js z s.node).length≤z.aj.length:=uw _
  simp only [↓wR,RA,simprocAttr,TF,ae]
  rw [bj];refine ⟨fun h=>?_,fun h=>?_⟩
  ·obtain ⟨c,hc,hd1,hlt⟩:=dw (decide_eq_true h)
   have hys:(((js z s.node).take i).map (wx n)++(js z s.node).drop i)[i]? = some c:=by
    rw [List.getElem?_append_right (by simp;omega),hd1]
    simp [Nat.min_eq_left (show i≤(js z s.node).length by omega)]
   have hst:=ate (xs:=((js z s.node).take i).map (wx n)++(js z s.node).drop i) n 0 40 3 hys
   have hyt:(((js z s.node).take i).map (wx n)++(js z s.node).drop i).take i++wx n c::(((js z s.node).take i).map (wx n)++(js z s.node).drop i).drop (i+1)=((js z s.node).take (i+1)).map (wx n)++(js z s.node).drop (i+1):=by
    obtain ⟨_,rfl⟩:=List.getElem?_eq_some_iff.1 hc
    have hlm:(((js z s.node).take i).map (wx n)).length=i:=by simp;omega
    rw [List.take_left' hlm,List.drop_append,hlm,List.take_succ_eq_append_getElem hlt,List.map_append]
    rw [List.drop_eq_nil_of_le (by omega),List.drop_drop,Nat.add_sub_cancel_left]
    simp
   rw [hyt] at hst
   simp only [↓wR,RA,simprocAttr,TF,ae,h,gu,hn,↓hst];repeat (simp (disch:=omega) only [ah,b9,bu,bw,bz];try simp only [↓wR,RA,simprocAttr,TF,ae,h,gu,hn,↓hst])
   exact ⟨i+1,hlt,by omega,by (first|rfl|trivial|omega|((try (simp (disch:=omega) only [ah]));(try (simp only [FB]));first|done|rfl|omega))⟩
  ·have hin:i=(js z s.node).length:=by omega
   subst hin
   simp only [↓wR,RA,simprocAttr,TF,ae,h,jf,iz,il,List.take_length,List.drop_length,List.append_nil]
 rintro _ _ ⟨rfl,rfl⟩
 simp only [↓wR,RA,simprocAttr,TF,ae,ia]
 obtain ⟨L,hLe⟩:∃ L,L=(js z s.node).map (wx n):=⟨_,rfl⟩
 have hLd:∀ x ∈ L,∃ y ∈ z.aj,x.data=y.data∧x.type=y.type:=fun x hx=>by
  rw [hLe] at hx
  obtain ⟨y,hy,rfl⟩:=List.mem_map.1 hx
  exact ⟨y,(List.mem_filter.1 hy).1,rfl,rfl⟩
 have hLl:L.length=(js z s.node).length:=by rw [hLe,List.length_map]
 rw [← hLl,← hLe]
 clear hLe
 all_goals
  unfold tm
  have hL0:L.length≤z.aj.length:=by rw [hLl];exact uw _
  by_cases hany:(t.toNat:Int)=255∧0<L.length
  ·rw [if_pos hany]
   have e5:((t.toNat:Int) == 255)=true:=by rw [hany.1];rfl
   have e6:decide ((L.length:Int) > 0)=true:=decide_eq_true (by omega)
   simp only [↓wR,RA,simprocAttr,TF,ae,e5,e6]
  rw [if_neg hany]
  by_cases h5:(t.toNat:Int)=255
  rotate_left
  have e5:((t.toNat:Int) == 255)=false:=by simpa using h5
  simp only [↓wR,RA,simprocAttr,TF,ae,e5]
  rotate_left
  have e5:((t.toNat:Int) == 255)=true:=by rw [h5];rfl
  have e6:decide ((L.length:Int) > 0)=false:=decide_eq_false (by omega)
  simp only [↓wR,RA,simprocAttr,TF,ae,e5,e6]
  all_goals
   refine ma [2,8,11,56,57,58] (fun (i:Nat)=>[.sc (.int .u16 t.toNat),.ptr 0 0,.vl true 5 (L.map (an.val true)),.vl true 5 (L.map (an.val true)),.sc (.int .i64 (L.length)),.sc (.int .i64 (i))]) (fun _=>[some (.row [.sc (.int .u8 0),.sc (.slice none 0 0),.sc (.slice none 0 0)] 0 2 64)]) (fun i=>i≤L.length∧L.find? (fun s=>decide ((s.type.toNat:Int)=t.toNat))=(L.drop i).find? (fun s=>decide ((s.type.toNat:Int)=t.toNat))) (fun i=>L.length - i) 0 ⟨Nat.zero_le _,rfl⟩ (by simp only [↓wR,RA,simprocAttr,TF,ae];refine .trans (me.lax [1] (Nat.le_of_ble_eq_true rfl) (.cons (.same _) (.cons (.same _) (.cons (.data (cp an) true L _ ?_) (.cons (.data (cp an) true L _ ?_) (.cons (.same _) (.cons (.same _) .nil)))))) (.same (.same .nil))) (me.aAf (by decide) ?_ ?_)<;>simp only [↓wR,RA,simprocAttr,TF,ae,Ao,Cm,m11,m01,ud]) ?_
   rintro i ⟨hi,hx⟩
   simp only [↓wR,RA,simprocAttr,TF,ae]
   rw [bj];refine ⟨fun h=>?_,fun h=>?_⟩
   ·obtain ⟨c,hc,hd1,hlt⟩:=dw (decide_eq_true h)
    by_cases h5:(t.toNat:Int)=255
    ·omega
    rw [Y2 hd1] at hx
    simp only [↓wR,RA,simprocAttr,TF,ae,h,hc]
    rw [cz];refine ⟨fun ⟨h1,e1⟩=>?_,fun ⟨h1,e1⟩=>?_⟩
    ·rw [if_pos (decide_eq_true e1)] at hx
     simp only [↓wR,RA,simprocAttr,TF,ae,h1,hx,Mj]
    ·rw [decide_eq_false e1,if_neg (by decide)] at hx
     simp only [↓wR,RA,simprocAttr,TF,ae,h1];repeat (simp (disch:=omega) only [ah,b9,bu,bw,bz];try simp only [↓wR,RA,simprocAttr,TF,ae,h1])
     exact ⟨i+1,⟨hlt,hx⟩,by omega,by (first|rfl|trivial|omega|((try (simp (disch:=omega) only [ah]));(try (simp only [FB]));first|done|rfl|omega))⟩
   rw [dz (decide_eq_false h),List.find?_nil] at hx
   rw [hx]
   simp only [↓wR,RA,simprocAttr,TF,ae,h]
   clear h hx hi
   refine dh [2,8,70,71,72] (fun (i:Nat)=>[.sc (.int .u16 t.toNat),.ptr 0 0,.vl true 5 (L.map (an.val true)),.sc (.int .i64 (L.length)),.sc (.int .i64 (i))]) (fun _=>[some (.row [.sc (.int .u8 0),.sc (.slice none 0 0),.sc (.slice none 0 0)] 0 2 64)]) (fun i=>i≤L.length∧L.find? (fun s=>decide ((s.type.toNat:Int)=5) && decide ((t.toNat:Int)≠255))=(L.drop i).find? (fun s=>decide ((s.type.toNat:Int)=5) && decide ((t.toNat:Int)≠255))) (fun i=>L.length - i) 0 ⟨Nat.zero_le _,rfl⟩ (by simp only [↓wR,RA,simprocAttr,TF,ae]<;>rfl) (by simp only [↓wR,RA,simprocAttr,TF,ae]<;>rfl) ?_
   rintro i ⟨hi,hx⟩
   simp only [↓wR,RA,simprocAttr,TF,ae]
   rw [bj];refine ⟨fun h=>?_,fun h=>?_⟩
   ·obtain ⟨c,hc,hd1,hlt⟩:=dw (decide_eq_true h)
    by_cases h5:(t.toNat:Int)=255
    ·omega
    have hne:((t.toNat:Int) != 255)=true:=by simpa using h5
    rw [Y2 hd1] at hx
    simp only [↓wR,RA,simprocAttr,TF,ae,h,hc]
    rw [cz];refine ⟨fun ⟨h1,e1⟩=>?_,fun ⟨h1,e1⟩=>?_⟩
    ·have hp:(decide ((c.type.toNat:Int)=5) && decide ((t.toNat:Int)≠255))=true:=by rw [decide_eq_true e1,decide_eq_true h5];rfl
     rw [if_pos hp] at hx
     obtain ⟨y,hy,hyd,hyt⟩:=hLd c (List.mem_of_getElem? hc)
     obtain ⟨d,m,hd,hm⟩:=au0 (xw he y hy) (by rw [← hyt];exact e1)
     rw [← hyd] at hd
     have hms:bc m:=by
      have:=(hz.set y hy).data.mem d (by rw [← hyd];exact List.mem_of_getElem? hd)
      exact this.name m (List.mem_of_getElem? hm)
     simp only [↓wR,RA,simprocAttr,TF,ae,h1,hne]
     refine ⟨by kernel_rfl,.inl ?_⟩
     simp only [↓wR,RA,simprocAttr,TF,ae,hd,hm,hx,gu,hms,Mj]
     exact (by kernel_rfl)
    ·have hp:(decide ((c.type.toNat:Int)=5) && decide ((t.toNat:Int)≠255))=false:=by rw [decide_eq_false e1];rfl
     rw [hp,if_neg (by decide)] at hx
     simp only [↓wR,RA,simprocAttr,TF,ae,h1];repeat (simp (disch:=omega) only [ah,b9,bu,bw,bz];try simp only [↓wR,RA,simprocAttr,TF,ae,h1])
     exact ⟨i+1,⟨hlt,hx⟩,by omega,by (first|rfl|trivial|omega|((try (simp (disch:=omega) only [ah]));(try (simp only [FB]));first|done|rfl|omega))⟩
   rw [dz (decide_eq_false h),List.find?_nil] at hx
   rw [hx]
   simp only [↓wR,RA,simprocAttr,TF,ae,h]
noncomputable def Mg (x:ba × Name × UInt16 × C0 × Unit):Option AV:=if (c7 x.1∧bc x.2.1)∧(fy x.1=0∧bc x.2.2.2.1.node) then some ((r1 oj).E true (jx x.1 x.2.1 x.2.2.1 x.2.2.2.1)) else none
set_option maxRecDepth 2000000 in
theorem am6 (x:ba × Name × UInt16 × C0 × Unit) (r:AV) (h:Mg x=some r):be PP 59 ((aC bg (aC ar (aC cw (aC sg a0)))).E x) r:=by
 by_cases hc:(c7 x.1∧bc x.2.1)∧(fy x.1=0∧bc x.2.2.2.1.node)
 case neg=>simp only [Mg,if_neg hc] at h;cases h
 simp only [Mg,if_pos hc] at h
 cases h
 exact bb (ak.cons (ai te) (ak.cons (ai fg) (ak.cons (ai A8) (ak.cons (ai j8) (ak.nil PP))))) Tryz.func59 (by kernel_rfl) (by kernel_rfl) (by kernel_rfl) (Nat.le_of_ble_eq_true (by kernel_rfl)) (r1 oj) true (jx x.1 x.2.1 x.2.2.1 x.2.2.2.1) (ax2 x.1 x.2.1 x.2.2.1 x.2.2.2.1 hc.1.1 hc.1.2 hc.2.1 hc.2.2)
noncomputable abbrev aD1:Nat × Bool × (List AV→M AV):=(59,true,dc (aC bg (aC ar (aC cw (aC sg a0)))) Mg)
end Go.Proofs.YtajammoepjpiiaaGreat
end
section
set_option maxRecDepth 4000
namespace Go.Vm
noncomputable section
def ad1 (a b:AV) (e:M AV):M AV:=
 match a,b with
 |.sc (.int k x),.sc (.int _ y)=>.pure (.sc (.int k (if y<x then y else x)))
 |_,_=>e
def ag6 (a b:AV) (e:M AV):M AV:=
 match a,b with
 |.sc (.int k x),.sc (.int _ y)=>.pure (.sc (.int k (if y > x then y else x)))
 |_,_=>e
theorem atq (k k' x y e):ad1 (.sc (.int k x)) (.sc (.int k' y)) e = .pure (.sc (.int k (if y<x then y else x))):=id rfl
theorem apm (k k' x y e):ag6 (.sc (.int k x)) (.sc (.int k' y)) e = .pure (.sc (.int k (if y > x then y else x))):=id rfl
theorem am5 (P:Program) (ρ:Operand→AV) (d ty pos af gd) (x y:Operand) (ts):iw P ρ ⟨d,.call { callee:=.builtin .min,args:=#[x,y],argTypes:=ts },ty,pos,af,gd⟩ [x,y]=ad1 (ρ x) (ρ y) (zk P ρ ⟨d,.call { callee:=.builtin .min,args:=#[x,y],argTypes:=ts },ty,pos,af,gd⟩ [x,y]):=by
 unfold ad1
 split
 ·rename_i k a k' b hx hy
  have h2:execOp (fun z=>((ρ z).ft).getD undef) ⟨d,.call { callee:=.builtin .min,args:=#[x,y],argTypes:=ts },ty,pos,af,gd⟩=(do pure (Next.value (← Builtin.min_ ts ty #[.int k a,.int k' b]))):=by
   simp [execOp,resolve,invoke,builtin,hx,hy,AV.ft]
  have h3:ev P (Builtin.min_ ts ty #[.int k a,.int k' b])=some (.int k (if b<a then b else a)):=by
   simp [Builtin.min_,Builtin.min2,ev]
   rfl
  unfold iw ku sd
  simp [hx,hy,AV.ft]
  rw [h2,Jw,h3]
  rfl
 ·rfl
theorem an6 (P:Program) (ρ:Operand→AV) (d ty pos af gd) (x y:Operand) (ts):iw P ρ ⟨d,.call { callee:=.builtin .max,args:=#[x,y],argTypes:=ts },ty,pos,af,gd⟩ [x,y]=ag6 (ρ x) (ρ y) (zk P ρ ⟨d,.call { callee:=.builtin .max,args:=#[x,y],argTypes:=ts },ty,pos,af,gd⟩ [x,y]):=by
 unfold ag6
 split
 ·rename_i k a k' b hx hy
  have h2:execOp (fun z=>((ρ z).ft).getD undef) ⟨d,.call { callee:=.builtin .max,args:=#[x,y],argTypes:=ts },ty,pos,af,gd⟩=(do pure (Next.value (← Builtin.max_ ts ty #[.int k a,.int k' b]))):=by
   simp [execOp,resolve,invoke,builtin,hx,hy,AV.ft]
  have h3:ev P (Builtin.max_ ts ty #[.int k a,.int k' b])=some (.int k (if b > a then b else a)):=by
   simp [Builtin.max_,Builtin.max2,ev]
   rfl
  unfold iw ku sd
  simp [hx,hy,AV.ft]
  rw [h2,Jw,h3]
  rfl
 ·rfl
theorem Na (P:Program) (T:ee) (ρ:Operand→AV) (d ty pos af gd) (s x ts):fo P T ⟨d,.call { callee:=.builtin .min,args:=#[s,x],argTypes:=ts },ty,pos,af,gd⟩ ρ=mono (ad1 (ρ s) (ρ x) (zk P ρ ⟨d,.call { callee:=.builtin .min,args:=#[s,x],argTypes:=ts },ty,pos,af,gd⟩ [s,x])):=by
 rw [← am5];rfl
theorem alz {P:Program} {T:ee} {d ty pos af gd recs K L st} (s x ts):gb P T ⟨d,.call { callee:=.builtin .min,args:=#[s,x],argTypes:=ts },ty,pos,af,gd⟩ recs K L st=fi (true) (reach st.h ff (AV.names.go ([s,x].map (c0 L))) []) ⟨d,.call { callee:=.builtin .min,args:=#[s,x],argTypes:=ts },ty,pos,af,gd⟩ recs K L st (mono (ad1 (c0 L s) (c0 L x) (zk P (cq ⟨d,.call { callee:=.builtin .min,args:=#[s,x],argTypes:=ts },ty,pos,af,gd⟩ L) ⟨d,.call { callee:=.builtin .min,args:=#[s,x],argTypes:=ts },ty,pos,af,gd⟩ [s,x]))):=by
 unfold gb kr mg fi
 simp only [jl,cond_false]
 have hm:∀ y,y ∈ ([s,x]:List Operand)→cq ⟨d,.call { callee:=.builtin .min,args:=#[s,x],argTypes:=ts },ty,pos,af,gd⟩ L y=c0 L y:=fun y hy=>eu (by simpa [Op.operands,Call.operands] using hy)
 have hmap:([s,x]:List Operand).map (cq ⟨d,.call { callee:=.builtin .min,args:=#[s,x],argTypes:=ts },ty,pos,af,gd⟩ L)=([s,x]:List Operand).map (c0 L):=ib (fun y hy=>by simpa [Op.operands,Call.operands] using hy)
 have ho:(⟨d,.call { callee:=.builtin .min,args:=#[s,x],argTypes:=ts },ty,pos,af,gd⟩:Oper).op.operands.toList=[s,x]:=by simp [Op.operands,Call.operands]
 rw [ho,hmap]
 rw [Na,hm s (by simp),hm x (by simp)]
 rfl
theorem Mu (P:Program) (T:ee) (ρ:Operand→AV) (d ty pos af gd) (s x ts):fo P T ⟨d,.call { callee:=.builtin .max,args:=#[s,x],argTypes:=ts },ty,pos,af,gd⟩ ρ=mono (ag6 (ρ s) (ρ x) (zk P ρ ⟨d,.call { callee:=.builtin .max,args:=#[s,x],argTypes:=ts },ty,pos,af,gd⟩ [s,x])):=by
 rw [← an6];rfl
theorem akk {P:Program} {T:ee} {d ty pos af gd recs K L st} (s x ts):gb P T ⟨d,.call { callee:=.builtin .max,args:=#[s,x],argTypes:=ts },ty,pos,af,gd⟩ recs K L st=fi (true) (reach st.h ff (AV.names.go ([s,x].map (c0 L))) []) ⟨d,.call { callee:=.builtin .max,args:=#[s,x],argTypes:=ts },ty,pos,af,gd⟩ recs K L st (mono (ag6 (c0 L s) (c0 L x) (zk P (cq ⟨d,.call { callee:=.builtin .max,args:=#[s,x],argTypes:=ts },ty,pos,af,gd⟩ L) ⟨d,.call { callee:=.builtin .max,args:=#[s,x],argTypes:=ts },ty,pos,af,gd⟩ [s,x]))):=by
 unfold gb kr mg fi
 simp only [jl,cond_false]
 have hm:∀ y,y ∈ ([s,x]:List Operand)→cq ⟨d,.call { callee:=.builtin .max,args:=#[s,x],argTypes:=ts },ty,pos,af,gd⟩ L y=c0 L y:=fun y hy=>eu (by simpa [Op.operands,Call.operands] using hy)
 have hmap:([s,x]:List Operand).map (cq ⟨d,.call { callee:=.builtin .max,args:=#[s,x],argTypes:=ts },ty,pos,af,gd⟩ L)=([s,x]:List Operand).map (c0 L):=ib (fun y hy=>by simpa [Op.operands,Call.operands] using hy)
 have ho:(⟨d,.call { callee:=.builtin .max,args:=#[s,x],argTypes:=ts },ty,pos,af,gd⟩:Oper).op.operands.toList=[s,x]:=by simp [Op.operands,Call.operands]
 rw [ho,hmap]
 rw [Mu,hm s (by simp),hm x (by simp)]
 rfl
theorem MM0:type_of% @atq∧type_of% @apm∧type_of% @Na∧type_of% @Mu∧type_of% @alz∧type_of% @akk:=
 ⟨@atq,@apm,@Na,@Mu,@alz,@akk⟩
end
end Go.Vm
end
section
namespace Go.Proofs.YtajammoepjpiiaaGreat
open Go.Vm
set_option maxRecDepth 2000000
theorem ap9 {z:ba} {n:Name} (hz:c7 z) (hn:bc n):bc (ga z n).1.node:=by
 by_cases h:ik z n=0
 ·rcases E7 h with ⟨c,hc,e⟩|⟨hc,_,_,e⟩|⟨hc,_,_,e⟩|⟨hc,_,_,_,e⟩|⟨hc,_,_,_,e⟩<;>rw [e]
  ·exact Zo hz z.aj none (fun _ h=>h) (fun m hm=>by cases hm) c hc
  ·exact hn
  ·show bt []≤_;decide
  ·exact W5 (Gp h).2.1
  ·show bt []≤_;decide
 ·rw [ad3 h];show bt []≤_;decide
theorem azn {z:ba} {n:Name} (h:(ga z n).2=0):ik z n=0:=by
 by_cases e:ik z n=0
 ·exact e
 ·rw [ad3 e] at h;exact h
theorem atr {z:ba} {n:Name} {t:UInt16} (h:(qm z n t).2=0):ik z n=0∧(t.toNat:Int)≠0∧(t.toNat:Int)≠41∧(qm z n t).1=(ga z n).1:=by
 unfold qm at h ⊢
 split at h
 ·cases h
 ·rename_i q
  rw [if_neg q]
  exact ⟨azn h,fun e=>q ⟨h,.inl e⟩,fun e=>q ⟨h,.inr e⟩,rfl⟩
noncomputable def K1 (z:ba) (n:Name) (t:UInt16):sn × Int:=if (qm z n t).2≠0 then (vo 0 [] [],(qm z n t).2) else (jx z n t (ga z n).1,0)
theorem ay0 (z:ba) (n:Name) (t:UInt16) (hz:c7 z) (hn:bc n):wl PP [aAs,aD1] 0 (Tryz.f23.body.getD .skip) (dp PP Tryz.f23.results.toList (fun r st=>(r2 oj (au .i64)).get true st.h r=some (K1 z n t))) (ca 0 [bg.val false z,ar.val false n,cw.val false t]) (br []):=by
 unfold Tryz.f23
 simp only [ic,dm]
 unfold K1
 by_cases he:(qm z n t).2=0
 ·obtain ⟨h1,h2,h3,h4⟩:=atr he
  obtain ⟨a1,a2,a3⟩:=Gp h1
  have hsp:=ap9 hz hn
  rw [if_neg (by omega)]
  rcases hf:ga z n with ⟨⟨k,nd,cl⟩,e⟩
  rw [hf] at h4 hsp
  rcases ha:qm z n t with ⟨sp,e'⟩
  rw [ha] at h4 he
  simp only at h4 he hsp
  subst h4 he
  simp only [↓wR,RA,simprocAttr,TF,ae,E5,hz,hn,ha,bne_self_eq_false,Mg,a1,hsp]
  rfl
 ·rw [if_pos he]
  rcases ha:qm z n t with ⟨⟨k,nd,cl⟩,e⟩
  rw [ha] at he
  have hb:(e != 0)=true:=by simpa using he
  simp only [↓wR,RA,simprocAttr,TF,ae,E5,hz,hn,ha,hb]
noncomputable def Gd (x:ba × Name × UInt16 × Unit):Option AV:=if c7 x.1∧bc x.2.1 then some ((r2 oj (au .i64)).E true (K1 x.1 x.2.1 x.2.2.1)) else none
set_option maxRecDepth 2000000 in
theorem Kb (x:ba × Name × UInt16 × Unit) (r:AV) (h:Gd x=some r):be PP 23 ((aC bg (aC ar (aC cw a0))).E x) r:=by
 by_cases hc:c7 x.1∧bc x.2.1
 case neg=>simp only [Gd,if_neg hc] at h;cases h
 simp only [Gd,if_pos hc] at h
 cases h
 exact bb (ak.cons (ai ais) (ak.cons (ai am6) (ak.nil PP))) Tryz.func23 (by kernel_rfl) (by kernel_rfl) (by kernel_rfl) (Nat.le_of_ble_eq_true (by kernel_rfl)) (r2 oj (au .i64)) true (K1 x.1 x.2.1 x.2.2.1) (ay0 x.1 x.2.1 x.2.2.1 hc.1 hc.2)
noncomputable abbrev aou:Nat × Bool × (List AV→M AV):=(23,true,dc (aC bg (aC ar (aC cw a0))) Gd)
def auy (a b:UInt32):UInt32:=if (a.toNat:Int)≤b.toNat then a else b
def oh (z:ba):bh:=
 let s:=(ji z.aj z.origin 6).getD m5
 mkS s.owner s.type s.cls (auy s.pr (((s.data[0]?).bind fun d=>d.nums[4]?).getD 0)) s.data
theorem ae1 (z:ba):∀ (l:List bh) (p:Nat × Nat),p.2<(l.foldl (kl z) p).2→∃ s ∈ l,(s.type.toNat:Int)=6∧ef s.owner z.origin=true:=by
 intro l
 induction l with
 |nil=>intro p h;exact absurd h (Nat.lt_irrefl _)
 |cons a l ih=>
  intro p h
  rw [List.foldl_cons] at h
  by_cases h2:(kl z p a).2<(l.foldl (kl z) (kl z p a)).2
  ·obtain ⟨s,hs,h3⟩:=ih _ h2
   exact ⟨s,by simp [hs],h3⟩
  ·have h3:(kl z p a).2≠p.2:=by omega
   refine ⟨a,by simp,?_⟩
   unfold kl at h3
   split at h3
   ·rename_i e6
    dsimp only at h3
    split at h3
    ·rename_i e7
     rw [Bool.and_eq_true] at e7
     exact ⟨e6,e7.1⟩
    ·exact (h3 rfl).elim
   ·exact (h3 rfl).elim
theorem Tn {s:bh} (h:oq s=true):(s.cls.toNat:Int)=1∧(s.type.toNat:Int)≠255:=by
 unfold oq at h
 split at h
 ·cases h
 split at h
 ·cases h
 split at h
 ·cases h
 ·rename_i q _ _;exact ⟨by omega,by simpa using h⟩
theorem aqt {z:ba} (h:fy z=0):∃ s,ji z.aj z.origin 6=some s:=by
 have hg:=Kp h
 have h2:(0:Nat)<(gw z).2:=by rw [hg.aAq.2];decide
 obtain ⟨s,hs,e6,hso⟩:=ae1 z z.aj (0,0) h2
 have hc:=(Tn (hg.cls s hs)).1
 have hp:se z.origin 6 s=true:=by unfold se;rw [decide_eq_true (show (s.type.toNat:Int)=(6:UInt16).toNat from e6),decide_eq_true hc,hso];rfl
 cases hf:ji z.aj z.origin 6 with
 |some q=>exact ⟨q,rfl⟩
 |none=>exact absurd hp (by simpa using List.find?_eq_none.1 hf s hs)
theorem asy (z:ba) (hz:c7 z) (he:fy z=0):wl PP [Bd] 0 (Tryz.f74.body.getD .skip) (dp PP Tryz.f74.results.toList (fun r st=>(r1 an).get true st.h r=some (oh z))) (ca 0 [bg.val false z]) (br []):=by
 obtain ⟨s,hs⟩:=aqt he
 obtain ⟨m1,m2,m3,m4⟩:=A4 hs
 obtain ⟨d,k,hd,hk⟩:=aA8 (xw he s m1) (by rw [m2];rfl)
 unfold Tryz.f74
 simp only [ic]
 unfold oh
 simp only [↓wR,RA,simprocAttr,TF,ae,J9,tt,hz.mid,hz.origin,hs]
 refine ⟨by kernel_rfl,.inl ?_⟩
 have hm:(if (k.toNat:Int)<s.pr.toNat then (k.toNat:Int) else s.pr.toNat)=((auy s.pr k).toNat:Int):=by
  unfold auy;split<;>split<;>first|rfl|omega
 simp only [↓wR,RA,simprocAttr,TF,ae,hd,hk,MM0,hm]
 have hq:∀ a b c d,fe a b c=d→fe a b c=d:=fun _ _ _ _ h=>h
 apply hq
 kernel_rfl
noncomputable def Gm (x:ba × Unit):Option AV:=if c7 x.1∧fy x.1=0 then some ((r1 an).E true (oh x.1)) else none
set_option maxRecDepth 2000000 in
theorem acr (x:ba × Unit) (r:AV) (h:Gm x=some r):be PP 74 ((aC bg a0).E x) r:=by
 by_cases hc:c7 x.1∧fy x.1=0
 case neg=>simp only [Gm,if_neg hc] at h;cases h
 simp only [Gm,if_pos hc] at h
 cases h
 exact bb (ak.cons (ai te) (ak.nil PP)) Tryz.func74 (by kernel_rfl) (by kernel_rfl) (by kernel_rfl) (Nat.le_of_ble_eq_true (by kernel_rfl)) (r1 an) true (oh x.1) (asy x.1 hc.1 hc.2)
noncomputable abbrev aza:Nat × Bool × (List AV→M AV):=(74,true,dc (aC bg a0) Gm)
noncomputable def z3 (z:ba):bh × Int:=if fy z≠0 then (m5,fy z) else (oh z,0)
theorem ang (z:ba) (hz:c7 z):wl PP [adp,aza] 0 (Tryz.f64.body.getD .skip) (dp PP Tryz.f64.results.toList (fun r st=>(r2 an (au .i64)).get true st.h r=some (z3 z))) (ca 0 [bg.val false z]) (br []):=by
 unfold Tryz.f64
 simp only [ic]
 simp only [↓wR,RA,simprocAttr,TF,ae,Cj,hz]
 unfold z3
 rw [bm];refine ⟨fun h=>?_,fun h=>?_⟩
 ·have he:fy z≠0:=by simpa using h
  rw [if_pos he]
  simp only [↓wR,RA,simprocAttr,TF,ae,h]
  rfl
 have he:fy z=0:=by simpa using h
 rw [if_neg (by omega)]
 simp only [↓wR,RA,simprocAttr,TF,ae,h,Gm,hz,he]
noncomputable def zm (x:ba × Unit):Option AV:=if c7 x.1 then some ((r2 an (au .i64)).E true (z3 x.1)) else none
set_option maxRecDepth 2000000 in
theorem abm (x:ba × Unit) (r:AV) (h:zm x=some r):be PP 64 ((aC bg a0).E x) r:=by
 by_cases hc:c7 x.1
 case neg=>simp only [zm,if_neg hc] at h;cases h
 simp only [zm,if_pos hc] at h
 cases h
 exact bb (ak.cons (ai Ii) (ak.cons (ai acr) (ak.nil PP))) Tryz.func64 (by kernel_rfl) (by kernel_rfl) (by kernel_rfl) (Nat.le_of_ble_eq_true (by kernel_rfl)) (r2 an (au .i64)) true (z3 x.1) (ang x.1 hc)
noncomputable abbrev awc:Nat × Bool × (List AV→M AV):=(64,true,dc (aC bg a0) zm)
def aDg (n:Name) (s:bh):Bool:=(decide ((s.type.toNat:Int)=1) || decide ((s.type.toNat:Int)=28)) && ef s.owner n
def axd (z:ba):List Name→List Name→List bh
 |_,[]=>[]
 |pre,n::r=>(if pre.any (fun m=>ef m n)=true then [] else z.aj.filter (aDg n))++axd z (pre++[n]) r
def aC7 (z:ba) (l:List Name):List bh:=axd z [] l
def rp (l:List Name):Prop:=fu bt l≤16777216
instance (l:List Name):Decidable (rp l):=inferInstanceAs (Decidable (_≤_))
theorem rp.mem {l:List Name} (h:rp l):∀ n ∈ l,bc n:=fun n hn=>by
 have h1:bt n<fu bt l:=pc hn
 unfold rp at h;unfold bc;omega
theorem rp.len {l:List Name} (h:rp l):l.length≤16777216:=Nat.le_trans (rm bt l) h
theorem av3 {z:ba} (h:fy z=0):z.aj.length≤2048:=by
 have hs:=xw h
 have hf:=(Kp h).first
 unfold v9 at hf
 split at hf
 ·contradiction
 have key:∀ (l:List bh) (e:Int),Cy l e=0→e=0:=by
  intro l
  induction l with
  |nil=>intro e h;exact h
  |cons a l ih=>
   intro e h
   rw [Cy] at h
   have h1:=ih _ h
   split at h1
   ·assumption
   ·exact h1
 have h1:=key _ _ hf
 have h2:k8 z.aj≤2048:=by
  unfold da at h1
  split at h1
  ·cases h1
  ·rename_i q
   by_cases hd:k8 z.aj≤2048
   ·exact hd
   ·exact (q ⟨rfl,decide_eq_false hd⟩).elim
 have h3:∀ (l:List bh) (k:Nat),(∀ s ∈ l,oy s=0)→k+l.length≤l.foldl (fun n s=>n+s.data.length) k:=by
  intro l
  induction l with
  |nil=>intro k _;exact Nat.le_refl _
  |cons a l ih=>
   intro k hl
   obtain ⟨d,hd,_⟩:=Hy (hl a (by simp))
   have : 0<a.data.length:=(List.getElem?_eq_some_iff.1 hd).1
   have:=ih (k+a.data.length) (fun s hs=>hl s (by simp [hs]))
   rw [List.length_cons,List.foldl_cons]
   omega
 have:=h3 z.aj 0 hs
 unfold k8 at h2
 omega
end Go.Proofs.YtajammoepjpiiaaGreat
end
namespace Go.Vm
noncomputable section
def ui (D:List Nat) (nx i:Nat):Nat:=match D[i]? with|some o=>o|none=>nx+(i - D.length)
def Oi (D:List Nat) (nx n0 i:Nat):Option Nat:=bif Nat.blt i n0 then some (ui D nx i) else none
def Dq (D:List Nat) (nx n0:Nat) (h0:Tr bf):List Nat→Tr bf→Tr bf
 | [],h=>h
 |i::r,h=>Dq D nx n0 h0 r (Tr.set depth h (ui D nx i) ((h0.get i).bind (bf.dg (Oi D nx n0))))
def vr (D:List Nat) (st st0:St):St:={ h:=Dq D st.nx st0.nx st0.h (dx 0 st0.nx) st.h,nx:=st.nx+(st0.nx - D.length),rl:=[],wl:=[] }
theorem A7 {D:List Nat} {nx i o:Nat} (h:D[i]? = some o):ui D nx i=o:=by unfold ui;rw [h]
theorem De {D:List Nat} {nx i:Nat} (h:D.length≤i):ui D nx i=nx+(i - D.length):=by unfold ui;rw [List.getElem?_eq_none h]
theorem aya {D:List Nat} {nx:Nat} (hD:D.Nodup) (hlt:∀ o ∈ D,o<nx) {i j:Nat} (h:ui D nx i=ui D nx j):i=j:=by
 rcases Nat.lt_or_ge i D.length with hi|hi<;>rcases Nat.lt_or_ge j D.length with hj|hj
 ·rw [A7 (List.getElem?_eq_getElem hi),A7 (List.getElem?_eq_getElem hj)] at h
  exact (List.getElem_inj hD).1 h
 ·rw [A7 (List.getElem?_eq_getElem hi),De hj] at h
  have:=hlt _ (List.getElem_mem hi);omega
 ·rw [De hi,A7 (List.getElem?_eq_getElem hj)] at h
  have:=hlt _ (List.getElem_mem hj);omega
 ·rw [De hi,De hj] at h;omega
theorem az9 {D:List Nat} {nx n0 i:Nat} (hlt:∀ o ∈ D,o<nx) (hi:i<n0):ui D nx i≤nx+n0:=by
 rcases Nat.lt_or_ge i D.length with h|h
 ·rw [A7 (List.getElem?_eq_getElem h)];have:=hlt _ (List.getElem_mem h);omega
 ·rw [De h];omega
theorem Ks {D:List Nat} {nx n0:Nat} {h0:Tr bf} {o:Nat}:∀ (l:List Nat) (h:Tr bf),(∀ i ∈ l,ui D nx i≤cx)→(∀ i ∈ l,ui D nx i≠o)→(Dq D nx n0 h0 l h).get o=h.get o
 | [],h,_,_=>rfl
 |i::r,h,hl,ho=>by
  rw [Dq,Ks r _ (fun j hj=>hl j (by simp [hj])) (fun j hj=>ho j (by simp [hj])),fh _ _ _ _ (hl i (by simp)),if_neg (fun e=>ho i (by simp) e.symm)]
theorem aak {D:List Nat} {nx n0:Nat} {h0:Tr bf} (hinj:∀ i j,ui D nx i=ui D nx j→i=j) {i:Nat}:∀ (l:List Nat) (h:Tr bf),(∀ j ∈ l,ui D nx j≤cx)→i ∈ l→(Dq D nx n0 h0 l h).get (ui D nx i)=(h0.get i).bind (bf.dg (Oi D nx n0))
 | [],_,_,hi=>by cases hi
 |j::r,h,hl,hi=>by
  rw [Dq]
  by_cases hr:i ∈ r
  ·exact aak hinj r _ (fun k hk=>hl k (by simp [hk])) hr
  ·have hij:i=j:=by rcases List.mem_cons.1 hi with e|e;exact e;exact (hr e).elim
   subst hij
   rw [Ks r _ (fun k hk=>hl k (by simp [hk])) (fun k hk e=>hr (hinj k i e ▸ hk)),fh _ _ _ _ (hl i (by simp)),if_pos rfl]
theorem ave {n i:Nat} (h:i<n):i ∈ dx 0 n:=(jb n 0 i).2 ⟨Nat.zero_le _,by omega⟩
theorem Vi {n i:Nat} (h:i ∈ dx 0 n):i<n:=by have:=((jb n 0 i).1 h).2;omega
theorem afx:∀ (l:List Nat) (o i:Nat),idx l o i=none→o ∉ l
 | [],o,i,_=>by simp
 |a::l,o,i,h=>by
  rw [Kf] at h
  split at h
  ·cases h
  ·rename_i ne
   have:=afx l o (i+1) h
   simp only [List.mem_cons,not_or]
   exact ⟨fun e=>ne e.symm,this⟩
theorem ac9 {D:List Nat} {g g0':Gh} {st st0':St} {h0:Tr bf} {w w':World} {r:AV} {v:Value} (hD:D.Nodup) (hlt:∀ o ∈ D,o<st.nx) (hp:∀ o ∈ D,(st.h.get o).isSome=true)
 (hok:Ok g st.h w) (hfr:∀ o,st.nx≤o→g.inj o=none) (hk:D.length≤st0'.nx) (hb:st.nx+st0'.nx≤cx)
 (s0:Step (g.dg D) h0 w D.length st0'.nx g0' st0'.h w') (ok0:Ok g0' st0'.h w') (hr:Rel g0' w' r v) :
 ∃ g',st.nx≤(vr D st st0').nx∧Step g st.h w st.nx (vr D st st0').nx g' (vr D st st0').h w'∧Ok g' (vr D st st0').h w'∧Rel g' w' (r.dg (Oi D st.nx st0'.nx)) v:=by
 obtain ⟨n0,hn0⟩:∃ n0,n0=st0'.nx:=⟨_,rfl⟩
 have hinj:=fun i j=>aya (nx:=st.nx) hD hlt (i:=i) (j:=j)
 have hule:∀ i ∈ dx 0 st0'.nx,ui D st.nx i≤cx:=fun i hi=>Nat.le_trans (az9 hlt (Vi hi)) hb
 have hin:∀ i,i<st0'.nx→(vr D st st0').h.get (ui D st.nx i)=(st0'.h.get i).bind (bf.dg (Oi D st.nx st0'.nx)):=fun i hi=>aak hinj _ _ hule (ave hi)
 have hout:∀ o,(∀ i,i<st0'.nx→ui D st.nx i≠o)→(vr D st st0').h.get o=st.h.get o:=fun o ho=>Ks _ _ hule (fun i hi=>ho i (Vi hi))
 have hren:∀ i,(g.dg D).inj i=(D[i]?).bind g.inj:=fun _=>rfl
 have hold:∀ i b base,(g.dg D).inj i=some (b,base)→∃ o ∈ D,g.inj o=some (b,base)∧(st.h.get o).isSome=true:=fun i b base hi=>by
  rw [hren] at hi
  cases hd:D[i]? with
  |none=>rw [hd] at hi;cases hi
  |some o=>rw [hd] at hi;exact ⟨o,List.mem_of_getElem? hd,hi,hp o (List.mem_of_getElem? hd)⟩
 have hno:∀ i,st0'.nx≤i→g0'.inj i=none:=fun i hi=>s0.fresh i (by rw [hren,List.getElem?_eq_none (by omega)];rfl) (by omega)
 let g':Gh:={ b0:=g.b0,inj:=fun o=>if o<st.nx then g.inj o else g0'.inj (D.length+(o - st.nx)),K:=g0'.K }
 have gl:∀ o,o<st.nx→g'.inj o=g.inj o:=fun o ho=>if_pos ho
 have gg:∀ o,st.nx≤o→g'.inj o=g0'.inj (D.length+(o - st.nx)):=fun o ho=>if_neg (by omega)
 have F1:∀ i,g'.inj (ui D st.nx i)=g0'.inj i:=fun i=>by
  rcases Nat.lt_or_ge i D.length with hi|hi
  ·have hd:=List.getElem?_eq_getElem hi
   rw [A7 hd,gl _ (hlt _ (List.getElem_mem hi))]
   have h1:(g.dg D).inj i=g.inj D[i]:=by rw [hren,hd];rfl
   cases hg:g.inj D[i] with
   |some p=>exact (s0.ext.inj i p (h1.trans hg)).symm
   |none=>exact (s0.fresh i (h1.trans hg) (by omega)).symm
  ·rw [De hi,gg _ (by omega)]
   congr 1;omega
 let N:List Nat:=(List.range (st.nx+st0'.nx)).map fun o=>if o<st.nx then (idx D o 0).getD st0'.nx else D.length+(o - st.nx)
 have hNg:∀ p,p<st.nx+st0'.nx→N[p]? = some (if p<st.nx then (idx D p 0).getD st0'.nx else D.length+(p - st.nx)):=fun p hp=>by
  simp only [N,List.getElem?_map,List.getElem?_range hp,Option.map_some]
 have hidx:∀ i o,D[i]? = some o→idx D o 0=some i:=fun i o hi=>by
  cases hx:idx D o 0 with
  |some p=>
   have h1:=Ez D o p hx
   obtain ⟨hi',ei⟩:=List.getElem?_eq_some_iff.1 hi
   obtain ⟨hp',ep⟩:=List.getElem?_eq_some_iff.1 h1
   rw [(List.getElem_inj hD).1 (ei.trans ep.symm)]
  |none=>exact absurd (List.mem_of_getElem? hi) (afx D o 0 hx)
 have hτ:∀ o p,Oi D st.nx st0'.nx o=some p→N[p]? = some o:=fun i p h=>by
  unfold Oi at h
  cases hlt2:Nat.blt i st0'.nx with
  |false=>rw [hlt2] at h;cases h
  |true=>
   rw [hlt2] at h
   cases h
   have hi:i<st0'.nx:=Nat.le_of_ble_eq_true hlt2
   rcases Nat.lt_or_ge i D.length with hi2|hi2
   ·have hd:=List.getElem?_eq_getElem hi2
    rw [A7 hd,hNg _ (by have:=hlt _ (List.getElem_mem hi2);omega),if_pos (hlt _ (List.getElem_mem hi2)),hidx i _ hd];rfl
   ·rw [De hi2,hNg _ (by omega),if_neg (by omega)]
    congr 1;omega
 have hext:Ext (g0'.dg N) w' g' w':=by
  refine ⟨s0.ext.b0.symm,fun p q hq=>?_,fun _ _ h=>h,fun _ _ _=>rfl,fun b cs e fr h=>⟨cs,fr,h,rfl⟩,fun b l h=>⟨l,h⟩⟩
  have hq':(N[p]?).bind g0'.inj=some q:=hq
  rcases Nat.lt_or_ge p (st.nx+st0'.nx) with hpl|hpl
  ·rw [hNg p hpl,Option.bind_some] at hq'
   by_cases hpn:p<st.nx
   ·rw [if_pos hpn] at hq'
    cases hx:idx D p 0 with
    |none=>rw [hx,Option.getD_none,hno _ (Nat.le_refl _)] at hq';cases hq'
    |some i=>
     rw [hx,Option.getD_some] at hq'
     rw [← A7 (nx:=st.nx) (Ez D p i hx),F1];exact hq'
   ·rw [if_neg hpn] at hq'
    rw [gg p (by omega)];exact hq'
  ·have:N[p]? = none:=List.getElem?_eq_none (by simp only [N,List.length_map,List.length_range];exact hpl)
   rw [this] at hq';cases hq'
 have himg:∀ o,(∃ i,i<st0'.nx∧ui D st.nx i=o)∨(∀ i,i<st0'.nx→ui D st.nx i≠o):=fun o=>by
  by_cases h:∃ i,i<st0'.nx∧ui D st.nx i=o
  ·exact .inl h
  ·exact .inr fun i hi e=>h ⟨i,hi,e⟩
 have c8:∀ i x,i<st0'.nx→(vr D st st0').h.get (ui D st.nx i)=some x→∃ y,st0'.h.get i=some y∧y.dg (Oi D st.nx st0'.nx)=some x:=fun i x hi hx=>by
  rw [hin i hi] at hx
  cases hy:st0'.h.get i with
  |none=>rw [hy] at hx;cases hx
  |some y=>rw [hy] at hx;exact ⟨y,rfl,hx⟩
 have hfar:∀ o b base,(∀ i,i<st0'.nx→ui D st.nx i≠o)→g'.inj o=some (b,base)→o<st.nx∧o ∉ D∧g.inj o=some (b,base):=fun o b base ho hi=>by
  rcases Nat.lt_or_ge o st.nx with h1|h1
  ·refine ⟨h1,fun hd=>?_,by rw [← gl o h1];exact hi⟩
   obtain ⟨i,hil,e⟩:=List.getElem_of_mem hd
   exact ho i (by omega) (by rw [A7 (List.getElem?_eq_getElem hil)];exact e)
  ·rw [gg o h1] at hi
   rcases Nat.lt_or_ge (D.length+(o - st.nx)) st0'.nx with h2|h2
   ·exact (ho _ h2 (by rw [De (by omega)];omega)).elim
   ·rw [hno _ h2] at hi;cases hi
 have hsame:∀ o x b base,o ∉ D→st.h.get o=some x→g.inj o=some (b,base)→b<w.heap.size→w'.heap[b]? = w.heap[b]? ∧ (∀ i base',g0'.inj i=some (b,base')→(st0'.h.get i).isSome=true→False)∧(∀ j,g0'.K b j→g.K b j):=fun o x b base ho hx hi hbs=>by
  have hnot:∀ i base',(g.dg D).inj i≠some (b,base'):=fun i base' e=>by
   obtain ⟨o2,hd,hi2,hs2⟩:=hold i b base' e
   obtain ⟨x2,hx2⟩:=Option.isSome_iff_exists.1 hs2
   exact hok.sep o o2 x x2 b base base' (fun e=>ho (e ▸ hd)) hx hx2 hi hi2
  refine ⟨s0.frame b hbs fun i base' _=>hnot i base',fun i base' e hs=>?_,fun j hj=>?_⟩
  ·rcases s0.own i b base' hs e with h1|⟨o',base2,_,h2⟩
   ·omega
   ·exact hnot o' base2 h2
  ·rcases s0.pz b j hj with h1|h1|⟨o',base2,_,h2⟩
   ·exact h1
   ·omega
   ·exact (hnot o' base2 h2).elim
 have hblk:∀ o x b base,st.h.get o=some x→g.inj o=some (b,base)→nv g w b base x:=fun o x b base hx hi=>by
  rcases hok.nn o x hx with ⟨h1,_⟩|⟨b',base',h1,_,h2⟩
  ·rw [h1] at hi;cases hi
  ·rw [h1] at hi;cases hi;exact h2
 have hsz:∀ b base x,nv g w b base x→b<w.heap.size:=fun b base x hx=>by
  have hs:∃ q,w.heap[b]? = some q:=by
   cases x with
   |row cells k st et=>obtain ⟨cs,fr,h1,_⟩:=hx;exact ⟨_,h1⟩
   |map es=>obtain ⟨_,ms,clock,h1,_⟩:=hx;exact ⟨_,h1⟩
   |loop slots nt params assign body state pending=>obtain ⟨_,l,h1,_⟩:=hx;exact ⟨_,h1⟩
  obtain ⟨q,hq⟩:=hs
  exact (Array.getElem?_eq_some_iff.1 hq).1
 have hE:Ext g w g' w':=by
  refine ⟨rfl,fun o p hp=>?_,fun b j h=>s0.ext.K b j h,fun b j h=>s0.ext.cell b j h,s0.ext.Be,s0.ext.lp⟩
  rcases Nat.lt_or_ge o st.nx with h1|h1
  ·rw [gl o h1];exact hp
  ·rw [hfr o h1] at hp;cases hp
 refine ⟨g',Nat.le_add_right _ _,⟨hE,s0.size,s0.os,s0.tape,s0.output,fun b hbs hn=>?_,fun o ho hr2=>?_,fun o b base ho hi=>?_,fun b j hK=>?_⟩,⟨?_,fun o x hx=>?_,fun o o' x x' b base base' hne hx hx' hi hi'=>?_,ok0.K⟩,(hr.dg hτ).ext hext⟩
 ·refine s0.frame b hbs fun i base _ e=>?_
  obtain ⟨o,_,h1,h2⟩:=hold i b base e
  exact hn o base h2 h1
 ·rcases Nat.lt_or_ge o st.nx with h1|h1
  ·rw [gl o h1];exact ho
  ·rw [gg o h1]
   exact hno _ (by simp only [vr] at hr2;omega)
 ·rcases himg o with ⟨i,hi0,rfl⟩|ho2
  ·obtain ⟨x,hx⟩:=Option.isSome_iff_exists.1 ho
   obtain ⟨y,hy,_⟩:=c8 i x hi0 hx
   rw [F1] at hi
   rcases s0.own i b base (by rw [hy];rfl) hi with h1|⟨o',base',_,h2⟩
   ·exact .inl h1
   ·obtain ⟨o2,_,h3,h4⟩:=hold o' b base' h2
    exact .inr ⟨o2,base',h4,h3⟩
  ·obtain ⟨_,_,h3⟩:=hfar o b base ho2 hi
   rw [hout o ho2] at ho
   exact .inr ⟨o,base,ho,h3⟩
 ·rcases s0.pz b j hK with h1|h1|⟨o',base',_,h2⟩
  ·exact .inl h1
  ·exact .inr (.inl h1)
  ·obtain ⟨o2,_,h3,h4⟩:=hold o' b base' h2
   exact .inr (.inr ⟨o2,base',h4,h3⟩)
 ·exact Nat.le_trans hok.size s0.size
 ·rcases himg o with ⟨i,hi0,rfl⟩|ho2
  ·obtain ⟨y,hy,hyx⟩:=c8 i x hi0 hx
   refine (ok0.nn i y hy).imp (fun q=>⟨by rw [F1];exact q.1,by obtain ⟨s1,e1,rfl⟩:=q.2;simp only [bf.dg,AV.dg.go,Option.some.injEq] at hyx;exact ⟨s1,e1,hyx.symm⟩⟩) ?_
   rintro ⟨b,base,q1,q2,q3⟩
   refine ⟨b,base,by rw [F1];exact q1,by show g.b0≤b;have:=s0.ext.b0;have e:g0'.b0=g.b0:=this;omega,(q3.dg hτ hyx).ext hext rfl (fun j hj=>hj)⟩
  ·rw [hout o ho2] at hx
   cases hg:g'.inj o with
   |none=>
    refine .inl ⟨rfl,?_⟩
    rcases Nat.lt_or_ge o st.nx with h1|h1
    ·rw [gl o h1] at hg
     rcases hok.nn o x hx with ⟨_,h2⟩|⟨b,base,h2,_⟩
     ·exact h2
     ·rw [hg] at h2;cases h2
    ·rcases hok.nn o x hx with ⟨_,h2⟩|⟨b,base,h2,_⟩
     ·exact h2
     ·rw [hfr o h1] at h2;cases h2
   |some p=>
    obtain ⟨b,base⟩:=p
    obtain ⟨h1,h2,h3⟩:=hfar o b base ho2 hg
    have hor:=hblk o x b base hx h3
    obtain ⟨e1,_,e3⟩:=hsame o x b base h2 hx h3 (hsz b base x hor)
    refine .inr ⟨b,base,rfl,?_,hor.ext hE e1 e3⟩
    rcases hok.nn o x hx with ⟨h4,_⟩|⟨b',base',h4,h5,_⟩
    ·rw [h4] at h3;cases h3
    ·rw [h4] at h3;cases h3;exact h5
 ·rcases himg o with ⟨i,hi0,rfl⟩|ho2<;>rcases himg o' with ⟨i',hi0',rfl⟩|ho2'
  ·obtain ⟨y,hy,_⟩:=c8 i x hi0 hx
   obtain ⟨y',hy',_⟩:=c8 i' x' hi0' hx'
   rw [F1] at hi hi'
   exact ok0.sep i i' y y' b base base' (fun e=>hne (by rw [e])) hy hy' hi hi'
  ·obtain ⟨y,hy,_⟩:=c8 i x hi0 hx
   obtain ⟨h1,h2,h3⟩:=hfar o' b base' ho2' hi'
   rw [hout o' ho2'] at hx'
   rw [F1] at hi
   exact (hsame o' x' b base' h2 hx' h3 (hsz b base' x' (hblk o' x' b base' hx' h3))).2.1 i base hi (by rw [hy];rfl)
  ·obtain ⟨y,hy,_⟩:=c8 i' x' hi0' hx'
   obtain ⟨h1,h2,h3⟩:=hfar o b base ho2 hi
   rw [hout o ho2] at hx
   rw [F1] at hi'
   exact (hsame o x b base h2 hx h3 (hsz b base x (hblk o x b base hx h3))).2.1 i' base' hi' (by rw [hy];rfl)
  ·obtain ⟨h1,h2,h3⟩:=hfar o b base ho2 hi
   obtain ⟨h1',h2',h3'⟩:=hfar o' b base' ho2' hi'
   rw [hout o ho2] at hx
   rw [hout o' ho2'] at hx'
   exact hok.sep o o' x x' b base base' hne hx hx' h3 h3'
theorem acv {P:Program} {f:Nat} {args:List AV} {st:St} {R:AV→St→Prop} (D:List Nat) (hD:D.Nodup) (hlt:∀ o ∈ D,o<st.nx) (hp:∀ o ∈ D,(st.h.get o).isSome=true) (hl:D.length≤cx)
 (h:r8 P f (AV.dg.go (fun o=>idx D o 0) args) (br (i4 st.h (fun o=>idx D o 0) D)) (fun r st'=>(D.length≤st'.nx∧st.nx+st'.nx≤cx)∧R (r.dg (Oi D st.nx st'.nx)) (vr D st st'))):r8 P f args st R:=by
 intro g w vs hok hfr hrel
 have hτ:∀ o p,(fun o=>idx D o 0) o=some p→D[p]? = some o:=fun o p h=>Ez _ o p h
 have hnx:(br (i4 st.h (fun o=>idx D o 0) D)).nx=D.length:=by simp only [br,ij]
 have hinj:∀ i o,D[i]? = some o→(g.dg D).inj i=g.inj o:=fun i o h=>by simp [Gh.dg,h]
 have c8:∀ i x,(br (i4 st.h (fun o=>idx D o 0) D)).h.get i=some x→∃ o y,D[i]? = some o∧st.h.get o=some y∧y.dg (fun o=>idx D o 0)=some x:=by
  intro i x hx
  simp only [br] at hx
  rw [um _ _ _ (by rw [ij];omega),if_pos (Nat.zero_le _),Nat.sub_zero,u9] at hx
  cases hi:D[i]? with
  |none=>rw [hi] at hx;cases hx
  |some o=>
   rw [hi] at hx
   simp only [Option.map_some,Option.join_some] at hx
   cases hy:st.h.get o with
   |none=>rw [hy] at hx;cases hx
   |some y=>rw [hy] at hx;exact ⟨o,y,rfl,hy,hx⟩
 have hok0:Ok (g.dg D) (br (i4 st.h (fun o=>idx D o 0) D)).h w:=by
  refine ⟨hok.size,fun i x hx=>?_,fun i j x y b base base' hij hx hy hb hb'=>?_,hok.K⟩
  ·obtain ⟨o,y,h1,h2,h3⟩:=c8 i x hx
   refine (hok.nn o y h2).imp (fun q=>⟨by rw [hinj i o h1];exact q.1,by obtain ⟨s0,e0,rfl⟩:=q.2;simp only [bf.dg,AV.dg.go,Option.some.injEq] at h3;exact ⟨s0,e0,h3.symm⟩⟩) ?_
   rintro ⟨b,base,q1,q2,q3⟩
   exact ⟨b,base,by rw [hinj i o h1];exact q1,q2,q3.dg hτ h3⟩
  ·obtain ⟨o,y1,h1,h2,_⟩:=c8 i x hx
   obtain ⟨o',y2,h1',h2',_⟩:=c8 j y hy
   rw [hinj i o h1] at hb
   rw [hinj j o' h1'] at hb'
   have hne:o≠o':=by
    intro e
    subst e
    obtain ⟨hi,ei⟩:=List.getElem?_eq_some_iff.1 h1
    obtain ⟨hj,ej⟩:=List.getElem?_eq_some_iff.1 h1'
    exact hij ((List.getElem_inj hD).1 (ei.trans ej.symm))
   exact hok.sep o o' _ _ b base base' hne h2 h2' hb hb'
 have hfr0:∀ o,(br (i4 st.h (fun o=>idx D o 0) D)).nx≤o→(g.dg D).inj o=none:=fun o ho=>by
  rw [hnx] at ho;simp [Gh.dg,List.getElem?_eq_none ho]
 have hrel0:bq (g.dg D) w (AV.dg.go (fun o=>idx D o 0) args) vs:=by
  rw [kc]
  refine ⟨by rw [List.length_map];exact hrel.1,fun i a v ha hv=>?_⟩
  rw [List.getElem?_map] at ha
  cases hx:args[i]? with
  |none=>rw [hx] at ha;cases ha
  |some a0=>rw [hx] at ha;cases ha;exact (hrel.2 i a0 v hx hv).dg hτ
 rcases h (g.dg D) w vs hok0 hfr0 hrel0 with ⟨v,w',g',r,st',q1,q2,q3,q4,q5,q6⟩|⟨q1,q2⟩
 ·rw [hnx] at q4
  obtain ⟨g'',p1,p2,p3,p4⟩:=ac9 hD hlt hp hok hfr q2.1.1 q2.1.2 q4 q5 q6
  exact .inl ⟨v,w',g'',_,_,q1,q2.2,p1,p2,p3,p4⟩
 ·refine .inr ⟨q1,q2.mono ?_⟩
  rintro e w' ⟨v,g',r,st',rfl,q2,q3,q4,q5,q6⟩
  rw [hnx] at q4
  obtain ⟨g'',p1,p2,p3,p4⟩:=ac9 hD hlt hp hok hfr q2.1.1 q2.1.2 q4 q5 q6
  exact ⟨v,g'',_,_,rfl,q2.2,p1,p2,p3,p4⟩
theorem U0 {P:Program} {f:Nat} {args:List AV} {st:St} {R:AV→St→Prop} (D:List Nat) {args0:List AV} {objs0:List (Option bf)} {r0:AV} {objs1:List (Option bf)}
 (hc:r8 P f args0 (br objs0) (fun r st'=>r=r0∧st'=br objs1)) (hD:D.Nodup)
 (hlt:(D.all fun o=>Nat.blt o st.nx)=true) (hp:(D.all fun o=>(st.h.get o).isSome)=true) (hl:D.length≤cx)
 (ha:AV.dg.go (fun o=>idx D o 0) args=args0) (hs:i4 st.h (fun o=>idx D o 0) D=objs0) (hb:D.length≤objs1.length∧st.nx+objs1.length≤cx)
 (h:R (r0.dg (Oi D st.nx objs1.length)) (vr D st (br objs1))):r8 P f args st R:=by
 refine acv D hD (fun o ho=>Nat.le_of_ble_eq_true (List.all_eq_true.1 hlt o ho)) (fun o ho=>List.all_eq_true.1 hp o ho) hl ?_
 rw [ha,hs]
 intro g w vs hok hfr hrel
 rcases hc g w vs hok hfr hrel with ⟨v,w',g',r,st',q1,⟨rfl,rfl⟩,q3⟩|⟨q1,q2⟩
 ·exact .inl ⟨v,w',g',_,_,q1,⟨hb,h⟩,q3⟩
 ·refine .inr ⟨q1,q2.mono ?_⟩
  rintro e w' ⟨v,g',r,st',e1,⟨rfl,rfl⟩,q3⟩
  exact ⟨v,g',_,_,e1,⟨hb,h⟩,q3⟩
end
end Go.Vm
section
namespace Go.Proofs.YtajammoepjpiiaaGreat
open Go.Vm
set_option maxRecDepth 2000000
def aDd (s:bh):Bool:=decide ((s.type.toNat:Int)=2) || (decide ((s.type.toNat:Int)=15) || decide ((s.type.toNat:Int)=33))
def l5 (l:List db):List Name:=l.flatMap fun d=>d.names
def Bv (s:bh):List Name:=if aDd s=true then l5 s.data else []
def lf (l:List bh):List Name:=l.flatMap Bv
def aDl (ans:List bh) (s:bh):Bool:=ans.any fun x=>decide ((x.type.toNat:Int)=s.type.toNat) && ef x.owner s.owner
def axv (z:ba) (ans l:List bh):List bh:=(aC7 z (lf l)).filter fun s=>!aDl ans s
def x5 (l:List Name) (n:Name):Bool:=l.any fun m=>ef m n
noncomputable def api (z:ba) (t:UInt16):Nat→Name→List Name→List bh→xj
 |0,_,_,ans=>uu 0 true ans [] []
 |k+1,n,seen,ans=>
  let x:=jx z n t (ga z n).1
  if x.turn=0 then uu 0 true (ans++x.aj) [] (axv z (ans++x.aj) x.aj)
  else if x.turn=3 then uu 3 true ans [oh z] []
  else if x.turn=2 then uu 0 true ans [oh z] []
  else if x.turn=4 then uu 0 (decide (0<ans.length)) ans x.aj (axv z ans x.aj)
  else if dj x.to z.origin=false then uu 0 true (ans++x.aj) [] []
  else if x5 (seen++[n]) x.to=true then uu 0 true (ans++x.aj) [] []
  else api z t k x.to (seen++[n]) (ans++x.aj)
noncomputable def ofV (z:ba) (n:Name) (t:UInt16):xj × Int:=
 if (qm z n t).2≠0 then (uu 0 false [] [] [],(qm z n t).2) else (api z t 16 n [] [],0)
theorem I4 {l:List db} {i:Nat} {c:db} (hc:l[i]? = some c):l5 (l.take (i+1))=l5 (l.take i)++c.names:=by
 obtain ⟨hi,rfl⟩:=List.getElem?_eq_some_iff.1 hc
 rw [List.take_succ_eq_append_getElem hi,l5,List.flatMap_append];simp [l5]
end Go.Proofs.YtajammoepjpiiaaGreat
end
section
namespace Go.Proofs.YtajammoepjpiiaaGreat
open Go.Vm
theorem ae9 {a b b':Name} (h:ef b b'=true):dj a b=dj a b':=by simp only [dj,q9.1 h]
theorem at_mem {z:ba} {n:Name} {s:bh} (h:s ∈ js z n):s ∈ z.aj∧ef s.owner n=true:=List.mem_filter.1 h
theorem agy {l:List Name} (h:uv l=0):∀ n ∈ l,cg n=0:=by
 induction l with
 |nil=>intro n hn;cases hn
 |cons a l ih=>
  intro n hn
  rw [uv] at h
  split at h
  ·contradiction
  ·rename_i q
   rcases List.mem_cons.1 hn with rfl|hn
   ·omega
   ·exact ih h n hn
theorem abv {t:UInt16} {d:db} (h:fl t d=0):∀ n ∈ d.names,cg n=0:=by
 unfold fl at h
 split at h
 ·cases h
 split at h
 ·cases h
 split at h
 ·contradiction
 ·rename_i q;exact agy (by omega)
theorem aq6 {z:ba} (h:fy z=0) {y:bh} (hy:y ∈ z.aj) (ht:(y.type.toNat:Int)=5):∃ d m,y.data=[d]∧d.names=[m]∧cg m=0:=by
 have hg:=Kp h
 obtain ⟨k,hk,rfl⟩:=List.getElem_of_mem hy
 have ha:=hg.alone k _ (List.getElem?_eq_getElem hk)
 unfold jm at ha
 rw [if_neg (by omega)] at ha
 split at ha
 ·cases ha
 rename_i hl
 have he:=xw h _ hy
 have hall:=K5 he
 cases hd:(z.aj[k]).data with
 |nil=>rw [hd] at hl;simp at hl
 |cons d r=>
  have hr:r=[]:=by
   rw [hd] at hl
   simp only [List.length_cons] at hl
   exact List.eq_nil_of_length_eq_zero (by omega)
  subst hr
  have hde:fl (z.aj[k]).type d=0:=hall d (by rw [hd];simp)
  have hn:=(D6 hde).1
  have h2:(jn (z.aj[k]).type).names=1:=by unfold jn;rw [ht];rfl
  rw [h2] at hn
  cases hm:d.names with
  |nil=>rw [hm] at hn;simp at hn
  |cons m r2=>
   have:r2=[]:=by rw [hm] at hn;simp only [List.length_cons] at hn;exact List.eq_nil_of_length_eq_zero (by omega)
   subst this
   exact ⟨d,m,rfl,hm,abv hde m (by rw [hm];simp)⟩
theorem P4 {α:Type} (f : α→Nat) (a b:List α):fu f (a++b)=fu f a+fu f b:=by
 induction a with
 |nil=>simp [fu]
 |cons x a ih=>simp only [fu,List.cons_append,List.foldr_cons] at ih ⊢;omega
theorem Xb {α:Type} (f : α→Nat) (p : α→Bool) (l:List α):fu f (l.filter p)≤fu f l:=by
 induction l with
 |nil=>exact Nat.le_refl _
 |cons x l ih=>
  rw [List.filter_cons]
  split
  ·simp only [fu,List.foldr_cons] at ih ⊢;omega
  ·simp only [fu,List.foldr_cons] at ih ⊢;omega
theorem Gg (l:List db):fu bt (l5 l)≤fu uh l:=by
 induction l with
 |nil=>exact Nat.le_refl _
 |cons d l ih=>
  have h:l5 (d::l)=d.names++l5 l:=by simp [l5]
  rw [h,P4]
  have h2:fu bt d.names≤uh d:=by unfold uh;omega
  simp only [fu,List.foldr_cons] at ih h2 ⊢;omega
theorem ajp (s:bh):fu bt (Bv s)≤my s:=by
 unfold Bv
 split
 ·have:=Gg s.data;unfold my;omega
 ·exact Nat.zero_le _
theorem U1 (l:List bh):fu bt (lf l)≤fu my l:=by
 induction l with
 |nil=>exact Nat.le_refl _
 |cons s l ih=>
  have h:lf (s::l)=Bv s++lf l:=by simp [lf]
  rw [h,P4]
  have h2:=ajp s
  simp only [fu,List.foldr_cons] at ih h2 ⊢;omega
theorem ai1 (n:Name) (l:List bh):lf (l.map (wx n))=lf l:=by
 induction l with
 |nil=>rfl
 |cons s l ih=>
  have h:∀ (s:bh) l,lf (s::l)=Bv s++lf l:=fun s l=>by simp [lf]
  rw [List.map_cons,h,h,ih];rfl
theorem ajv {l:List bh} {x:bh} (h:x ∈ l):fu bt (lf [x])≤fu bt (lf l):=by
 induction l with
 |nil=>cases h
 |cons s l ih=>
  have hc:∀ (s:bh) l,lf (s::l)=Bv s++lf l:=fun s l=>by simp [lf]
  rw [hc s l,P4]
  rcases List.mem_cons.1 h with rfl|h
  ·rw [hc,P4];show _+fu bt (lf [])≤_;have:fu bt (lf [])=0:=rfl;omega
  ·have:=ih h;omega
inductive aqp (z:ba) (n:Name) (t:UInt16):Prop
 |aDa (c:Name) (s:bh) (hc:ke z n=some c) (hs:s ∈ z.aj) (ht:(s.type.toNat:Int)=2) (ho:ef s.owner c=true) (h:jx z n t (ga z n).1=vo 4 [s] [])
 |aAx (hc:ke z n=none) (h:jx z n t (ga z n).1=vo 3 [] [])
 |apw (hc:ke z n=none) (h:jx z n t (ga z n).1=vo 2 [] [])
 |found (hc:ke z n=none) (l:List bh) (hne:l≠[]) (hln:l.length≤z.aj.length) (hw:fu bt (lf l)≤fu my z.aj) (hl:∀ s ∈ l,ef s.owner n=true∧(s.owner=n∨s ∈ z.aj)∧((t.toNat:Int)=255∨(s.type.toNat:Int)=t.toNat)∧∃ y ∈ z.aj,s.data=y.data∧s.type=y.type) (h:jx z n t (ga z n).1=vo 0 l [])
 |alias (hc:ke z n=none) (s:bh) (d:db) (m:Name) (ht:(s.type.toNat:Int)=5) (h5:(t.toNat:Int)≠5) (h255:(t.toNat:Int)≠255) (ho:ef s.owner n=true) (hoz:s.owner=n∨s ∈ z.aj) (hd:s.data=[d]) (hm:d.names=[m]) (he:cg m=0) (hy:∃ y ∈ z.aj,s.data=y.data∧s.type=y.type) (h:jx z n t (ga z n).1=vo 1 [s] m)
theorem ayh {z:ba} {n c:Name}:∀ (l:List bh) (b:Option Name),(∀ s ∈ l,s ∈ z.aj)→(∀ m,b=some m→∃ s ∈ z.aj,(s.type.toNat:Int)=2∧s.owner=m)→l.foldl (gx z n) b=some c→∃ s ∈ z.aj,(s.type.toNat:Int)=2∧s.owner=c:=by
 intro l
 induction l with
 |nil=>intro b _ h hc;exact h c hc
 |cons s l ih=>
  intro b hl h hc
  refine ih _ (fun x hx=>hl x (by simp [hx])) (fun m hm=>?_) hc
  unfold gx at hm
  split at hm
  ·rename_i hq
   cases hm
   simp only [Bool.and_eq_true,decide_eq_true_eq] at hq
   exact ⟨s,hl s (by simp),hq.1,rfl⟩
  ·exact h m hm
theorem aj0 {z:ba} {n:Name} {t:UInt16} (h:fy z=0) (hc:ke z n=none) (L:List bh) (hln:L.length≤z.aj.length) (hw:fu bt (lf L)≤fu my z.aj) (hL:∀ s ∈ L,ef s.owner n=true∧(s.owner=n∨s ∈ z.aj)∧∃ y ∈ z.aj,s.data=y.data∧s.type=y.type) (hs:jx z n t (ga z n).1=tm t L):aqp z n t:=by
 unfold tm at hs
 split at hs
 ·rename_i q
  exact .found hc L (fun e=>by rw [e] at q;simp at q) hln hw (fun s hs=>⟨(hL s hs).1,(hL s hs).2.1,.inl q.1,(hL s hs).2.2⟩) hs
 rename_i q
 split at hs
 ·rename_i x hx
  have h1:=List.mem_of_find?_eq_some hx
  have h2:=List.find?_some hx
  exact .found hc [x] (by simp) (by have:=List.length_pos_of_mem h1;rw [List.length_singleton];omega) (Nat.le_trans (ajv h1) hw) (fun s hs=>by rw [List.mem_singleton] at hs;subst hs;exact ⟨(hL s h1).1,(hL s h1).2.1,.inr (by simpa using h2),(hL s h1).2.2⟩) hs
 ·rename_i hx
  split at hs
  ·rename_i x hx2
   have h1:=List.mem_of_find?_eq_some hx2
   have h2:=List.find?_some hx2
   simp only [Bool.and_eq_true,decide_eq_true_eq] at h2
   obtain ⟨y,hy,hyd,hyt⟩:=(hL x h1).2.2
   obtain ⟨d,m,e1,e2,e3⟩:=aq6 h hy (by rw [← hyt];exact h2.1)
   rw [← hyd] at e1
   have h5:(t.toNat:Int)≠5:=fun e=>by
    have:=List.find?_eq_none.1 hx x h1
    simp [h2.1,e] at this
   refine .alias hc x d m h2.1 h5 h2.2 (hL x h1).1 (hL x h1).2.1 e1 e2 e3 ⟨y,hy,hyd,hyt⟩ ?_
   rw [hs,e1]
   simp [e2]
  ·exact .apw hc hs
theorem z5 {z:ba} {n:Name} (t:UInt16) (h:ik z n=0):aqp z n t:=by
 obtain ⟨a1,a2,a3⟩:=Gp h
 have hg:=Kp a1
 rcases E7 h with ⟨c,hc,e⟩|⟨hc,hp,hh,e⟩|⟨hc,hp,hh,e⟩|⟨hc,hp,hh,hs,e⟩|⟨hc,hp,hh,hs,e⟩
 ·obtain ⟨s,hs,ht,ho⟩:=ayh z.aj none (fun _ h=>h) (fun m hm=>by cases hm) hc
  have hcl:=(Tn (hg.cls s hs)).1
  cases hf:ji z.aj c 2 with
  |none=>
   have:=List.find?_eq_none.1 hf s hs
   have hp:se c 2 s=true:=by unfold se;rw [decide_eq_true (show (s.type.toNat:Int)=(2:UInt16).toNat from ht),decide_eq_true hcl,ho,aab];rfl
   exact (this hp).elim
  |some x=>
   obtain ⟨m1,m2,m3,m4⟩:=A4 hf
   exact .aDa c x hc m1 m2 m4 (by rw [e];show vo 4 [(ji z.aj c 2).getD m5] []=_;rw [hf];rfl)
 ·refine aj0 a1 hc (js z n) (uw _) (Nat.le_trans (U1 _) (Xb _ _ _)) (fun s hs=>⟨(at_mem hs).2,.inr (at_mem hs).1,s,(at_mem hs).1,rfl,rfl⟩) ?_
  rw [e];rfl
 ·exact .apw hc (by rw [e];rfl)
 ·refine aj0 a1 hc ((js z (qq::du z n)).map (wx n)) (by rw [List.length_map];exact uw _) (by rw [ai1];exact Nat.le_trans (U1 _) (Xb _ _ _)) (fun s hs=>?_) ?_
  ·obtain ⟨y,hy,rfl⟩:=List.mem_map.1 hs
   exact ⟨aab n,.inl rfl,y,(at_mem hy).1,rfl,rfl⟩
  ·rw [e];rfl
 ·exact .aAx hc (by rw [e];rfl)
end Go.Proofs.YtajammoepjpiiaaGreat
end
section
namespace Go.Proofs.YtajammoepjpiiaaGreat
open Go.Vm
set_option maxRecDepth 2000000
noncomputable def Bi (a b:bh):Bool:=a.data.all fun d=>B3 a.type b.data d
theorem aqb (a b:bh) (ha:dr a) (hb:dr b):wl PP [aBi] 0 (Tryz.f77.body.getD .skip) (dp PP Tryz.f77.results.toList (fun r st=>(r1 bp).get true st.h r=some (Bi a b))) (ca 0 [an.val false a,an.val false b]) (br []):=by
 have hl:=ha.data.len
 unfold Tryz.f77
 simp only [j4]
 simp only [↓wR,RA,simprocAttr,TF,ae]
 refine dh [2,3,8,9,10] (fun (i:Nat)=>[.ptr 0 0,.ptr 1 0,.vl false 4 (a.data.map (cf.val false)),.sc (.int .i64 (a.data.length)),.sc (.int .i64 (i))]) (fun _=>[some (.row [.vl false 1 (a.owner.map (aq.val false)),.sc (.int .u16 a.type.toNat),.sc (.int .u16 a.cls.toNat),.sc (.int .u32 a.pr.toNat),.vl false 4 (a.data.map (cf.val false))] 0 2 40),some (.row [.vl false 1 (b.owner.map (aq.val false)),.sc (.int .u16 b.type.toNat),.sc (.int .u16 b.cls.toNat),.sc (.int .u32 b.pr.toNat),.vl false 4 (b.data.map (cf.val false))] 0 2 40)]) (fun i=>i≤a.data.length∧Bi a b=(a.data.drop i).all fun d=>B3 a.type b.data d) (fun i=>a.data.length - i) 0 ⟨Nat.zero_le _,rfl⟩ (by simp only [↓wR,RA,simprocAttr,TF,ae]<;>rfl) (by simp only [↓wR,RA,simprocAttr,TF,ae]<;>rfl) ?_
 rintro i ⟨hi,hx⟩
 simp only [↓wR,RA,simprocAttr,TF,ae]
 rw [bj];refine ⟨fun h=>?_,fun h=>?_⟩
 ·obtain ⟨c,hc,hd1,hlt⟩:=dw (decide_eq_true h)
  rw [hd1,List.all_cons] at hx
  have hcs:=ha.data.mem c (List.mem_of_getElem? hc)
  simp only [↓wR,RA,simprocAttr,TF,ae,h,hc,Py,hb.data,hcs]
  rw [bm];refine ⟨fun h1=>?_,fun h1=>?_⟩
  ·have h1':B3 a.type b.data c=false:=by simpa only [Bool.not_eq_true'] using h1
   rw [h1',Bool.false_and] at hx
   simp only [↓wR,RA,simprocAttr,TF,ae,h1]
   rw [hx]<;>rfl
  ·have h1':B3 a.type b.data c=true:=by simpa only [Bool.not_eq_false'] using h1
   rw [h1',Bool.true_and] at hx
   simp only [↓wR,RA,simprocAttr,TF,ae,h1];repeat (simp (disch:=omega) only [ah,b9,bu,bw,bz];try simp only [↓wR,RA,simprocAttr,TF,ae,h1])
   exact ⟨i+1,⟨hlt,hx⟩,by omega,by (first|rfl|trivial|omega|((try (simp (disch:=omega) only [ah]));(try (simp only [FB]));first|done|rfl|omega))⟩
 ·rw [dz (decide_eq_false h),List.all_nil] at hx
  simp only [↓wR,RA,simprocAttr,TF,ae,h]
  rw [hx]<;>rfl
noncomputable def Ce (x:bh × bh × Unit):Option AV:=if dr x.1∧dr x.2.1 then some ((r1 bp).E true (Bi x.1 x.2.1)) else none
set_option maxRecDepth 2000000 in
theorem ac3 (x:bh × bh × Unit) (r:AV) (h:Ce x=some r):be PP 77 ((aC an (aC an a0)).E x) r:=by
 by_cases hc:dr x.1∧dr x.2.1
 case neg=>simp only [Ce,if_neg hc] at h;cases h
 simp only [Ce,if_pos hc] at h
 cases h
 exact bb (ak.cons (ai Zf) (ak.nil PP)) Tryz.func77 (by kernel_rfl) (by kernel_rfl) (by kernel_rfl) (Nat.le_of_ble_eq_true (by kernel_rfl)) (r1 bp) true (Bi x.1 x.2.1) (aqb x.1 x.2.1 hc.1 hc.2)
noncomputable abbrev ay9:Nat × Bool × (List AV→M AV):=(77,true,dc (aC an (aC an a0)) Ce)
noncomputable def ry (a b:bh):Bool:=decide ((a.type.toNat:Int)=b.type.toNat) && (decide ((a.cls.toNat:Int)=b.cls.toNat) && (ef a.owner b.owner && (Bi a b && Bi b a)))
theorem ajn (a b:bh) (ha:dr a) (hb:dr b):wl PP [dv,ay9] 0 (Tryz.f38.body.getD .skip) (dp PP Tryz.f38.results.toList (fun r st=>(r1 bp).get true st.h r=some (ry a b))) (ca 0 [an.val false a,an.val false b]) (br []):=by
 unfold Tryz.f38
 simp only [j4]
 unfold ry
 simp only [↓wR,RA,simprocAttr,TF,ae]
 rw [cz];refine ⟨fun ⟨h1,e1⟩=>?_,fun ⟨h1,e1⟩=>?_⟩
 ·rw [decide_eq_true e1,Bool.true_and]
  simp only [↓wR,RA,simprocAttr,TF,ae,h1]
  rw [cz];refine ⟨fun ⟨h2,e2⟩=>?_,fun ⟨h2,e2⟩=>?_⟩
  ·rw [decide_eq_true e2,Bool.true_and]
   simp only [↓wR,RA,simprocAttr,TF,ae,h2,fm,ha.owner,hb.owner]
   rw [bm];refine ⟨fun h3=>?_,fun h3=>?_⟩
   ·rw [h3,Bool.true_and]
    simp only [↓wR,RA,simprocAttr,TF,ae,h3,Ce,ha,hb]
    rw [bm];refine ⟨fun h4=>?_,fun h4=>?_⟩
    ·rw [h4,Bool.true_and]
     simp only [↓wR,RA,simprocAttr,TF,ae,h4,Ce,ha,hb]
    ·rw [h4,Bool.false_and]
     simp only [↓wR,RA,simprocAttr,TF,ae,h4]
   ·rw [h3,Bool.false_and]
    simp only [↓wR,RA,simprocAttr,TF,ae,h3]
  ·rw [decide_eq_false e2,Bool.false_and]
   simp only [↓wR,RA,simprocAttr,TF,ae,h2]
 ·rw [decide_eq_false e1,Bool.false_and]
  simp only [↓wR,RA,simprocAttr,TF,ae,h1]
noncomputable def z0 (x:bh × bh × Unit):Option AV:=if dr x.1∧dr x.2.1 then some ((r1 bp).E true (ry x.1 x.2.1)) else none
set_option maxRecDepth 2000000 in
theorem Ig (x:bh × bh × Unit) (r:AV) (h:z0 x=some r):be PP 38 ((aC an (aC an a0)).E x) r:=by
 by_cases hc:dr x.1∧dr x.2.1
 case neg=>simp only [z0,if_neg hc] at h;cases h
 simp only [z0,if_pos hc] at h
 cases h
 exact bb (ak.cons (ai fg) (ak.cons (ai ac3) (ak.nil PP))) Tryz.func38 (by kernel_rfl) (by kernel_rfl) (by kernel_rfl) (Nat.le_of_ble_eq_true (by kernel_rfl)) (r1 bp) true (ry x.1 x.2.1) (ajn x.1 x.2.1 hc.1 hc.2)
noncomputable abbrev acu:Nat × Bool × (List AV→M AV):=(38,true,dc (aC an (aC an a0)) z0)
theorem aq2 (a:List UInt8):Tg a a=0:=by
 unfold Tg
 induction a with
 |nil=>rfl
 |cons a r ih=>rw [Lib.compareBytes,if_neg (UInt8.lt_irrefl a),if_neg (UInt8.lt_irrefl a)];exact ih
theorem ao3 {t:UInt16} {d:db} (h:fl t d=0):G6 t d d=true:=by
 unfold G6 Ox
 rw [decide_eq_true h,Bool.and_self,Bool.true_and,aq2,ite_self];rfl
theorem aiv {s:bh} (h:∀ d ∈ s.data,fl s.type d=0):Bi s s=true:=
 List.all_eq_true.2 fun d hd=>List.any_eq_true.2 ⟨d,hd,ao3 (h d hd)⟩
def Pb (w:bd):Nat:=fu vy w.ay+(fu (fun h:xa=>h.ay.length) w.dn+w.hints.length)
def cr (w:bd):Prop:=Pb w≤5242880
instance (w:bd):Decidable (cr w):=inferInstanceAs (Decidable (_≤_))
theorem cr.zone {w:bd} (h:cr w):∀ z ∈ w.ay,c7 z:=fun z hz=>by
 have h1:vy z<fu vy w.ay:=pc hz
 unfold cr Pb at h;unfold c7;omega
theorem cr.wt {w:bd} (h:cr w):∀ z ∈ w.ay,vy z≤5242880:=fun z hz=>by
 have h1:vy z<fu vy w.ay:=pc hz
 unfold cr Pb at h;omega
theorem cr.z7 {w:bd} (h:cr w):w.ay.length≤16777216:=by have:=rm vy w.ay;unfold cr Pb at h;omega
theorem cr.hlen {w:bd} (h:cr w):w.dn.length≤16777216:=by have:=rm (fun h:xa=>h.ay.length) w.dn;unfold cr Pb at h;omega
theorem cr.aFr {w:bd} (h:cr w):w.hints.length≤16777216:=by unfold cr Pb at h;omega
theorem cr.host {w:bd} (h:cr w):∀ x ∈ w.dn,x.ay.length≤16777216:=fun x hx=>by
 have h1:x.ay.length<fu (fun h:xa=>h.ay.length) w.dn:=pc (f:=fun h:xa=>h.ay.length) hx
 unfold cr Pb at h;omega
def Jl (b:Option (Nat × Nat)) (k:Nat):Bool:=match b with|none=>true|some p=>decide (p.2<k)
def nj (n:Name) (b:Option (Nat × Nat)) (i:Nat) (z:ba):Option (Nat × Nat):=
 if (dj n z.origin && Jl b z.origin.length)=true then some (i,z.origin.length) else b
def Aw (n:Name):List ba→Nat→Option (Nat × Nat)→Option (Nat × Nat)
 | [],_,b=>b
 |z::r,i,b=>Aw n r (i+1) (nj n b i z)
def Tp (w:bd) (n:Name):Option (Nat × Nat):=Aw n w.ay 0 none
def Xx (b:Option (Nat × Nat)):Int:=match b with|none=>-1|some p=>(p.1:Int)
def lr (w:bd) (n:Name):Int:=Xx (Tp w n)
theorem azv {l:List ba} {i:Nat} {c:ba} (n:Name) (k:Nat) (b) (h:l.drop i=c::l.drop (i+1)):Aw n (l.drop i) k b=Aw n (l.drop (i+1)) (k+1) (nj n b k c):=by rw [h];rfl
theorem aye (k:Nat):decide ((k:Int)<0)=false:=decide_eq_false (by omega)
set_option maxHeartbeats 4000000 in
theorem atx (w:bd) (n:Name) (hw:cr w) (hn:bc n):wl PP [ug] 0 (Tryz.f52.body.getD .skip) (dp PP Tryz.f52.results.toList (fun r st=>(r1 (au .i64)).get true st.h r=some (lr w n))) (ca 0 [cb.val false w,ar.val false n]) (br []):=by
 have hl:=hw.z7
 have hq:∀ a b c d,fe a b c=d→fe a b c=d:=fun _ _ _ _ h=>h
 unfold Tryz.f52
 simp only [en,dm]
 simp only [↓wR,RA,simprocAttr,TF,ae]
 refine dh [1,2,5,9,10,11] (fun (x:Nat × Option (Nat × Nat))=>[.vl false 1 (n.map (aq.val false)),.ptr 0 0,.sc (.int .i64 (Xx x.2)),.vl false 2 (w.ay.map (bg.val false)),.sc (.int .i64 (w.ay.length)),.sc (.int .i64 (x.1))]) (fun _=>[some (.row [.vl false 2 (w.ay.map (bg.val false)),.vl false 2 (w.dn.map (dy.val false)),.vl false 1 (w.hints.map (bn.val false))] 0 2 50)]) (fun x=>x.1≤w.ay.length∧Tp w n=Aw n (w.ay.drop x.1) x.1 x.2∧∀ p,x.2=some p→∃ y,w.ay[p.1]? = some y∧y.origin.length=p.2) (fun x=>w.ay.length - x.1) (0,none) ⟨Nat.zero_le _,rfl,fun p h=>by cases h⟩ (by simp only [↓wR,RA,simprocAttr,TF,ae,Xx]<;>rfl) (by simp only [↓wR,RA,simprocAttr,TF,ae]<;>rfl) ?_
 rintro ⟨i,b⟩ ⟨hi,hx,hb⟩
 simp only at hi hx hb
 simp only [↓wR,RA,simprocAttr,TF,ae]
 rw [bj];refine ⟨fun h=>?_,fun h=>?_⟩
 ·obtain ⟨c,hc,hd1,hlt⟩:=dw (decide_eq_true h)
  rw [azv n i b hd1] at hx
  have hcs:=(hw.zone c (List.mem_of_getElem? hc)).origin
  have step:∀ b',nj n b i c=b'→Tp w n=Aw n (w.ay.drop (i+1)) (i+1) b':=fun b' e=>by rw [hx,e]
  simp only [↓wR,RA,simprocAttr,TF,ae,h,hc]
  refine ⟨by kernel_rfl,.inl ?_⟩
  simp only [↓wR,RA,simprocAttr,TF,ae,mo,hn,hcs]
  rw [bm];refine ⟨fun h1=>?_,fun h1=>?_⟩
  ·cases b with
   |none=>
    have st:=step (some (i,c.origin.length)) (by simp [nj,h1,Jl])
    simp only [↓wR,RA,simprocAttr,TF,ae,h1,Xx];repeat (simp (disch:=omega) only [ah,b9,bu,bw,bz];try simp only [↓wR,RA,simprocAttr,TF,ae,h1,Xx])
    exact ⟨by apply hq;kernel_rfl,(i+1,some (i,c.origin.length)),⟨hlt,st,fun p hp=>by cases hp;exact ⟨c,hc,rfl⟩⟩,by simp;omega,by (first|rfl|trivial|omega|((try (simp (disch:=omega) only [ah]));(try (simp only [FB]));first|done|rfl|omega))⟩
   |some p=>
    obtain ⟨k,m⟩:=p
    obtain ⟨y,hy,hym⟩:=hb _ rfl
    simp only at hy hym
    have hyl:=List.mem_of_getElem? hy
    simp only [↓wR,RA,simprocAttr,TF,ae,h1,Xx,aye,hy]
    refine ⟨by apply hq;kernel_rfl,?_⟩
    rw [bj];refine ⟨fun h2=>?_,fun h2=>?_⟩
    ·have st:=step (some (i,c.origin.length)) (by simp [nj,h1,Jl];omega)
     simp only [↓wR,RA,simprocAttr,TF,ae,h2];repeat (simp (disch:=omega) only [ah,b9,bu,bw,bz];try simp only [↓wR,RA,simprocAttr,TF,ae,h2])
     exact ⟨(i+1,some (i,c.origin.length)),⟨hlt,st,fun p hp=>by cases hp;exact ⟨c,hc,rfl⟩⟩,by simp;omega,by (first|rfl|trivial|omega|((try (simp (disch:=omega) only [ah]));(try (simp only [FB]));first|done|rfl|omega))⟩
    ·have st:=step (some (k,m)) (by simp [nj,h1,Jl];omega)
     simp only [↓wR,RA,simprocAttr,TF,ae,h2];repeat (simp (disch:=omega) only [ah,b9,bu,bw,bz];try simp only [↓wR,RA,simprocAttr,TF,ae,h2])
     exact ⟨(i+1,some (k,m)),⟨hlt,st,hb⟩,by simp;omega,by (first|rfl|trivial|omega|((try (simp (disch:=omega) only [ah]));(try (simp only [FB]));first|done|rfl|omega))⟩
  ·have st:=step b (by simp [nj,h1])
   simp only [↓wR,RA,simprocAttr,TF,ae,h1];repeat (simp (disch:=omega) only [ah,b9,bu,bw,bz];try simp only [↓wR,RA,simprocAttr,TF,ae,h1])
   exact ⟨by apply hq;kernel_rfl,(i+1,b),⟨hlt,st,hb⟩,by simp;omega,by (first|rfl|trivial|omega|((try (simp (disch:=omega) only [ah]));(try (simp only [FB]));first|done|rfl|omega))⟩
 ·rw [dz (decide_eq_false h)] at hx
  simp only [↓wR,RA,simprocAttr,TF,ae,h]
  rw [lr,hx]<;>rfl
noncomputable def zp (x:bd × Name × Unit):Option AV:=if cr x.1∧bc x.2.1 then some ((r1 (au .i64)).E true (lr x.1 x.2.1)) else none
set_option maxRecDepth 2000000 in
theorem C5 (x:bd × Name × Unit) (r:AV) (h:zp x=some r):be PP 52 ((aC cb (aC ar a0)).E x) r:=by
 by_cases hc:cr x.1∧bc x.2.1
 case neg=>simp only [zp,if_neg hc] at h;cases h
 simp only [zp,if_pos hc] at h
 cases h
 exact bb (ak.cons (ai nh) (ak.nil PP)) Tryz.func52 (by kernel_rfl) (by kernel_rfl) (by kernel_rfl) (Nat.le_of_ble_eq_true (by kernel_rfl)) (r1 (au .i64)) true (lr x.1 x.2.1) (atx x.1 x.2.1 hc.1 hc.2)
noncomputable abbrev Ur:Nat × Bool × (List AV→M AV):=(52,true,dc (aC cb (aC ar a0)) zp)
def ot (w:bd) (i:Int):Option ba:=if 0≤i then w.ay[i.toNat]? else none
theorem ae6 {w:bd} {n:Name} {p:Nat × Nat} (h:Tp w n=some p):∃ y,w.ay[p.1]? = some y∧y.origin.length=p.2∧dj n y.origin=true:=by
 have key:∀ (l:List ba) (i:Nat) (b:Option (Nat × Nat)),(∀ k z,l[k]? = some z→w.ay[i+k]? = some z)→(∀ p,b=some p→∃ y,w.ay[p.1]? = some y∧y.origin.length=p.2∧dj n y.origin=true)→∀ p,Aw n l i b=some p→∃ y,w.ay[p.1]? = some y∧y.origin.length=p.2∧dj n y.origin=true:=by
  intro l
  induction l with
  |nil=>intro i b _ hb p hp;exact hb p hp
  |cons z l ih=>
   intro i b hl hb p hp
   refine ih (i+1) (nj n b i z) (fun k y hy=>by rw [show i+1+k=i+(k+1) from by omega];exact hl (k+1) y (by simpa using hy)) (fun q hq=>?_) p hp
   unfold nj at hq
   split at hq
   ·rename_i h1
    rw [Bool.and_eq_true] at h1
    cases hq
    exact ⟨z,hl 0 z rfl,rfl,h1.1⟩
   ·exact hb q hq
 exact key w.ay 0 none (fun k z hz=>by rw [Nat.zero_add];exact hz) (fun p h=>by cases h) p h
theorem as2 {w:bd} {n:Name} (h:¬ lr w n<0):∃ (k:Nat) (y:ba),lr w n=(k:Int)∧w.ay[k]? = some y∧dj n y.origin=true:=by
 unfold lr at h ⊢
 cases ho:Tp w n with
 |none=>rw [ho] at h;exact (h (by decide)).elim
 |some p=>
  obtain ⟨y,h1,_,h2⟩:=ae6 ho
  exact ⟨p.1,y,rfl,h1,h2⟩
def ue (w:bd) (n:Name):Int × Int:=if cg n≠0 then (0,cg n) else if lr w n<0 then (0,9) else (lr w n,0)
theorem aqz (w:bd) (n:Name) (hw:cr w) (hn:bc n):wl PP [ek,Ur] 0 (Tryz.f18.body.getD .skip) (dp PP Tryz.f18.results.toList (fun r st=>(r2 (au .i64) (au .i64)).get true st.h r=some (ue w n))) (ca 0 [cb.val false w,ar.val false n]) (br []):=by
 unfold Tryz.f18
 simp only [en,dm]
 simp only [↓wR,RA,simprocAttr,TF,ae,mw,hn.fit]
 unfold ue
 rw [bm];refine ⟨fun h=>?_,fun h=>?_⟩
 ·have he:cg n≠0:=by simpa using h
  rw [if_pos he]
  simp only [↓wR,RA,simprocAttr,TF,ae,h]
 have he:cg n=0:=by simpa using h
 rw [if_neg (by omega)]
 simp only [↓wR,RA,simprocAttr,TF,ae,h,zp,hw,hn]
 rw [bj];refine ⟨fun h2=>?_,fun h2=>?_⟩
 ·rw [if_pos h2]
  simp only [↓wR,RA,simprocAttr,TF,ae,h2]
 ·rw [if_neg h2]
  simp only [↓wR,RA,simprocAttr,TF,ae,h2]
noncomputable def xl (x:bd × Name × Unit):Option AV:=if cr x.1∧bc x.2.1 then some ((r2 (au .i64) (au .i64)).E true (ue x.1 x.2.1)) else none
set_option maxRecDepth 2000000 in
theorem A2 (x:bd × Name × Unit) (r:AV) (h:xl x=some r):be PP 18 ((aC cb (aC ar a0)).E x) r:=by
 by_cases hc:cr x.1∧bc x.2.1
 case neg=>simp only [xl,if_neg hc] at h;cases h
 simp only [xl,if_pos hc] at h
 cases h
 exact bb (ak.cons (ai ld) (ak.cons (ai C5) (ak.nil PP))) Tryz.func18 (by kernel_rfl) (by kernel_rfl) (by kernel_rfl) (Nat.le_of_ble_eq_true (by kernel_rfl)) (r2 (au .i64) (au .i64)) true (ue x.1 x.2.1) (aqz x.1 x.2.1 hc.1 hc.2)
noncomputable abbrev Is:Nat × Bool × (List AV→M AV):=(18,true,dc (aC cb (aC ar a0)) xl)
def uf (w:bd) (i:Int):Int × Int:=
 match ot w i with
 |none=>(0,9)
 |some z=>if (np z.origin).2≠0 then (0,9) else if lr w (np z.origin).1<0 then (0,9) else (lr w (np z.origin).1,0)
theorem mu (w:bd) (k:Nat):ot w (k:Int)=w.ay[k]? := by unfold ot;rw [if_pos (by omega),Int.toNat_natCast]
theorem J5 {w:bd} {i:Int} (h:i<0):ot w i=none:=by unfold ot;rw [if_neg (by omega)]
theorem Wy {w:bd} {i:Int} (h:(w.ay.length:Int)≤i):ot w i=none:=by unfold ot;rw [if_pos (by omega)];exact List.getElem?_eq_none (by omega)
theorem Zk {w:bd} {i:Int} (h:¬ i<0) (h2:¬ i ≥ (w.ay.length:Int)):∃ (k:Nat) (z:ba),i=(k:Int)∧w.ay[k]? = some z:=⟨i.toNat,w.ay[i.toNat]'(by omega),by omega,List.getElem?_eq_getElem _⟩
theorem afa {n:Name} (h:bc n):bc (np n).1:=by
 unfold np
 split
 ·show bt []≤16777216;decide
 ·split
  ·show bt []≤16777216;decide
  ·cases n with
   |nil=>exact h
   |cons a r=>
    have h1:=kh [a] r
    have h2:bt [a]=a.size+2:=by simp [bt];omega
    have h3:=(ph r 0).2
    simp only [List.singleton_append] at h1
    unfold bc at *
    show bt r≤16777216
    omega
set_option maxHeartbeats 4000000 in
theorem anh (w:bd) (i:Int) (hw:cr w):wl PP [al7,Ur] 0 (Tryz.f20.body.getD .skip) (dp PP Tryz.f20.results.toList (fun r st=>(r2 (au .i64) (au .i64)).get true st.h r=some (uf w i))) (ca 0 [cb.val false w,(au .i64).val false i]) (br []):=by
 unfold Tryz.f20
 simp only [en]
 unfold uf
 simp only [↓wR,RA,simprocAttr,TF,ae]
 rw [bj];refine ⟨fun h=>?_,fun h=>?_⟩
 ·rw [J5 h]
  simp only [↓wR,RA,simprocAttr,TF,ae,h]
 simp only [↓wR,RA,simprocAttr,TF,ae,h]
 rw [bj];refine ⟨fun h2=>?_,fun h2=>?_⟩
 ·rw [Wy h2]
  simp only [↓wR,RA,simprocAttr,TF,ae,h2]
 obtain ⟨k,z,rfl,hz⟩:=Zk h h2
 have hzs:=(hw.zone z (List.mem_of_getElem? hz)).origin
 have hps:=afa hzs
 rw [mu,hz]
 simp only
 rcases hp:np z.origin with ⟨up,e⟩
 rw [hp] at hps
 simp only [↓wR,RA,simprocAttr,TF,ae,h2,hz,yp,hzs,hp]
 rw [bm];refine ⟨fun h3=>?_,fun h3=>?_⟩
 ·have he:e≠0:=by simpa using h3
  rw [if_pos he]
  simp only [↓wR,RA,simprocAttr,TF,ae,h3]
 have he:e=0:=by simpa using h3
 rw [if_neg (by omega)]
 simp only [↓wR,RA,simprocAttr,TF,ae,h3,zp,hw,hps]
 rw [bj];refine ⟨fun h4=>?_,fun h4=>?_⟩
 ·rw [if_pos h4]
  simp only [↓wR,RA,simprocAttr,TF,ae,h4]
 ·rw [if_neg h4]
  simp only [↓wR,RA,simprocAttr,TF,ae,h4]
noncomputable def F3 (x:bd × Int × Unit):Option AV:=if cr x.1 then some ((r2 (au .i64) (au .i64)).E true (uf x.1 x.2.1)) else none
set_option maxRecDepth 2000000 in
theorem ac1 (x:bd × Int × Unit) (r:AV) (h:F3 x=some r):be PP 20 ((aC cb (aC (au .i64) a0)).E x) r:=by
 by_cases hc:cr x.1
 case neg=>simp only [F3,if_neg hc] at h;cases h
 simp only [F3,if_pos hc] at h
 cases h
 exact bb (ak.cons (ai Uc) (ak.cons (ai C5) (ak.nil PP))) Tryz.func20 (by kernel_rfl) (by kernel_rfl) (by kernel_rfl) (Nat.le_of_ble_eq_true (by kernel_rfl)) (r2 (au .i64) (au .i64)) true (uf x.1 x.2.1) (anh x.1 x.2.1 hc)
noncomputable abbrev aym:Nat × Bool × (List AV→M AV):=(20,true,dc (aC cb (aC (au .i64) a0)) F3)
def mr (w:bd) (n:Name) (t:UInt16):Option bh:=match ot w (lr w n) with|none=>none|some z=>ji z.aj n t
theorem azp (w:bd) (n:Name) (t:UInt16) (hw:cr w) (hn:bc n):wl PP [Ur,Bd] 0 (Tryz.f88.body.getD .skip) (dp PP Tryz.f88.results.toList (fun r st=>(r2 an bp).get true st.h r=some ((mr w n t).getD m5,(mr w n t).isSome))) (ca 0 [cb.val false w,ar.val false n,cw.val false t]) (br []):=by
 unfold Tryz.f88
 simp only [en,dm]
 simp only [↓wR,RA,simprocAttr,TF,ae,zp,hw,hn]
 unfold mr
 rw [bj];refine ⟨fun h=>?_,fun h=>?_⟩
 ·rw [J5 h]
  simp only [↓wR,RA,simprocAttr,TF,ae,h]
  rfl
 obtain ⟨k,z,hk,hz,_⟩:=as2 h
 have hzs:=hw.zone z (List.mem_of_getElem? hz)
 rw [hk] at h ⊢
 rw [mu,hz]
 simp only [↓wR,RA,simprocAttr,TF,ae,h,hz,tt,hzs.mid,hn]
noncomputable def Df (x:bd × Name × UInt16 × Unit):Option AV:=if cr x.1∧bc x.2.1 then some ((r2 an bp).E true (((mr x.1 x.2.1 x.2.2.1).getD m5,(mr x.1 x.2.1 x.2.2.1).isSome))) else none
set_option maxRecDepth 2000000 in
theorem D8 (x:bd × Name × UInt16 × Unit) (r:AV) (h:Df x=some r):be PP 88 ((aC cb (aC ar (aC cw a0))).E x) r:=by
 by_cases hc:cr x.1∧bc x.2.1
 case neg=>simp only [Df,if_neg hc] at h;cases h
 simp only [Df,if_pos hc] at h
 cases h
 exact bb (ak.cons (ai C5) (ak.cons (ai te) (ak.nil PP))) Tryz.func88 (by kernel_rfl) (by kernel_rfl) (by kernel_rfl) (Nat.le_of_ble_eq_true (by kernel_rfl)) (r2 an bp) true (((mr x.1 x.2.1 x.2.2.1).getD m5,(mr x.1 x.2.1 x.2.2.1).isSome)) (azp x.1 x.2.1 x.2.2.1 hc.1 hc.2)
noncomputable abbrev Uk:Nat × Bool × (List AV→M AV):=(88,true,dc (aC cb (aC ar (aC cw a0))) Df)
def Cd (l:List UInt8):Nat:=l.foldl (fun n c=>256 * n+c.toNat) 0
theorem Y9 (l:List UInt8) (c:UInt8):Cd (l++[c])=256 * Cd l+c.toNat:=by simp [Cd]
theorem N7 (l:List UInt8):∀ k,k≤l.length→Cd (l.take k)<256 ^ k
 |0,_=>by simp [Cd]
 |k+1,h=>by
  have ih:=N7 l k (by omega)
  rw [List.take_succ_eq_append_getElem (by omega),Y9,Nat.pow_succ]
  have:=(l[k]'(by omega)).toNat_lt
  omega
theorem aBv (a c:Nat) (hc:c<256) : 256 * a ||| c=256 * a+c:=by
 have:=Nat.two_pow_add_eq_or_of_lt (i:=8) hc a
 simpa using this.symm
def Ap (d:db):UInt32 × Bool:=if d.raw.length=4 then (UInt32.ofNat (Cd d.raw),true) else (0,false)
theorem wrap_u32' (x:Int) (h0 : 0≤x) (h1:x<4294967296):IntKind.u32.wrap x=x:=by
 simp [IntKind.wrap,IntKind.bits,IntKind.signed];omega
theorem awi (d:db):wl PP [] 0 (Tryz.f92.body.getD .skip) (dp PP Tryz.f92.results.toList (fun r st=>(r2 bn bp).get true st.h r=some (Ap d))) (ca 0 [cf.val false d]) (br []):=by
 unfold Tryz.f92
 simp only [nq]
 unfold Ap
 simp only [↓wR,RA,simprocAttr,TF,ae]
 rw [je];refine ⟨fun ⟨h,e⟩=>?_,fun ⟨h,e⟩=>?_⟩
 ·rw [if_neg (by omega)]
  simp only [↓wR,RA,simprocAttr,TF,ae,h,Uo]
 have h4:d.raw.length=4:=by omega
 rw [if_pos h4]
 simp only [↓wR,RA,simprocAttr,TF,ae,h]
 refine dh [4,12,13,14] (fun (x:Nat)=>[.sc (.int .u32 (Cd (d.raw.take x))),.vl false 1 (d.raw.map (cy.val false)),.sc (.int .i64 (d.raw.length)),.sc (.int .i64 (x))]) (fun _=>[]) (fun x=>x≤4) (fun x=>4 - x) 0 (by simp) (by simp only [↓wR,RA,simprocAttr,TF,ae]<;>rfl) (by simp only [↓wR,RA,simprocAttr,TF,ae]<;>rfl) ?_
 intro i hi
 simp only [↓wR,RA,simprocAttr,TF,ae]
 rw [bj];refine ⟨fun h2=>?_,fun h2=>?_⟩
 ·obtain ⟨c,hc,hd1,hlt⟩:=dw (decide_eq_true h2)
  have e1:=N7 d.raw i (by omega)
  have e2:Cd (d.raw.take (i+1))=256 * Cd (d.raw.take i)+c.toNat:=by
   obtain ⟨hk,rfl⟩:=List.getElem?_eq_some_iff.1 hc
   rw [List.take_succ_eq_append_getElem hk,Y9]
  have e3:=c.toNat_lt
  have e4 : 256 ^ i≤256 ^ 3:=Nat.pow_le_pow_right (by omega) (by omega)
  have n1:((↑(Cd (d.raw.take i)) * 256:Int) % 4294967296).toNat=256 * Cd (d.raw.take i):=by omega
  have n2:((c.toNat:Int) % 4294967296).toNat=c.toNat:=by omega
  simp only [↓wR,RA,simprocAttr,TF,ae,h2,hc];repeat (simp (disch:=omega) only [ah,b9,bu,bw,bz];try simp only [↓wR,RA,simprocAttr,TF,ae,h2,hc])
  refine ⟨i+1,by omega,by omega,?_⟩
  rw [e2,wrap_u32' (_ * 256) (by omega) (by omega),n1]
  have n3:((((UInt32.ofNat c.toNat).toNat:Nat):Int) % 4294967296).toNat=c.toNat:=by simp;omega
  have n4:(UInt32.ofNat (256 * Cd (d.raw.take i)+c.toNat)).toNat=256 * Cd (d.raw.take i)+c.toNat:=by simp;omega
  rw [n3,aBv _ _ (by omega),n4]
  rfl
 ·have h5:i=4:=by omega
  subst h5
  have e1:=N7 d.raw 4 (by omega)
  simp only [↓wR,RA,simprocAttr,TF,ae,h2]
  rw [List.take_of_length_le (by omega)] at e1 ⊢
  rw [Uo _ _ _ (by omega) (by omega)]
  simp
noncomputable def adw (x:db × Unit):Option AV:=some ((r2 bn bp).E true (Ap x.1))
set_option maxRecDepth 2000000 in
theorem aoe (x:db × Unit) (r:AV) (h:adw x=some r):be PP 92 ((aC cf a0).E x) r:=by
 cases h
 exact bb (ak.nil PP) Tryz.func92 (by kernel_rfl) (by kernel_rfl) (by kernel_rfl) (Nat.le_of_ble_eq_true (by kernel_rfl)) (r2 bn bp) true (Ap x.1) (awi x.1)
noncomputable abbrev axn:Nat × Bool × (List AV→M AV):=(92,true,dc (aC cf a0) adw)
def qy (z:ba):List Name:=l5 ((ji z.aj z.origin 2).getD m5).data
theorem H5 {z:ba} (hz:c7 z) (n:Name) (t:UInt16):dr ((ji z.aj n t).getD m5):=by
 cases h:ji z.aj n t with
 |none=>show dr m5;decide
 |some s=>exact hz.set s (A4 h).1
theorem abu (l:List db):(l5 l).length≤fu uh l:=by have:=rm bt (l5 l);have:=Gg l;omega
theorem azo (z:ba) (hz:c7 z):wl PP [Bd] 0 (Tryz.f89.body.getD .skip) (dp PP Tryz.f89.results.toList (fun r st=>(r1 (cp ar)).get true st.h r=some (qy z))) (ca 0 [bg.val false z]) (br []):=by
 unfold Tryz.f89
 simp only [ic]
 have hs:=H5 hz z.origin 2
 unfold qy
 simp only [↓wR,RA,simprocAttr,TF,ae,J9,tt,hz.mid,hz.origin]
 obtain ⟨s,hsd⟩:∃ s,s=(ji z.aj z.origin 2).getD m5:=⟨_,rfl⟩
 rw [← hsd] at hs ⊢
 have hdl:=hs.data.len
 refine ma [17,18,19,5] (fun (x:Nat × List Name)=>[.vl true 4 (s.data.map (cf.val true)),.sc (.int .i64 (s.data.length)),.sc (.int .i64 (x.1)),.sl 0 0 x.2.length 1]) (fun x=>[some (.row (x.2.map (ar.val true)) 0 0 23)]) (fun x=>x.1≤s.data.length∧x.2=l5 (s.data.take x.1)) (fun x=>s.data.length - x.1) (0,[]) ⟨Nat.zero_le _,rfl⟩ (by simp only [↓wR,RA,simprocAttr,TF,ae];(refine me.lax [] (by first|exact Nat.le_of_ble_eq_true rfl|(simp [cx];omega)) ?_ ?_<;>repeat' first|exact iu.nil|exact dq.nil|exact jk.same _|exact jk.nil _ _ _|exact jk.wu _ _|exact dq.refl _ _|apply iu.cons|apply dq.ghost|apply dq.same|apply dq.row)) ?_
 rintro ⟨i,x⟩ ⟨hi,hx⟩
 simp only at hi hx
 simp only [↓wR,RA,simprocAttr,TF,ae]
 rw [bj];refine ⟨fun h=>?_,fun h=>?_⟩
 ·obtain ⟨d,hd,hd1,hlt⟩:=dw (decide_eq_true h)
  have hle:(l5 (s.data.take (i+1))).length≤16777216:=by
   have h1:=abu (s.data.take (i+1))
   have h2:=Tc uh s.data (i+1)
   have h3:fu uh s.data≤16777216:=hs.data
   omega
  rw [I4 hd,← hx,List.length_append] at hle
  have hlim:(x.length+d.names.length) * 24≤140737488355328:=by omega
  simp only [↓wR,RA,simprocAttr,TF,ae,h,hd,hlim];repeat (simp (disch:=omega) only [ah,b9,bu,bw,bz];try simp only [↓wR,RA,simprocAttr,TF,ae,h,hd,hlim])
  exact ⟨(i+1,x++d.names),⟨hlt,by rw [I4 hd,← hx]⟩,by simp;omega,by (first|rfl|trivial|omega|((try (simp (disch:=omega) only [ah]));(try (simp only [FB]));first|done|rfl|omega)),by (first|rfl|trivial|omega|((try (simp (disch:=omega) only [ah]));(try (simp only [FB]));first|done|rfl|omega))⟩
 ·have hil:i=s.data.length:=by omega
  subst hil
  rw [List.take_length] at hx
  subst hx
  simp only [↓wR,RA,simprocAttr,TF,ae,h]
noncomputable def Jv (x:ba × Unit):Option AV:=if c7 x.1 then some ((r1 (cp ar)).E true (qy x.1)) else none
set_option maxRecDepth 2000000 in
theorem Wr (x:ba × Unit) (r:AV) (h:Jv x=some r):be PP 89 ((aC bg a0).E x) r:=by
 by_cases hc:c7 x.1
 case neg=>simp only [Jv,if_neg hc] at h;cases h
 simp only [Jv,if_pos hc] at h
 cases h
 exact bb (ak.cons (ai te) (ak.nil PP)) Tryz.func89 (by kernel_rfl) (by kernel_rfl) (by kernel_rfl) (Nat.le_of_ble_eq_true (by kernel_rfl)) (r1 (cp ar)) true (qy x.1) (azo x.1 hc)
noncomputable abbrev aot:Nat × Bool × (List AV→M AV):=(89,true,dc (aC bg a0) Jv)
theorem ah5 (l:List Int) (a:Int) (hl:l.length≤281474976710656):wl PP [] 0 (Tryz.f58.body.getD .skip) (dp PP Tryz.f58.results.toList (fun r st=>(r1 bp).get true st.h r=some (l.contains a))) (ca 0 [(cp (au .i64)).val false l,(au .i64).val false a]) (br []):=by
 unfold Tryz.f58
 rw [qe]
 simp only [↓wR,RA,simprocAttr,TF,ae]
 refine bo (T:=[]) (ak.nil PP) mixed Tryz.func95 rfl (by kernel_rfl) (by kernel_rfl) (by kernel_rfl) (by kernel_rfl) ?_;unfold Tryz.f95
 simp only [↓wR,RA,simprocAttr,TF,ae]
 refine dh [0,1,7,8] (fun (i:Nat)=>[.vl false 1 (l.map ((au .i64).val false)),.sc (.int .i64 (a)),.sc (.int .i64 (l.length)),.sc (.int .i64 (i))]) (fun _=>[]) (fun i=>i≤l.length∧l.contains a=(l.drop i).contains a) (fun i=>l.length - i) 0 ⟨Nat.zero_le _,rfl⟩ (by simp only [↓wR,RA,simprocAttr,TF,ae]<;>rfl) (by simp only [↓wR,RA,simprocAttr,TF,ae]<;>rfl) ?_
 rintro i ⟨hi,hx⟩
 simp only [↓wR,RA,simprocAttr,TF,ae]
 rw [bj];refine ⟨fun h=>?_,fun h=>?_⟩
 ·obtain ⟨c,hc,hd1,hlt⟩:=dw (decide_eq_true h)
  rw [hd1,List.contains_cons] at hx
  simp only [↓wR,RA,simprocAttr,TF,ae,h,hc];repeat (simp (disch:=omega) only [ah,b9,bu,bw,bz];try simp only [↓wR,RA,simprocAttr,TF,ae,h,hc])
  rw [cz];refine ⟨fun ⟨h2,e2⟩=>?_,fun ⟨h2,e2⟩=>?_⟩
  ·subst e2
   rw [beq_self_eq_true,Bool.true_or] at hx
   simp only [↓wR,RA,simprocAttr,TF,ae,h2]
   rw [hx]
  ·rw [beq_eq_false_iff_ne.2 e2,Bool.false_or] at hx
   simp only [↓wR,RA,simprocAttr,TF,ae,h2];repeat (simp (disch:=omega) only [ah,b9,bu,bw,bz];try simp only [↓wR,RA,simprocAttr,TF,ae,h2])
   exact ⟨i+1,⟨hlt,hx⟩,by omega,by (first|rfl|trivial|omega|((try (simp (disch:=omega) only [ah]));(try (simp only [FB]));first|done|rfl|omega))⟩
 ·rw [dz (decide_eq_false h)] at hx
  simp only [↓wR,RA,simprocAttr,TF,ae,h]
  rw [hx]<;>rfl
noncomputable def Kw (x:List Int × Int × Unit):Option AV:=if x.1.length≤281474976710656 then some ((r1 bp).E true (x.1.contains x.2.1)) else none
set_option maxRecDepth 2000000 in
theorem Dj (x:List Int × Int × Unit) (r:AV) (h:Kw x=some r):be PP 58 ((aC (cp (au .i64)) (aC (au .i64) a0)).E x) r:=by
 by_cases hc:x.1.length≤281474976710656
 case neg=>simp only [Kw,if_neg hc] at h;cases h
 simp only [Kw,if_pos hc] at h
 cases h
 exact bb (ak.nil PP) Tryz.func58 (by kernel_rfl) (by kernel_rfl) (by kernel_rfl) (Nat.le_of_ble_eq_true (by kernel_rfl)) (r1 bp) true (x.1.contains x.2.1) (ah5 x.1 x.2.1 hc)
noncomputable abbrev aga:Nat × Bool × (List AV→M AV):=(58,true,dc (aC (cp (au .i64)) (aC (au .i64) a0)) Kw)
theorem ael (l:List UInt32) (a:UInt32) (hl:l.length≤281474976710656):wl PP [] 0 (Tryz.f93.body.getD .skip) (dp PP Tryz.f93.results.toList (fun r st=>(r1 bp).get true st.h r=some (l.contains a))) (ca 0 [(cp bn).val false l,bn.val false a]) (br []):=by
 unfold Tryz.f93
 rw [qe]
 simp only [↓wR,RA,simprocAttr,TF,ae]
 refine bo (T:=[]) (ak.nil PP) mixed Tryz.func134 rfl (by kernel_rfl) (by kernel_rfl) (by kernel_rfl) (by kernel_rfl) ?_;unfold Tryz.f134
 simp only [↓wR,RA,simprocAttr,TF,ae]
 refine dh [0,1,7,8] (fun (i:Nat)=>[.vl false 1 (l.map (bn.val false)),.sc (.int .u32 a.toNat),.sc (.int .i64 (l.length)),.sc (.int .i64 (i))]) (fun _=>[]) (fun i=>i≤l.length∧l.contains a=(l.drop i).contains a) (fun i=>l.length - i) 0 ⟨Nat.zero_le _,rfl⟩ (by simp only [↓wR,RA,simprocAttr,TF,ae]<;>rfl) (by simp only [↓wR,RA,simprocAttr,TF,ae]<;>rfl) ?_
 rintro i ⟨hi,hx⟩
 simp only [↓wR,RA,simprocAttr,TF,ae]
 rw [bj];refine ⟨fun h=>?_,fun h=>?_⟩
 ·obtain ⟨c,hc,hd1,hlt⟩:=dw (decide_eq_true h)
  rw [hd1,List.contains_cons] at hx
  simp only [↓wR,RA,simprocAttr,TF,ae,h,hc];repeat (simp (disch:=omega) only [ah,b9,bu,bw,bz];try simp only [↓wR,RA,simprocAttr,TF,ae,h,hc])
  rw [cz];refine ⟨fun ⟨h2,e2⟩=>?_,fun ⟨h2,e2⟩=>?_⟩
  ·have e3:a=c:=UInt32.toNat_inj.1 (by omega)
   subst e3
   rw [beq_self_eq_true,Bool.true_or] at hx
   simp only [↓wR,RA,simprocAttr,TF,ae,h2]
   rw [hx]
  ·have e3:¬ a=c:=fun q=>e2 (by rw [q])
   rw [beq_eq_false_iff_ne.2 e3,Bool.false_or] at hx
   simp only [↓wR,RA,simprocAttr,TF,ae,h2];repeat (simp (disch:=omega) only [ah,b9,bu,bw,bz];try simp only [↓wR,RA,simprocAttr,TF,ae,h2])
   exact ⟨i+1,⟨hlt,hx⟩,by omega,by (first|rfl|trivial|omega|((try (simp (disch:=omega) only [ah]));(try (simp only [FB]));first|done|rfl|omega))⟩
 ·rw [dz (decide_eq_false h)] at hx
  simp only [↓wR,RA,simprocAttr,TF,ae,h]
  rw [hx]<;>rfl
noncomputable def Up (x:List UInt32 × UInt32 × Unit):Option AV:=if x.1.length≤281474976710656 then some ((r1 bp).E true (x.1.contains x.2.1)) else none
set_option maxRecDepth 2000000 in
theorem arp (x:List UInt32 × UInt32 × Unit) (r:AV) (h:Up x=some r):be PP 93 ((aC (cp bn) (aC bn a0)).E x) r:=by
 by_cases hc:x.1.length≤281474976710656
 case neg=>simp only [Up,if_neg hc] at h;cases h
 simp only [Up,if_pos hc] at h
 cases h
 exact bb (ak.nil PP) Tryz.func93 (by kernel_rfl) (by kernel_rfl) (by kernel_rfl) (Nat.le_of_ble_eq_true (by kernel_rfl)) (r1 bp) true (x.1.contains x.2.1) (ael x.1 x.2.1 hc)
noncomputable abbrev aA2:Nat × Bool × (List AV→M AV):=(93,true,dc (aC (cp bn) (aC bn a0)) Up)
def z6 (acc:List UInt32) (d:db):List UInt32:=if ((Ap d).2 && !acc.contains (Ap d).1)=true then acc++[(Ap d).1] else acc
def K0 (w:bd) (acc:List UInt32) (n:Name):List UInt32:=((mr w n 1).getD m5).data.foldl z6 acc
def oe (w:bd) (z:ba):List UInt32:=(qy z).foldl (K0 w) []
theorem alb {α β:Type} {l:List α} {i:Nat} {c : α} (f : β → α → β) (b : β) (h:l.drop i=c::l.drop (i+1)):(l.drop i).foldl f b=(l.drop (i+1)).foldl f (f b c):=by rw [h];rfl
theorem Jz {z:ba} (hz:vy z≤5242880):(qy z).length≤5242880∧∀ n ∈ qy z,bc n:=by
 have hs:my ((ji z.aj z.origin 2).getD m5)≤5242880:=by
  cases h:ji z.aj z.origin 2 with
  |none=>show my m5≤5242880;decide
  |some s=>
   have h1:my s<fu my z.aj:=pc (A4 h).1
   unfold vy at hz
   show my s≤5242880;omega
 have h1:=rm bt (qy z)
 have h2:fu bt (qy z)≤fu uh _:=Gg ((ji z.aj z.origin 2).getD m5).data
 unfold my at hs
 refine ⟨by omega,fun n hn=>?_⟩
 have h3:bt n<fu bt (qy z):=pc hn
 unfold bc;omega
theorem Lc {w:bd} (hw:cr w) (n:Name) (t:UInt16):my ((mr w n t).getD m5)≤5242880:=by
 have h0:my m5≤5242880:=by decide
 cases hz:ot w (lr w n) with
 |none=>unfold mr;rw [hz];exact h0
 |some z=>
  have hv:mr w n t=ji z.aj n t:=by unfold mr;rw [hz]
  rw [hv]
  cases h:ji z.aj n t with
  |none=>exact h0
  |some s=>
   have hm:z ∈ w.ay:=by
    unfold ot at hz
    split at hz
    ·exact List.mem_of_getElem? hz
    ·cases hz
   have h1:my s<fu my z.aj:=pc (A4 h).1
   have h2:=hw.wt z hm
   unfold vy at h2
   show my s≤5242880;omega
set_option maxHeartbeats 4000000 in
theorem an2 (w:bd) (k:Nat) (z:ba) (hw:cr w) (hz:w.ay[k]? = some z):wl PP [aot,Uk,axn,aA2] 0 (Tryz.f55.body.getD .skip) (dp PP Tryz.f55.results.toList (fun r st=>(r1 (cp bn)).get true st.h r=some (oe w z))) (ca 0 [cb.val false w,(au .i64).val false k]) (br []):=by
 have hm:=List.mem_of_getElem? hz
 have hzs:=hw.zone z hm
 obtain ⟨hal,han⟩:=Jz (hw.wt z hm)
 have hq:∀ a b c d,fe a b c=d→fe a b c=d:=fun _ _ _ _ h=>h
 unfold Tryz.f55
 simp only [en]
 simp only [↓wR,RA,simprocAttr,TF,ae,hz,Jv,hzs]
 unfold oe
 obtain ⟨ns,hns⟩:∃ ns,ns=qy z:=⟨_,rfl⟩
 rw [← hns] at hal han ⊢
 refine ma [2,19,20,21,5] (fun (x:Nat × List UInt32)=>[.ptr 0 0,.vl true 1 (ns.map (ar.val true)),.sc (.int .i64 (ns.length)),.sc (.int .i64 (x.1)),.sl 1 0 x.2.length 1]) (fun x=>[some (.row [.vl false 2 (w.ay.map (bg.val false)),.vl false 2 (w.dn.map (dy.val false)),.vl false 1 (w.hints.map (bn.val false))] 0 2 50),some (.row ((x.2).map (bn.val false)) 0 0 37)]) (fun x=>(x.1≤ns.length∧ns.foldl (K0 w) []=(ns.drop x.1).foldl (K0 w) x.2)∧(x.2.length:Int)≤(x.1:Int) * 5242880) (fun x=>ns.length - x.1) (0,[]) ⟨⟨Nat.zero_le _,rfl⟩,by simp only [List.length_nil];omega⟩ (by simp only [↓wR,RA,simprocAttr,TF,ae];(refine me.lax [] (by first|exact Nat.le_of_ble_eq_true rfl|(simp [cx];omega)) ?_ ?_<;>repeat' first|exact iu.nil|exact dq.nil|exact jk.same _|exact jk.nil _ _ _|exact jk.wu _ _|exact dq.refl _ _|apply iu.cons|apply dq.ghost|apply dq.same|apply dq.row)) ?_
 rintro ⟨i,x⟩ ⟨⟨hi,hx⟩,hb⟩
 simp only at hi hx hb
 simp only [↓wR,RA,simprocAttr,TF,ae]
 rw [bj];refine ⟨fun h=>?_,fun h=>?_⟩
 ·obtain ⟨n,hn,hd1,hlt⟩:=dw (decide_eq_true h)
  rw [alb _ _ hd1] at hx
  have hnn:=han n (List.mem_of_getElem? hn)
  have hts:=Lc hw n 1
  simp only [↓wR,RA,simprocAttr,TF,ae,h,hn,J9,Df,hw,hnn]
  obtain ⟨s,hs⟩:∃ s,s=(mr w n 1).getD m5:=⟨_,rfl⟩
  have hsrv:K0 w x n=s.data.foldl z6 x:=by unfold K0;rw [← hs]
  rw [← hs] at hts ⊢
  rw [hsrv] at hx
  have hsl:s.data.length≤5242880:=by have:=rm uh s.data;unfold my at hts;omega
  refine ma [2,19,20,21,32,33,34,5] (fun (y:Nat × List UInt32)=>[.ptr 0 0,.vl true 1 (ns.map (ar.val true)),.sc (.int .i64 (ns.length)),.sc (.int .i64 (i)),.vl true 4 (s.data.map (cf.val true)),.sc (.int .i64 (s.data.length)),.sc (.int .i64 (y.1)),.sl 1 0 y.2.length 1]) (fun y=>[some (.row [.vl false 2 (w.ay.map (bg.val false)),.vl false 2 (w.dn.map (dy.val false)),.vl false 1 (w.hints.map (bn.val false))] 0 2 50),some (.row ((y.2).map (bn.val false)) 0 0 37)]) (fun y=>(y.1≤s.data.length∧s.data.foldl z6 x=(s.data.drop y.1).foldl z6 y.2)∧(y.2.length:Int)≤(i:Int) * 5242880+(y.1:Int)) (fun y=>s.data.length - y.1) (0,x) ⟨⟨Nat.zero_le _,rfl⟩,by simp only;omega⟩ (by simp only [↓wR,RA,simprocAttr,TF,ae];(refine me.lax [] (by first|exact Nat.le_of_ble_eq_true rfl|(simp [cx];omega)) ?_ ?_<;>repeat' first|exact iu.nil|exact dq.nil|exact jk.same _|exact jk.nil _ _ _|exact jk.wu _ _|exact dq.refl _ _|apply iu.cons|apply dq.ghost|apply dq.same|apply dq.row)) ?_
  rintro ⟨k,y⟩ ⟨⟨hk,hy⟩,hyb⟩
  simp only at hk hy hyb
  simp only [↓wR,RA,simprocAttr,TF,ae]
  rw [bj];refine ⟨fun h2=>?_,fun h2=>?_⟩
  ·obtain ⟨d,hd,hd2,hlt2⟩:=dw (decide_eq_true h2)
   rw [alb _ _ hd2] at hy
   have hyl:y.length≤281474976710656:=by omega
   simp only [↓wR,RA,simprocAttr,TF,ae,h2,hd,adw]
   rw [bm];refine ⟨fun h3=>?_,fun h3=>?_⟩
   ·simp only [↓wR,RA,simprocAttr,TF,ae,h3,Up,hyl]
    rw [bm];refine ⟨fun h4=>?_,fun h4=>?_⟩
    ·have h4':y.contains (Ap d).1=false:=by simpa only [Bool.not_eq_true'] using h4
     have hlim:(y.length+1) * 4≤140737488355328:=by omega
     rw [show z6 y d=y++[(Ap d).1] from by unfold z6;rw [h3,h4'];rfl] at hy
     simp only [↓wR,RA,simprocAttr,TF,ae,h4,hlim];repeat (simp (disch:=omega) only [ah,b9,bu,bw,bz];try simp only [↓wR,RA,simprocAttr,TF,ae,h4,hlim])
     exact ⟨(k+1,y++[(Ap d).1]),⟨⟨hlt2,hy⟩,by simp only [List.length_append,List.length_singleton];omega⟩,by simp;omega,by (first|rfl|trivial|omega|((try (simp (disch:=omega) only [ah]));(try (simp only [FB]));first|done|rfl|omega)),by (first|rfl|trivial|omega|((try (simp (disch:=omega) only [ah]));(try (simp only [FB]));first|done|rfl|omega))⟩
    ·have h4':y.contains (Ap d).1=true:=by simpa only [Bool.not_eq_false'] using h4
     rw [show z6 y d=y from by unfold z6;rw [h3,h4'];rfl] at hy
     simp only [↓wR,RA,simprocAttr,TF,ae,h4];repeat (simp (disch:=omega) only [ah,b9,bu,bw,bz];try simp only [↓wR,RA,simprocAttr,TF,ae,h4])
     exact ⟨(k+1,y),⟨⟨hlt2,hy⟩,by simp only;omega⟩,by simp;omega,by (first|rfl|trivial|omega|((try (simp (disch:=omega) only [ah]));(try (simp only [FB]));first|done|rfl|omega)),by (first|rfl|trivial|omega|((try (simp (disch:=omega) only [ah]));(try (simp only [FB]));first|done|rfl|omega))⟩
   ·rw [show z6 y d=y from by unfold z6;rw [h3];rfl] at hy
    simp only [↓wR,RA,simprocAttr,TF,ae,h3];repeat (simp (disch:=omega) only [ah,b9,bu,bw,bz];try simp only [↓wR,RA,simprocAttr,TF,ae,h3])
    exact ⟨(k+1,y),⟨⟨hlt2,hy⟩,by simp only;omega⟩,by simp;omega,by (first|rfl|trivial|omega|((try (simp (disch:=omega) only [ah]));(try (simp only [FB]));first|done|rfl|omega)),by (first|rfl|trivial|omega|((try (simp (disch:=omega) only [ah]));(try (simp only [FB]));first|done|rfl|omega))⟩
  ·rw [dz (decide_eq_false h2),List.foldl_nil] at hy
   rw [hy] at hx
   have hkl:k=s.data.length:=by omega
   simp only [↓wR,RA,simprocAttr,TF,ae,h2];repeat (simp (disch:=omega) only [ah,b9,bu,bw,bz];try simp only [↓wR,RA,simprocAttr,TF,ae,h2])
   exact ⟨(i+1,y),⟨⟨hlt,hx⟩,by simp only;omega⟩,by simp;omega,by (first|rfl|trivial|omega|((try (simp (disch:=omega) only [ah]));(try (simp only [FB]));first|done|rfl|omega)),by (first|rfl|trivial|omega|((try (simp (disch:=omega) only [ah]));(try (simp only [FB]));first|done|rfl|omega))⟩
 ·rw [dz (decide_eq_false h),List.foldl_nil] at hx
  subst hx
  simp only [↓wR,RA,simprocAttr,TF,ae,h]
def zf (w:bd) (i:Int):List UInt32:=match ot w i with|none=>[]|some z=>oe w z
theorem ai7 (w:bd) (i:Int) (hw:cr w) (hi:(ot w i).isSome=true):wl PP [aot,Uk,axn,aA2] 0 (Tryz.f55.body.getD .skip) (dp PP Tryz.f55.results.toList (fun r st=>(r1 (cp bn)).get true st.h r=some (zf w i))) (ca 0 [cb.val false w,(au .i64).val false i]) (br []):=by
 have h1:¬ i<0:=fun h=>by rw [J5 h] at hi;cases hi
 have h2:¬ i ≥ (w.ay.length:Int):=fun h=>by rw [Wy h] at hi;cases hi
 obtain ⟨k,z,rfl,hz⟩:=Zk h1 h2
 have hv:zf w (k:Int)=oe w z:=by unfold zf;rw [mu,hz]
 rw [hv]
 exact an2 w k z hw hz
noncomputable def Vp (x:bd × Int × Unit):Option AV:=if cr x.1∧(ot x.1 x.2.1).isSome=true then some ((r1 (cp bn)).E true (zf x.1 x.2.1)) else none
set_option maxRecDepth 2000000 in
theorem ar1 (x:bd × Int × Unit) (r:AV) (h:Vp x=some r):be PP 55 ((aC cb (aC (au .i64) a0)).E x) r:=by
 by_cases hc:cr x.1∧(ot x.1 x.2.1).isSome=true
 case neg=>simp only [Vp,if_neg hc] at h;cases h
 simp only [Vp,if_pos hc] at h
 cases h
 exact bb (ak.cons (ai Wr) (ak.cons (ai D8) (ak.cons (ai aoe) (ak.cons (ai arp) (ak.nil PP))))) Tryz.func55 (by kernel_rfl) (by kernel_rfl) (by kernel_rfl) (Nat.le_of_ble_eq_true (by kernel_rfl)) (r1 (cp bn)) true (zf x.1 x.2.1) (ai7 x.1 x.2.1 hc.1 hc.2)
noncomputable abbrev aFx:Nat × Bool × (List AV→M AV):=(55,true,dc (aC cb (aC (au .i64) a0)) Vp)
def p9 (w:bd) (a:UInt32) (i:Int):Bool:=w.dn.any fun h=>decide ((h.addr.toNat:Int)=a.toNat) && h.ay.contains i
theorem as8 (w:bd) (a:UInt32) (i:Int) (hw:cr w):wl PP [aga] 0 (Tryz.f22.body.getD .skip) (dp PP Tryz.f22.results.toList (fun r st=>(r1 bp).get true st.h r=some (p9 w a i))) (ca 0 [cb.val false w,bn.val false a,(au .i64).val false i]) (br []):=by
 have hl:=hw.hlen
 unfold Tryz.f22
 simp only [en]
 simp only [↓wR,RA,simprocAttr,TF,ae]
 refine bo (T:=[]) (ak.nil PP) mixed Tryz.func56 rfl (by kernel_rfl) (by kernel_rfl) (by kernel_rfl) (by kernel_rfl) ?_;unfold Tryz.f56
 simp only [↓wR,RA,simprocAttr,TF,ae]
 refine bo (T:=[]) (ak.nil PP) mixed Tryz.func94 rfl (by kernel_rfl) (by kernel_rfl) (by kernel_rfl) (by kernel_rfl) ?_;unfold Tryz.f94
 simp only [↓wR,RA,simprocAttr,TF,ae]
 refine dh [0,1,7,8] (fun (k:Nat)=>[.vl false 2 (w.dn.map (dy.val false)),.fn (.func 57) [] [.ptr 1 0,.ptr 2 0],.sc (.int .i64 (w.dn.length)),.sc (.int .i64 (k))]) (fun _=>[some (.row [.vl false 2 (w.ay.map (bg.val false)),.vl false 2 (w.dn.map (dy.val false)),.vl false 1 (w.hints.map (bn.val false))] 0 2 50),some (.row [.sc (.int .u32 a.toNat)] 0 2 37),some (.row [.sc (.int .i64 i)] 0 2 3)]) (fun k=>k≤w.dn.length∧p9 w a i=((w.dn.drop k).any fun h=>decide ((h.addr.toNat:Int)=a.toNat) && h.ay.contains i)) (fun k=>w.dn.length - k) 0 ⟨Nat.zero_le _,rfl⟩ (by simp only [↓wR,RA,simprocAttr,TF,ae]<;>rfl) (by simp only [↓wR,RA,simprocAttr,TF,ae]<;>rfl) ?_
 rintro k ⟨hk,hx⟩
 simp only [↓wR,RA,simprocAttr,TF,ae]
 rw [bj];refine ⟨fun h3=>?_,fun h3=>?_⟩
 ·obtain ⟨c,hc,hd1,hlt⟩:=dw (decide_eq_true h3)
  rw [hd1,List.any_cons] at hx
  have hcz:c.ay.length≤281474976710656:=by have:=hw.host c (List.mem_of_getElem? hc);omega
  simp only [↓wR,RA,simprocAttr,TF,ae,h3,hc];repeat (simp (disch:=omega) only [ah,b9,bu,bw,bz];try simp only [↓wR,RA,simprocAttr,TF,ae,h3,hc])
  refine bo (T:=[aga]) (ak.cons (ai Dj) (ak.nil PP)) mixed Tryz.func57 rfl (by kernel_rfl) (by kernel_rfl) (by kernel_rfl) (by kernel_rfl) ?_;unfold Tryz.f57
  simp only [↓wR,RA,simprocAttr,TF,ae]
  rw [cz];refine ⟨fun ⟨h4,e4⟩=>?_,fun ⟨h4,e4⟩=>?_⟩
  ·rw [decide_eq_true e4,Bool.true_and] at hx
   simp only [↓wR,RA,simprocAttr,TF,ae,h4,Kw,hcz]
   rw [bm];refine ⟨fun h5=>?_,fun h5=>?_⟩
   ·rw [h5,Bool.true_or] at hx
    simp only [↓wR,RA,simprocAttr,TF,ae,h5]
    rw [hx]
   ·rw [h5,Bool.false_or] at hx
    simp only [↓wR,RA,simprocAttr,TF,ae,h5];repeat (simp (disch:=omega) only [ah,b9,bu,bw,bz];try simp only [↓wR,RA,simprocAttr,TF,ae,h5])
    exact ⟨k+1,⟨hlt,hx⟩,by omega,by (first|rfl|trivial|omega|((try (simp (disch:=omega) only [ah]));(try (simp only [FB]));first|done|rfl|omega))⟩
  ·rw [decide_eq_false e4,Bool.false_and,Bool.false_or] at hx
   simp only [↓wR,RA,simprocAttr,TF,ae,h4];repeat (simp (disch:=omega) only [ah,b9,bu,bw,bz];try simp only [↓wR,RA,simprocAttr,TF,ae,h4])
   exact ⟨k+1,⟨hlt,hx⟩,by omega,by (first|rfl|trivial|omega|((try (simp (disch:=omega) only [ah]));(try (simp only [FB]));first|done|rfl|omega))⟩
 ·rw [dz (decide_eq_false h3),List.any_nil] at hx
  simp only [↓wR,RA,simprocAttr,TF,ae,h3]
  rw [hx]<;>rfl
noncomputable def B4 (x:bd × UInt32 × Int × Unit):Option AV:=if cr x.1 then some ((r1 bp).E true (p9 x.1 x.2.1 x.2.2.1)) else none
set_option maxRecDepth 2000000 in
theorem Nu (x:bd × UInt32 × Int × Unit) (r:AV) (h:B4 x=some r):be PP 22 ((aC cb (aC bn (aC (au .i64) a0))).E x) r:=by
 by_cases hc:cr x.1
 case neg=>simp only [B4,if_neg hc] at h;cases h
 simp only [B4,if_pos hc] at h
 cases h
 exact bb (ak.cons (ai Dj) (ak.nil PP)) Tryz.func22 (by kernel_rfl) (by kernel_rfl) (by kernel_rfl) (Nat.le_of_ble_eq_true (by kernel_rfl)) (r1 bp) true (p9 x.1 x.2.1 x.2.2.1) (as8 x.1 x.2.1 x.2.2.1 hc)
noncomputable abbrev al2:Nat × Bool × (List AV→M AV):=(22,true,dc (aC cb (aC bn (aC (au .i64) a0))) B4)
def Hb (w:bd):Int:=if (w.ay.length:Int) > 32∨(w.dn.length:Int) > 64 then 3 else 0
theorem azu (w:bd):wl PP [] 0 (Tryz.f40.body.getD .skip) (dp PP Tryz.f40.results.toList (fun r st=>(r1 (au .i64)).get true st.h r=some (Hb w))) (ca 0 [cb.val false w]) (br []):=by
 unfold Tryz.f40
 simp only [en]
 unfold Hb
 simp only [↓wR,RA,simprocAttr,TF,ae]
 rw [bj];refine ⟨fun h=>?_,fun h=>?_⟩
 ·rw [if_pos (.inl h)]
  simp only [↓wR,RA,simprocAttr,TF,ae,h]
 by_cases h2:(w.dn.length:Int) > 64
 ·rw [if_pos (.inr h2)]
  simp only [↓wR,RA,simprocAttr,TF,ae,h,h2]
 ·rw [if_neg (fun q=>q.elim h h2)]
  simp only [↓wR,RA,simprocAttr,TF,ae,h,h2]
noncomputable def ah1 (x:bd × Unit):Option AV:=some ((r1 (au .i64)).E true (Hb x.1))
set_option maxRecDepth 2000000 in
theorem aoz (x:bd × Unit) (r:AV) (h:ah1 x=some r):be PP 40 ((aC cb a0).E x) r:=by
 cases h
 exact bb (ak.nil PP) Tryz.func40 (by kernel_rfl) (by kernel_rfl) (by kernel_rfl) (Nat.le_of_ble_eq_true (by kernel_rfl)) (r1 (au .i64)) true (Hb x.1) (azu x.1)
noncomputable abbrev aDp:Nat × Bool × (List AV→M AV):=(40,true,dc (aC cb a0) ah1)
def xo (l:List ba) (n:Name):Bool:=l.any fun x=>ef x.origin n
def Ef:List ba→Bool→List ba→Int
 |_,b,[]=>if b=true then 0 else 300
 |pre,b,z::r=>if xo pre z.origin=true then 300 else Ef (pre++[z]) (b || decide ((z.origin.length:Int)=0)) r
def Ed (w:bd):Int:=Ef [] false w.ay
theorem at4 {l:List ba} {i:Nat} {c:ba} (b:Bool) (hc:l[i]? = some c):Ef (l.take i) b (l.drop i)=if xo (l.take i) c.origin=true then 300 else Ef (l.take (i+1)) (b || decide ((c.origin.length:Int)=0)) (l.drop (i+1)):=by
 obtain ⟨hi,rfl⟩:=List.getElem?_eq_some_iff.1 hc
 rw [List.drop_eq_getElem_cons hi,Ef,List.take_succ_eq_append_getElem hi]
theorem Rv {l:List ba} {i:Nat} {c:ba} (n:Name) (h:l.drop i=c::l.drop (i+1)):xo (l.drop i) n=(ef c.origin n || xo (l.drop (i+1)) n):=by rw [h];rfl
theorem ats (l:List ba) (n:Name) (ss:List bh) (hl:l.length≤16777216) (hz:∀ z ∈ l,bc z.origin) (hn:bc n):r8 PP 80 [.vl false 2 (l.map (bg.val false)),.fn (.func 81) [] [.ptr 0 0]] (br [some (.row [.vl false 1 (n.map (aq.val false)),.vl false 5 (ss.map (an.val false))] 0 2 26)]) (fun r st'=>r = .sc (.bool (xo l n))∧st'=br [some (.row [.vl false 1 (n.map (aq.val false)),.vl false 5 (ss.map (an.val false))] 0 2 26)]):=by
 refine ea _ rfl ?_ (fun r st' h=>h)
 refine bo (T:=[]) (ak.nil PP) mixed Tryz.func80 rfl (by kernel_rfl) (by kernel_rfl) (by kernel_rfl) (by kernel_rfl) ?_;unfold Tryz.f80
 simp only [↓wR,RA,simprocAttr,TF,ae]
 refine bo (T:=[]) (ak.nil PP) mixed Tryz.func119 rfl (by kernel_rfl) (by kernel_rfl) (by kernel_rfl) (by kernel_rfl) ?_;unfold Tryz.f119
 simp only [↓wR,RA,simprocAttr,TF,ae]
 refine dh [0,1,7,8] (fun (k:Nat)=>[.vl false 2 (l.map (bg.val false)),.fn (.func 81) [] [.ptr 0 0],.sc (.int .i64 (l.length)),.sc (.int .i64 (k))]) (fun _=>[some (.row [.vl false 1 (n.map (aq.val false)),.vl false 5 (ss.map (an.val false))] 0 2 26)]) (fun k=>k≤l.length∧xo l n=xo (l.drop k) n) (fun k=>l.length - k) 0 ⟨Nat.zero_le _,rfl⟩ (by simp only [↓wR,RA,simprocAttr,TF,ae]<;>rfl) (by simp only [↓wR,RA,simprocAttr,TF,ae]<;>rfl) ?_
 rintro k ⟨hk,hx⟩
 simp only [↓wR,RA,simprocAttr,TF,ae]
 rw [bj];refine ⟨fun h3=>?_,fun h3=>?_⟩
 ·obtain ⟨q,hq,hd2,hlt2⟩:=dw (decide_eq_true h3)
  rw [Rv n hd2] at hx
  have hqo:=hz q (List.mem_of_getElem? hq)
  simp only [↓wR,RA,simprocAttr,TF,ae,h3,hq];repeat (simp (disch:=omega) only [ah,b9,bu,bw,bz];try simp only [↓wR,RA,simprocAttr,TF,ae,h3,hq])
  refine bo (T:=[dv]) (ak.cons (ai fg) (ak.nil PP)) mixed Tryz.func81 rfl (by kernel_rfl) (by kernel_rfl) (by kernel_rfl) (by kernel_rfl) ?_;unfold Tryz.f81
  simp only [↓wR,RA,simprocAttr,TF,ae,fm,hqo,hn]
  rw [bm];refine ⟨fun h5=>?_,fun h5=>?_⟩
  ·rw [h5,Bool.true_or] at hx
   simp only [↓wR,RA,simprocAttr,TF,ae,h5,jf,iz,il,hx]
  ·rw [h5,Bool.false_or] at hx
   simp only [↓wR,RA,simprocAttr,TF,ae,h5];repeat (simp (disch:=omega) only [ah,b9,bu,bw,bz];try simp only [↓wR,RA,simprocAttr,TF,ae,h5])
   exact ⟨k+1,⟨hlt2,hx⟩,by omega,by (first|rfl|trivial|omega|((try (simp (disch:=omega) only [ah]));(try (simp only [FB]));first|done|rfl|omega))⟩
 ·rw [dz (decide_eq_false h3)] at hx
  have hx':xo l n=false:=hx
  simp only [↓wR,RA,simprocAttr,TF,ae,h3,jf,iz,il,hx']
theorem aoq (l:List ba) (n:Name) (hl:l.length≤16777216) (hz:∀ z ∈ l,bc z.origin) (hn:bc n):r8 PP 80 [.vl false 2 (l.map (bg.val false)),.fn (.func 85) [] [.ptr 0 0]] (br [some (.row [ar.val true n] 0 2 23)]) (fun r st'=>r = .sc (.bool (xo l n))∧st'=br [some (.row [ar.val true n] 0 2 23)]):=by
 refine ea _ rfl ?_ (fun r st' h=>h)
 refine bo (T:=[]) (ak.nil PP) mixed Tryz.func80 rfl (by kernel_rfl) (by kernel_rfl) (by kernel_rfl) (by kernel_rfl) ?_;unfold Tryz.f80
 simp only [↓wR,RA,simprocAttr,TF,ae]
 refine bo (T:=[]) (ak.nil PP) mixed Tryz.func119 rfl (by kernel_rfl) (by kernel_rfl) (by kernel_rfl) (by kernel_rfl) ?_;unfold Tryz.f119
 simp only [↓wR,RA,simprocAttr,TF,ae]
 refine dh [0,1,7,8] (fun (k:Nat)=>[.vl false 2 (l.map (bg.val false)),.fn (.func 85) [] [.ptr 0 0],.sc (.int .i64 (l.length)),.sc (.int .i64 (k))]) (fun _=>[some (.row [ar.val true n] 0 2 23)]) (fun k=>k≤l.length∧xo l n=xo (l.drop k) n) (fun k=>l.length - k) 0 ⟨Nat.zero_le _,rfl⟩ (by simp only [↓wR,RA,simprocAttr,TF,ae]<;>rfl) (by simp only [↓wR,RA,simprocAttr,TF,ae]<;>rfl) ?_
 rintro k ⟨hk,hx⟩
 simp only [↓wR,RA,simprocAttr,TF,ae]
 rw [bj];refine ⟨fun h3=>?_,fun h3=>?_⟩
 ·obtain ⟨q,hq,hd2,hlt2⟩:=dw (decide_eq_true h3)
  rw [Rv n hd2] at hx
  have hqo:=hz q (List.mem_of_getElem? hq)
  simp only [↓wR,RA,simprocAttr,TF,ae,h3,hq];repeat (simp (disch:=omega) only [ah,b9,bu,bw,bz];try simp only [↓wR,RA,simprocAttr,TF,ae,h3,hq])
  refine bo (T:=[dv]) (ak.cons (ai fg) (ak.nil PP)) mixed Tryz.func85 rfl (by kernel_rfl) (by kernel_rfl) (by kernel_rfl) (by kernel_rfl) ?_;unfold Tryz.f85
  simp only [↓wR,RA,simprocAttr,TF,ae,fm,hqo,hn]
  rw [bm];refine ⟨fun h5=>?_,fun h5=>?_⟩
  ·rw [h5,Bool.true_or] at hx
   simp only [↓wR,RA,simprocAttr,TF,ae,h5,jf,iz,il,hx]
  ·rw [h5,Bool.false_or] at hx
   simp only [↓wR,RA,simprocAttr,TF,ae,h5];repeat (simp (disch:=omega) only [ah,b9,bu,bw,bz];try simp only [↓wR,RA,simprocAttr,TF,ae,h5])
   exact ⟨k+1,⟨hlt2,hx⟩,by omega,by (first|rfl|trivial|omega|((try (simp (disch:=omega) only [ah]));(try (simp only [FB]));first|done|rfl|omega))⟩
 ·rw [dz (decide_eq_false h3)] at hx
  have hx':xo l n=false:=hx
  simp only [↓wR,RA,simprocAttr,TF,ae,h3,jf,iz,il,hx']
set_option maxHeartbeats 4000000 in
theorem az0 (w:bd) (hw:cr w):wl PP [dv] 0 (Tryz.f41.body.getD .skip) (dp PP Tryz.f41.results.toList (fun r st=>(r1 (au .i64)).get true st.h r=some (Ed w))) (ca 0 [cb.val false w]) (br []):=by
 have hl:=hw.z7
 unfold Tryz.f41
 simp only [en]
 simp only [↓wR,RA,simprocAttr,TF,ae]
 refine dh [1,3,8,9,10] (fun (x:Nat × Bool)=>[.ptr 0 0,.sc (.bool x.2),.vl false 2 (w.ay.map (bg.val false)),.sc (.int .i64 (w.ay.length)),.sc (.int .i64 (x.1))]) (fun _=>[some (.row [.vl false 2 (w.ay.map (bg.val false)),.vl false 2 (w.dn.map (dy.val false)),.vl false 1 (w.hints.map (bn.val false))] 0 2 100)]) (fun x=>x.1≤w.ay.length∧Ed w=Ef (w.ay.take x.1) x.2 (w.ay.drop x.1)) (fun x=>w.ay.length - x.1) (0,false) ⟨Nat.zero_le _,rfl⟩ (by simp only [↓wR,RA,simprocAttr,TF,ae]<;>rfl) (by simp only [↓wR,RA,simprocAttr,TF,ae]<;>rfl) ?_
 rintro ⟨i,b⟩ ⟨hi,hx⟩
 simp only at hi hx
 simp only [↓wR,RA,simprocAttr,TF,ae]
 rw [bj];refine ⟨fun h=>?_,fun h=>?_⟩
 ·obtain ⟨c,hc,hd1,hlt⟩:=dw (decide_eq_true h)
  rw [at4 b hc] at hx
  have hcs:=(hw.zone c (List.mem_of_getElem? hc)).origin
  obtain ⟨b',hb'⟩:∃ b',b'=(b || decide ((c.origin.length:Int)=0)):=⟨_,rfl⟩
  rw [← hb'] at hx
  have hdec:((c.origin.length:Int) == 0)=decide ((c.origin.length:Int)=0):=by rw [Bool.eq_iff_iff];simp
  have hwt:∀ z ∈ w.ay.take i,bc z.origin:=fun z hz=>(hw.zone z (List.mem_of_mem_take hz)).origin
  simp only [↓wR,RA,simprocAttr,TF,ae,h,hc]
  have htl:(w.ay.take i).length≤16777216:=by rw [List.length_take];omega
  cases b<;>simp only [↓wR,RA,simprocAttr,TF,ae,hi,hdec]
  all_goals
   refine U0 [1] (ats (w.ay.take i) c.origin c.aj htl hwt hcs) (by decide) (by simp only [↓wR,RA,simprocAttr,TF,ae]) (by simp only [↓wR,RA,simprocAttr,TF,ae]) (Nat.le_of_ble_eq_true rfl) (by simp only [↓wR,RA,simprocAttr,TF,ae]) (by simp only [↓wR,RA,simprocAttr,TF,ae]) ⟨Nat.le_of_ble_eq_true rfl,Nat.le_of_ble_eq_true rfl⟩ ?_
   simp only [↓wR,RA,simprocAttr,TF,ae,ia,vr,Dq,ui,Oi]
   rw [bm];refine ⟨fun h2=>?_,fun h2=>?_⟩
   ·rw [if_pos h2] at hx
    simp only [↓wR,RA,simprocAttr,TF,ae,h2]
    rw [hx]
   ·rw [if_neg (by rw [h2];decide)] at hx
    simp only [↓wR,RA,simprocAttr,TF,ae,h2];repeat (simp (disch:=omega) only [ah,b9,bu,bw,bz];try simp only [↓wR,RA,simprocAttr,TF,ae,h2])
    exact ⟨(i+1,b'),⟨hlt,hx⟩,by simp;omega,by rw [hb'];(first|rfl|trivial|omega|((try (simp (disch:=omega) only [ah]));(try (simp only [FB]));first|done|rfl|omega))⟩
 ·rw [dz (decide_eq_false h)] at hx
  simp only [↓wR,RA,simprocAttr,TF,ae,h]
  rw [hx]
  rw [bm];refine ⟨fun h2=>?_,fun h2=>?_⟩
  ·have hb:b=false:=by simpa using h2
   simp only [↓wR,RA,simprocAttr,TF,ae,h2]
   rw [hb]<;>rfl
  ·have hb:b=true:=by simpa using h2
   simp only [↓wR,RA,simprocAttr,TF,ae,h2]
   rw [hb]<;>rfl
noncomputable def Pa (x:bd × Unit):Option AV:=if cr x.1 then some ((r1 (au .i64)).E true (Ed x.1)) else none
set_option maxRecDepth 2000000 in
theorem am1 (x:bd × Unit) (r:AV) (h:Pa x=some r):be PP 41 ((aC cb a0).E x) r:=by
 by_cases hc:cr x.1
 case neg=>simp only [Pa,if_neg hc] at h;cases h
 simp only [Pa,if_pos hc] at h
 cases h
 exact bb (ak.cons (ai fg) (ak.nil PP)) Tryz.func41 (by kernel_rfl) (by kernel_rfl) (by kernel_rfl) (Nat.le_of_ble_eq_true (by kernel_rfl)) (r1 (au .i64)) true (Ed x.1) (az0 x.1 hc)
noncomputable abbrev aDn:Nat × Bool × (List AV→M AV):=(41,true,dc (aC cb a0) Pa)
def tz (f:ba→Int):List ba→Int
 | []=>0
 |z::r=>if f z≠0 then f z else tz f r
theorem M8 {l:List ba} {i:Nat} {c:ba} (f:ba→Int) (h:l.drop i=c::l.drop (i+1)):tz f (l.drop i)=if f c≠0 then f c else tz f (l.drop (i+1)):=by rw [h];rfl
noncomputable def vt (w:bd):Int:=tz fy w.ay
theorem avo (w:bd) (hw:cr w):wl PP [adp] 0 (Tryz.f42.body.getD .skip) (dp PP Tryz.f42.results.toList (fun r st=>(r1 (au .i64)).get true st.h r=some (vt w))) (ca 0 [cb.val false w]) (br []):=by
 have hl:=hw.z7
 unfold Tryz.f42
 simp only [en]
 simp only [↓wR,RA,simprocAttr,TF,ae]
 refine dh [8,9,10] (fun (i:Nat)=>[.vl false 2 (w.ay.map (bg.val false)),.sc (.int .i64 (w.ay.length)),.sc (.int .i64 (i))]) (fun _=>[]) (fun i=>i≤w.ay.length∧vt w=tz fy (w.ay.drop i)) (fun i=>w.ay.length - i) 0 ⟨Nat.zero_le _,rfl⟩ (by simp only [↓wR,RA,simprocAttr,TF,ae]<;>rfl) (by simp only [↓wR,RA,simprocAttr,TF,ae]<;>rfl) ?_
 rintro i ⟨hi,hx⟩
 simp only [↓wR,RA,simprocAttr,TF,ae]
 rw [bj];refine ⟨fun h=>?_,fun h=>?_⟩
 ·obtain ⟨c,hc,hd1,hlt⟩:=dw (decide_eq_true h)
  rw [M8 _ hd1] at hx
  simp only [↓wR,RA,simprocAttr,TF,ae,h,hc,Cj,hw.zone c (List.mem_of_getElem? hc)]
  rw [bm];refine ⟨fun h1=>?_,fun h1=>?_⟩
  ·have he:fy c≠0:=by simpa using h1
   rw [if_pos he] at hx
   simp only [↓wR,RA,simprocAttr,TF,ae,h1]
   rw [hx]
  ·have he:fy c=0:=by simpa using h1
   rw [if_neg (by omega)] at hx
   simp only [↓wR,RA,simprocAttr,TF,ae,h1];repeat (simp (disch:=omega) only [ah,b9,bu,bw,bz];try simp only [↓wR,RA,simprocAttr,TF,ae,h1])
   exact ⟨i+1,⟨hlt,hx⟩,by omega,by (first|rfl|trivial|omega|((try (simp (disch:=omega) only [ah]));(try (simp only [FB]));first|done|rfl|omega))⟩
 ·rw [dz (decide_eq_false h)] at hx
  simp only [↓wR,RA,simprocAttr,TF,ae,h]
  rw [hx]<;>rfl
noncomputable def Iw (x:bd × Unit):Option AV:=if cr x.1 then some ((r1 (au .i64)).E true (vt x.1)) else none
set_option maxRecDepth 2000000 in
theorem ajb (x:bd × Unit) (r:AV) (h:Iw x=some r):be PP 42 ((aC cb a0).E x) r:=by
 by_cases hc:cr x.1
 case neg=>simp only [Iw,if_neg hc] at h;cases h
 simp only [Iw,if_pos hc] at h
 cases h
 exact bb (ak.cons (ai Ii) (ak.nil PP)) Tryz.func42 (by kernel_rfl) (by kernel_rfl) (by kernel_rfl) (Nat.le_of_ble_eq_true (by kernel_rfl)) (r1 (au .i64)) true (vt x.1) (avo x.1 hc)
noncomputable abbrev aCz:Nat × Bool × (List AV→M AV):=(42,true,dc (aC cb a0) Iw)
def I7 (w:bd) (i:Int):Bool:=w.dn.any fun h=>h.ay.contains i
noncomputable def I3 (w:bd):Nat→Nat→Int
 |0,_=>0
 |k+1,i=>if I7 w (i:Int)=true then I3 w k (i+1) else 302
noncomputable def z2 (w:bd):Int:=I3 w w.ay.length 0
theorem aqa (w:bd) (hw:cr w):wl PP [aga] 0 (Tryz.f44.body.getD .skip) (dp PP Tryz.f44.results.toList (fun r st=>(r1 (au .i64)).get true st.h r=some (z2 w))) (ca 0 [cb.val false w]) (br []):=by
 have hl:=hw.z7
 have hhl:=hw.hlen
 unfold Tryz.f44
 simp only [en]
 simp only [↓wR,RA,simprocAttr,TF,ae]
 refine dh [1,7,8] (fun (i:Nat)=>[.ptr 0 0,.sc (.int .i64 (w.ay.length)),.sc (.int .i64 (i))]) (fun _=>[some (.row [.vl false 2 (w.ay.map (bg.val false)),.vl false 2 (w.dn.map (dy.val false)),.vl false 1 (w.hints.map (bn.val false))] 0 2 100)]) (fun i=>i≤w.ay.length∧z2 w=I3 w (w.ay.length - i) i) (fun i=>w.ay.length - i) 0 ⟨Nat.zero_le _,rfl⟩ (by simp only [↓wR,RA,simprocAttr,TF,ae]<;>rfl) (by simp only [↓wR,RA,simprocAttr,TF,ae]<;>rfl) ?_
 rintro i ⟨hi,hx⟩
 simp only [↓wR,RA,simprocAttr,TF,ae]
 rw [bj];refine ⟨fun h=>?_,fun h=>?_⟩
 ·obtain ⟨m,hm⟩:∃ m,w.ay.length - i=m+1:=⟨w.ay.length - i - 1,by omega⟩
  have hm':w.ay.length - (i+1)=m:=by omega
  rw [hm,I3] at hx
  simp only [↓wR,RA,simprocAttr,TF,ae,h]
  refine ea (fun r st'=>r = .sc (.bool (I7 w i))∧st'=br [some (.row [.vl false 2 (w.ay.map (bg.val false)),.vl false 2 (w.dn.map (dy.val false)),.vl false 1 (w.hints.map (bn.val false))] 0 2 100),some (.row [.sc (.int .i64 i)] 0 2 3)]) rfl ?_ ?_
  ·refine bo (T:=[]) (ak.nil PP) mixed Tryz.func56 rfl (by kernel_rfl) (by kernel_rfl) (by kernel_rfl) (by kernel_rfl) ?_;unfold Tryz.f56
   simp only [↓wR,RA,simprocAttr,TF,ae]
   refine bo (T:=[]) (ak.nil PP) mixed Tryz.func94 rfl (by kernel_rfl) (by kernel_rfl) (by kernel_rfl) (by kernel_rfl) ?_;unfold Tryz.f94
   simp only [↓wR,RA,simprocAttr,TF,ae]
   refine dh [0,1,7,8] (fun (k:Nat)=>[.vl false 2 (w.dn.map (dy.val false)),.fn (.func 83) [] [.ptr 1 0],.sc (.int .i64 (w.dn.length)),.sc (.int .i64 (k))]) (fun _=>[some (.row [.vl false 2 (w.ay.map (bg.val false)),.vl false 2 (w.dn.map (dy.val false)),.vl false 1 (w.hints.map (bn.val false))] 0 2 100),some (.row [.sc (.int .i64 i)] 0 2 3)]) (fun k=>k≤w.dn.length∧I7 w i=((w.dn.drop k).any fun h=>h.ay.contains i)) (fun k=>w.dn.length - k) 0 ⟨Nat.zero_le _,rfl⟩ (by simp only [↓wR,RA,simprocAttr,TF,ae]<;>rfl) (by simp only [↓wR,RA,simprocAttr,TF,ae]<;>rfl) ?_
   rintro k ⟨hk,hy⟩
   simp only [↓wR,RA,simprocAttr,TF,ae]
   rw [bj];refine ⟨fun h3=>?_,fun h3=>?_⟩
   ·obtain ⟨c,hc,hd1,hlt⟩:=dw (decide_eq_true h3)
    rw [hd1,List.any_cons] at hy
    have hcz:c.ay.length≤281474976710656:=by have:=hw.host c (List.mem_of_getElem? hc);omega
    simp only [↓wR,RA,simprocAttr,TF,ae,h3,hc];repeat (simp (disch:=omega) only [ah,b9,bu,bw,bz];try simp only [↓wR,RA,simprocAttr,TF,ae,h3,hc])
    refine bo (T:=[aga]) (ak.cons (ai Dj) (ak.nil PP)) mixed Tryz.func83 rfl (by kernel_rfl) (by kernel_rfl) (by kernel_rfl) (by kernel_rfl) ?_;unfold Tryz.f83
    simp only [↓wR,RA,simprocAttr,TF,ae,Kw,hcz]
    rw [bm];refine ⟨fun h5=>?_,fun h5=>?_⟩
    ·rw [h5,Bool.true_or] at hy
     simp only [↓wR,RA,simprocAttr,TF,ae,h5,jf,iz,il,hy]
    ·rw [h5,Bool.false_or] at hy
     simp only [↓wR,RA,simprocAttr,TF,ae,h5];repeat (simp (disch:=omega) only [ah,b9,bu,bw,bz];try simp only [↓wR,RA,simprocAttr,TF,ae,h5])
     exact ⟨k+1,⟨hlt,hy⟩,by omega,by (first|rfl|trivial|omega|((try (simp (disch:=omega) only [ah]));(try (simp only [FB]));first|done|rfl|omega))⟩
   ·rw [dz (decide_eq_false h3),List.any_nil] at hy
    simp only [↓wR,RA,simprocAttr,TF,ae,h3,jf,iz,il,hy]
  rintro _ _ ⟨rfl,rfl⟩
  simp only [↓wR,RA,simprocAttr,TF,ae,ia]
  rw [bm];refine ⟨fun h4=>?_,fun h4=>?_⟩
  ·have h4':I7 w i=false:=by simpa only [Bool.not_eq_true'] using h4
   rw [h4',if_neg (by decide)] at hx
   simp only [↓wR,RA,simprocAttr,TF,ae,h4]
   rw [hx]
  ·have h4':I7 w i=true:=by simpa only [Bool.not_eq_false'] using h4
   rw [if_pos h4'] at hx
   simp only [↓wR,RA,simprocAttr,TF,ae,h4];repeat (simp (disch:=omega) only [ah,b9,bu,bw,bz];try simp only [↓wR,RA,simprocAttr,TF,ae,h4])
   exact ⟨i+1,⟨by omega,by rw [hm'];exact hx⟩,by omega,by (first|rfl|trivial|omega|((try (simp (disch:=omega) only [ah]));(try (simp only [FB]));first|done|rfl|omega))⟩
 ·rw [show w.ay.length - i=0 by omega,I3] at hx
  simp only [↓wR,RA,simprocAttr,TF,ae,h]
  rw [hx]<;>rfl
noncomputable def Fg (x:bd × Unit):Option AV:=if cr x.1 then some ((r1 (au .i64)).E true (z2 x.1)) else none
set_option maxRecDepth 2000000 in
theorem adu (x:bd × Unit) (r:AV) (h:Fg x=some r):be PP 44 ((aC cb a0).E x) r:=by
 by_cases hc:cr x.1
 case neg=>simp only [Fg,if_neg hc] at h;cases h
 simp only [Fg,if_pos hc] at h
 cases h
 exact bb (ak.cons (ai Dj) (ak.nil PP)) Tryz.func44 (by kernel_rfl) (by kernel_rfl) (by kernel_rfl) (Nat.le_of_ble_eq_true (by kernel_rfl)) (r1 (au .i64)) true (z2 x.1) (aqa x.1 hc)
noncomputable abbrev ay6:Nat × Bool × (List AV→M AV):=(44,true,dc (aC cb a0) Fg)
def Dw (z:ba) (s:bh):Bool:=decide ((s.type.toNat:Int)=2) && Bp s.owner z.origin
def tl (z:ba):List Name:=(z.aj.filter (Dw z)).map fun s=>s.owner
theorem aur (z:ba) (hz:c7 z):wl PP [asm,o9] 0 (Tryz.f84.body.getD .skip) (dp PP Tryz.f84.results.toList (fun r st=>(r1 (cp ar)).get true st.h r=some (tl z))) (ca 0 [bg.val false z]) (br []):=by
 have hl:=hz.len
 have hq:∀ a b c d,fe a b c=d→fe a b c=d:=fun _ _ _ _ h=>h
 unfold Tryz.f84
 simp only [ic]
 simp only [↓wR,RA,simprocAttr,TF,ae]
 refine bo (T:=[]) (ak.nil PP) mixed Tryz.func127 rfl (by kernel_rfl) (by kernel_rfl) (by kernel_rfl) (by kernel_rfl) ?_;unfold Tryz.f127
 simp only [↓wR,RA,simprocAttr,TF,ae]
 refine ⟨[1,3,6],?_⟩
 have hib:sy PP 154=some (Tryz.f154.ntmps,Tryz.f154.body.getD .skip):=by kernel_rfl
 simp only [↓wR,RA,simprocAttr,TF,ae,hib]
 refine ⟨by kernel_rfl,fun l=>?_⟩
 unfold Tryz.f154
 simp only [↓wR,RA,simprocAttr,TF,ae]
 refine Uq [0,2,7,8,9] (fun (x:Nat × List Name)=>[.sc (.func (.yield l) #[] #[]),.ptr 3 0,.vl false 5 (z.aj.map (an.val false)),.sc (.int .i64 (z.aj.length)),.sc (.int .i64 (x.1))]) (fun x=>[some (.row [.vl false 1 (z.origin.map (aq.val false)),.vl false 5 (z.aj.map (an.val false))] 0 2 26),some (.row [.sl 4 0 x.2.length 1] 0 2 69),some (.row [.vl false 1 (z.origin.map (aq.val false)),.vl false 5 (z.aj.map (an.val false))] 0 2 26),some (.row [.sc (.int .u16 2)] 0 2 28),some (.row (x.2.map (ar.val true)) 0 0 23)]) (fun x=>(x.1≤z.aj.length∧x.2++((z.aj.drop x.1).filter (Dw z)).map (fun s=>s.owner)=tl z)∧x.2.length≤x.1) (fun x=>z.aj.length - x.1) (0,[]) ⟨⟨Nat.zero_le _,rfl⟩,Nat.zero_le _⟩ (by simp only [↓wR,RA,simprocAttr,TF,ae];(refine me.lax [] (by first|exact Nat.le_of_ble_eq_true rfl|(simp [cx];omega)) ?_ ?_<;>repeat' first|exact iu.nil|exact dq.nil|exact jk.same _|exact jk.nil _ _ _|exact jk.wu _ _|exact dq.refl _ _|apply iu.cons|apply dq.ghost|apply dq.same|apply dq.row)) ?_
 rintro ⟨i,x⟩ ⟨⟨hi,hx⟩,hl2⟩
 simp only at hi hx hl2
 simp only [↓wR,RA,simprocAttr,TF,ae]
 rw [tv];refine ⟨fun h=>?_,fun h=>?_⟩
 ·obtain ⟨c,hc,hd1,hlt⟩:=dw h
  have hcs:=hz.set c (List.mem_of_getElem? hc)
  rw [N3 hd1] at hx
  simp only [↓wR,RA,simprocAttr,TF,ae,h,hc]
  rw [tv];refine ⟨fun h2=>?_,fun h2=>?_⟩
  ·have e2:(c.type.toNat:Int)=2:=by simpa using h2
   simp only [↓wR,RA,simprocAttr,TF,ae,h2]
   refine jq [0,2,7,8,9,17,19] ?_
   simp only [↓wR,RA,simprocAttr,TF,ae,j9,gi,Es,hcs.owner,hz.origin]
   rw [bm];refine ⟨fun h3=>?_,fun h3=>?_⟩
   ·have hp:Dw z c=true:=by unfold Dw;rw [decide_eq_true e2,h3];rfl
    rw [if_pos hp] at hx
    have hlim:(x.length+1) * 24≤140737488355328:=by omega
    simp only [↓wR,RA,simprocAttr,TF,ae,h3]
    refine ⟨by kernel_rfl,.inl ?_⟩
    simp only [↓wR,RA,simprocAttr,TF,ae,gu,hcs.owner,hlim];repeat (simp (disch:=omega) only [ah,b9,bu,bw,bz];try simp only [↓wR,RA,simprocAttr,TF,ae,gu,hcs.owner,hlim])
    exact ⟨by apply hq;kernel_rfl,(i+1,x++[c.owner]),⟨⟨hlt,by simpa using hx⟩,by simp;omega⟩,by simp;omega,by (first|rfl|trivial|omega|((try (simp (disch:=omega) only [ah]));(try (simp only [FB]));first|done|rfl|omega)),by (first|rfl|trivial|omega|((try (simp (disch:=omega) only [ah]));(try (simp only [FB]));first|done|rfl|omega))⟩
   ·have hp:Dw z c=false:=by unfold Dw;rw [h3,Bool.and_false]
    rw [hp,if_neg (by decide),List.nil_append] at hx
    simp only [↓wR,RA,simprocAttr,TF,ae,h3];repeat (simp (disch:=omega) only [ah,b9,bu,bw,bz];try simp only [↓wR,RA,simprocAttr,TF,ae,h3])
    exact ⟨(i+1,x),⟨⟨hlt,hx⟩,by simp only;omega⟩,by simp;omega,by (first|rfl|trivial|omega|((try (simp (disch:=omega) only [ah]));(try (simp only [FB]));first|done|rfl|omega)),by (first|rfl|trivial|omega|((try (simp (disch:=omega) only [ah]));(try (simp only [FB]));first|done|rfl|omega))⟩
  ·have e2:¬ (c.type.toNat:Int)=2:=by simpa using h2
   have hp:Dw z c=false:=by unfold Dw;rw [decide_eq_false e2];rfl
   rw [hp,if_neg (by decide),List.nil_append] at hx
   simp only [↓wR,RA,simprocAttr,TF,ae,h2];repeat (simp (disch:=omega) only [ah,b9,bu,bw,bz];try simp only [↓wR,RA,simprocAttr,TF,ae,h2])
   exact ⟨(i+1,x),⟨⟨hlt,hx⟩,by simp only;omega⟩,by simp;omega,by (first|rfl|trivial|omega|((try (simp (disch:=omega) only [ah]));(try (simp only [FB]));first|done|rfl|omega)),by (first|rfl|trivial|omega|((try (simp (disch:=omega) only [ah]));(try (simp only [FB]));first|done|rfl|omega))⟩
 ·rw [dz h,List.filter_nil,List.map_nil,List.append_nil] at hx
  subst hx
  simp only [↓wR,RA,simprocAttr,TF,ae,h]
noncomputable def Ms (x:ba × Unit):Option AV:=if c7 x.1 then some ((r1 (cp ar)).E true (tl x.1)) else none
set_option maxRecDepth 2000000 in
theorem aok (x:ba × Unit) (r:AV) (h:Ms x=some r):be PP 84 ((aC bg a0).E x) r:=by
 by_cases hc:c7 x.1
 case neg=>simp only [Ms,if_neg hc] at h;cases h
 simp only [Ms,if_pos hc] at h
 cases h
 exact bb (ak.cons (ai Ra) (ak.cons (ai j8) (ak.nil PP))) Tryz.func84 (by kernel_rfl) (by kernel_rfl) (by kernel_rfl) (Nat.le_of_ble_eq_true (by kernel_rfl)) (r1 (cp ar)) true (tl x.1) (aur x.1 hc)
noncomputable abbrev aDx:Nat × Bool × (List AV→M AV):=(84,true,dc (aC bg a0) Ms)
theorem amz {z:ba} (hz:c7 z):(tl z).length≤16777216∧∀ n ∈ tl z,bc n:=by
 refine ⟨?_,fun n hn=>?_⟩
 ·have h1:=uw (l:=z.aj) (Dw z)
  have h2:=hz.len
  unfold tl;rw [List.length_map];omega
 ·obtain ⟨s,hs,rfl⟩:=List.mem_map.1 hn
  exact (hz.set s (List.mem_filter.1 hs).1).owner
noncomputable def C3 (w:bd):List Name→Int
 | []=>0
 |n::r=>if xo w.ay n=true then C3 w r else 303
noncomputable def Ek (w:bd):Int:=tz (fun z=>C3 w (tl z)) w.ay
theorem au6 {w:bd} {l:List Name} {i:Nat} {c:Name} (h:l.drop i=c::l.drop (i+1)):C3 w (l.drop i)=if xo w.ay c=true then C3 w (l.drop (i+1)) else 303:=by rw [h];rfl
theorem ayn (w:bd) (hw:cr w):wl PP [aDx,dv] 0 (Tryz.f45.body.getD .skip) (dp PP Tryz.f45.results.toList (fun r st=>(r1 (au .i64)).get true st.h r=some (Ek w))) (ca 0 [cb.val false w]) (br []):=by
 have hl:=hw.z7
 have hzo:∀ z ∈ w.ay,bc z.origin:=fun z hz=>(hw.zone z hz).origin
 unfold Tryz.f45
 simp only [en]
 simp only [↓wR,RA,simprocAttr,TF,ae]
 refine dh [1,9,10,11] (fun (i:Nat)=>[.ptr 0 0,.vl false 2 (w.ay.map (bg.val false)),.sc (.int .i64 (w.ay.length)),.sc (.int .i64 (i))]) (fun _=>[some (.row [.vl false 2 (w.ay.map (bg.val false)),.vl false 2 (w.dn.map (dy.val false)),.vl false 1 (w.hints.map (bn.val false))] 0 2 100)]) (fun i=>i≤w.ay.length∧Ek w=tz (fun z=>C3 w (tl z)) (w.ay.drop i)) (fun i=>w.ay.length - i) 0 ⟨Nat.zero_le _,rfl⟩ (by simp only [↓wR,RA,simprocAttr,TF,ae]<;>rfl) (by simp only [↓wR,RA,simprocAttr,TF,ae]<;>rfl) ?_
 rintro i ⟨hi,hx⟩
 simp only [↓wR,RA,simprocAttr,TF,ae]
 rw [bj];refine ⟨fun h=>?_,fun h=>?_⟩
 ·obtain ⟨c,hc,hd1,hlt⟩:=dw (decide_eq_true h)
  rw [M8 _ hd1] at hx
  have hcz:=hw.zone c (List.mem_of_getElem? hc)
  obtain ⟨hnl,hns⟩:=amz hcz
  simp only [↓wR,RA,simprocAttr,TF,ae,h,hc,Ms,hcz]
  refine dh [1,9,10,11,16,17,18] (fun (k:Nat)=>[.ptr 0 0,.vl false 2 (w.ay.map (bg.val false)),.sc (.int .i64 (w.ay.length)),.sc (.int .i64 (i)),.vl true 1 ((tl c).map (ar.val true)),.sc (.int .i64 ((tl c).length)),.sc (.int .i64 (k))]) (fun _=>[some (.row [.vl false 2 (w.ay.map (bg.val false)),.vl false 2 (w.dn.map (dy.val false)),.vl false 1 (w.hints.map (bn.val false))] 0 2 100)]) (fun k=>k≤(tl c).length∧C3 w (tl c)=C3 w ((tl c).drop k)) (fun k=>(tl c).length - k) 0 ⟨Nat.zero_le _,rfl⟩ (by simp only [↓wR,RA,simprocAttr,TF,ae]<;>rfl) (by simp only [↓wR,RA,simprocAttr,TF,ae]<;>rfl) ?_
  rintro k ⟨hk,hy⟩
  simp only [↓wR,RA,simprocAttr,TF,ae]
  rw [bj];refine ⟨fun h2=>?_,fun h2=>?_⟩
  ·obtain ⟨n,hn,hd2,hlt2⟩:=dw (decide_eq_true h2)
   rw [au6 hd2] at hy
   simp only [↓wR,RA,simprocAttr,TF,ae,h2,hn]
   refine U0 [1] (aoq w.ay n hl hzo (hns n (List.mem_of_getElem? hn))) (by decide) (by simp only [↓wR,RA,simprocAttr,TF,ae]) (by simp only [↓wR,RA,simprocAttr,TF,ae]) (Nat.le_of_ble_eq_true rfl) (by simp only [↓wR,RA,simprocAttr,TF,ae]) (by simp only [↓wR,RA,simprocAttr,TF,ae]) ⟨Nat.le_of_ble_eq_true rfl,Nat.le_of_ble_eq_true rfl⟩ ?_
   simp only [↓wR,RA,simprocAttr,TF,ae,ia,vr,Dq,ui,Oi]
   rw [bm];refine ⟨fun h3=>?_,fun h3=>?_⟩
   ·have h3':xo w.ay n=false:=by simpa only [Bool.not_eq_true'] using h3
    rw [h3',if_neg (by decide)] at hy
    rw [hy,if_pos (by decide)] at hx
    simp only [↓wR,RA,simprocAttr,TF,ae,h3]
    rw [hx]
   ·have h3':xo w.ay n=true:=by simpa only [Bool.not_eq_false'] using h3
    rw [if_pos h3'] at hy
    simp only [↓wR,RA,simprocAttr,TF,ae,h3];repeat (simp (disch:=omega) only [ah,b9,bu,bw,bz];try simp only [↓wR,RA,simprocAttr,TF,ae,h3])
    exact ⟨k+1,⟨hlt2,hy⟩,by omega,by (first|rfl|trivial|omega|((try (simp (disch:=omega) only [ah]));(try (simp only [FB]));first|done|rfl|omega))⟩
  ·rw [dz (decide_eq_false h2),C3] at hy
   rw [hy,if_neg (by decide)] at hx
   simp only [↓wR,RA,simprocAttr,TF,ae,h2];repeat (simp (disch:=omega) only [ah,b9,bu,bw,bz];try simp only [↓wR,RA,simprocAttr,TF,ae,h2])
   exact ⟨i+1,⟨hlt,hx⟩,by omega,by (first|rfl|trivial|omega|((try (simp (disch:=omega) only [ah]));(try (simp only [FB]));first|done|rfl|omega))⟩
 ·rw [dz (decide_eq_false h)] at hx
  simp only [↓wR,RA,simprocAttr,TF,ae,h]
  rw [hx]<;>rfl
noncomputable def Mb (x:bd × Unit):Option AV:=if cr x.1 then some ((r1 (au .i64)).E true (Ek x.1)) else none
set_option maxRecDepth 2000000 in
theorem am8 (x:bd × Unit) (r:AV) (h:Mb x=some r):be PP 45 ((aC cb a0).E x) r:=by
 by_cases hc:cr x.1
 case neg=>simp only [Mb,if_neg hc] at h;cases h
 simp only [Mb,if_pos hc] at h
 cases h
 exact bb (ak.cons (ai aok) (ak.cons (ai fg) (ak.nil PP))) Tryz.func45 (by kernel_rfl) (by kernel_rfl) (by kernel_rfl) (Nat.le_of_ble_eq_true (by kernel_rfl)) (r1 (au .i64)) true (Ek x.1) (ayn x.1 hc)
noncomputable abbrev aDy:Nat × Bool × (List AV→M AV):=(45,true,dc (aC cb a0) Mb)
noncomputable def parentOf (w:bd) (z:ba) (p:Int):Int:=
 match ot w p with
 |none=>304
 |some y=>if (ji y.aj z.origin 2).isSome=true then (if ry ((ji z.aj z.origin 2).getD m5) ((ji y.aj z.origin 2).getD m5)=true then 0 else 304) else 304
noncomputable def tg (w:bd):List ba→Nat→Int
 | [],_=>0
 |z::r,i=>if (z.origin.length:Int)=0 then tg w r (i+1) else if parentOf w z (uf w (i:Int)).1≠0 then 304 else tg w r (i+1)
noncomputable def vj (w:bd):Int:=tg w w.ay 0
theorem aif {w:bd} {l:List ba} {i:Nat} {c:ba} (k:Nat) (h:l.drop i=c::l.drop (i+1)):tg w (l.drop i) k=if (c.origin.length:Int)=0 then tg w (l.drop (i+1)) (k+1) else if parentOf w c (uf w (k:Int)).1≠0 then 304 else tg w (l.drop (i+1)) (k+1):=by rw [h];rfl
theorem ajo {w:bd} {i:Int} (hw:w.ay≠[]):∃ (k:Nat) (y:ba),(uf w i).1=(k:Int)∧w.ay[k]? = some y:=by
 have h0:∃ (k:Nat) (y:ba),(0:Int)=(k:Int)∧w.ay[k]? = some y:=by
  cases hz:w.ay with
  |nil=>exact (hw hz).elim
  |cons y l=>exact ⟨0,y,rfl,rfl⟩
 unfold uf
 split
 ·exact h0
 ·split
  ·exact h0
  ·split
   ·exact h0
   ·rename_i h
    obtain ⟨k,y,h1,h2,_⟩:=as2 h
    exact ⟨k,y,h1,h2⟩
set_option maxHeartbeats 4000000 in
theorem aoc (w:bd) (hw:cr w):wl PP [aym,Bd,acu] 0 (Tryz.f46.body.getD .skip) (dp PP Tryz.f46.results.toList (fun r st=>(r1 (au .i64)).get true st.h r=some (vj w))) (ca 0 [cb.val false w]) (br []):=by
 have hl:=hw.z7
 have hq:∀ a b c d,fe a b c=d→fe a b c=d:=fun _ _ _ _ h=>h
 unfold Tryz.f46
 simp only [en]
 simp only [↓wR,RA,simprocAttr,TF,ae]
 refine dh [1,13,14,15] (fun (i:Nat)=>[.ptr 0 0,.vl false 2 (w.ay.map (bg.val false)),.sc (.int .i64 (w.ay.length)),.sc (.int .i64 (i))]) (fun _=>[some (.row [.vl false 2 (w.ay.map (bg.val false)),.vl false 2 (w.dn.map (dy.val false)),.vl false 1 (w.hints.map (bn.val false))] 0 2 100)]) (fun i=>i≤w.ay.length∧vj w=tg w (w.ay.drop i) i) (fun i=>w.ay.length - i) 0 ⟨Nat.zero_le _,rfl⟩ (by simp only [↓wR,RA,simprocAttr,TF,ae]<;>rfl) (by simp only [↓wR,RA,simprocAttr,TF,ae]<;>rfl) ?_
 rintro i ⟨hi,hx⟩
 simp only [↓wR,RA,simprocAttr,TF,ae]
 rw [bj];refine ⟨fun h=>?_,fun h=>?_⟩
 ·obtain ⟨c,hc,hd1,hlt⟩:=dw (decide_eq_true h)
  rw [aif i hd1] at hx
  have hcz:=hw.zone c (List.mem_of_getElem? hc)
  obtain ⟨k,y,hk,hy⟩:=ajo (i:=(i:Int)) (fun q=>by rw [q] at hc;simp at hc)
  have hyz:=hw.zone y (List.mem_of_getElem? hy)
  have hs1:=H5 hcz c.origin 2
  have hs2:=H5 hyz c.origin 2
  simp only [↓wR,RA,simprocAttr,TF,ae,h,hc]
  rw [cz];refine ⟨fun ⟨h1,e1⟩=>?_,fun ⟨h1,e1⟩=>?_⟩
  ·rw [if_pos e1] at hx
   simp only [↓wR,RA,simprocAttr,TF,ae,h1];repeat (simp (disch:=omega) only [ah,b9,bu,bw,bz];try simp only [↓wR,RA,simprocAttr,TF,ae,h1])
   exact ⟨i+1,⟨hlt,hx⟩,by omega,by (first|rfl|trivial|omega|((try (simp (disch:=omega) only [ah]));(try (simp only [FB]));first|done|rfl|omega))⟩
  rw [if_neg e1] at hx
  rcases hpe:uf w (i:Int) with ⟨p,e⟩
  rw [hpe] at hk hx
  simp only at hk hx
  subst hk
  have hpo:parentOf w c (k:Int)=if (ji y.aj c.origin 2).isSome=true then (if ry ((ji c.aj c.origin 2).getD m5) ((ji y.aj c.origin 2).getD m5)=true then 0 else 304) else 304:=by unfold parentOf;rw [mu,hy]
  rw [hpo] at hx
  simp only [↓wR,RA,simprocAttr,TF,ae,h1,F3,hw,hpe,J9,tt,hcz.mid,hcz.origin]
  obtain ⟨s1,hd1⟩:∃ s,s=(ji c.aj c.origin 2).getD m5:=⟨_,rfl⟩
  obtain ⟨s2,hd2⟩:∃ s,s=(ji y.aj c.origin 2).getD m5:=⟨_,rfl⟩
  obtain ⟨b,hb⟩:∃ b,b=(ji y.aj c.origin 2).isSome:=⟨_,rfl⟩
  rw [← hd1,← hd2,← hb] at hx
  rw [← hd1] at hs1
  rw [← hd2] at hs2
  rw [← hd1]
  refine ⟨by kernel_rfl,.inl ?_⟩
  simp only [↓wR,RA,simprocAttr,TF,ae,hy,J9,tt,hyz.mid,hcz.origin,← hd2,← hb]
  refine ⟨by apply hq;kernel_rfl,?_⟩
  cases b with
  |false=>
   rw [if_neg (show ¬ (false=true) by decide),if_pos (by decide)] at hx
   simp only [↓wR,RA,simprocAttr,TF,ae]
   rw [hx]
  |true=>
   rw [if_pos rfl] at hx
   simp only [↓wR,RA,simprocAttr,TF,ae,z0,hs1,hs2]
   rw [bm];refine ⟨fun h3=>?_,fun h3=>?_⟩
   ·have h3':ry s1 s2=false:=by simpa only [Bool.not_eq_true'] using h3
    rw [h3',if_neg (show ¬ (false=true) by decide),if_pos (by decide)] at hx
    simp only [↓wR,RA,simprocAttr,TF,ae,h3]
    rw [hx]
   ·have h3':ry s1 s2=true:=by simpa only [Bool.not_eq_false'] using h3
    rw [if_pos h3',if_neg (by decide)] at hx
    simp only [↓wR,RA,simprocAttr,TF,ae,h3];repeat (simp (disch:=omega) only [ah,b9,bu,bw,bz];try simp only [↓wR,RA,simprocAttr,TF,ae,h3])
    exact ⟨i+1,⟨hlt,hx⟩,by omega,by (first|rfl|trivial|omega|((try (simp (disch:=omega) only [ah]));(try (simp only [FB]));first|done|rfl|omega))⟩
 ·rw [dz (decide_eq_false h)] at hx
  simp only [↓wR,RA,simprocAttr,TF,ae,h]
  rw [hx]<;>rfl
noncomputable def Ds (x:bd × Unit):Option AV:=if cr x.1 then some ((r1 (au .i64)).E true (vj x.1)) else none
set_option maxRecDepth 2000000 in
theorem ab2 (x:bd × Unit) (r:AV) (h:Ds x=some r):be PP 46 ((aC cb a0).E x) r:=by
 by_cases hc:cr x.1
 case neg=>simp only [Ds,if_neg hc] at h;cases h
 simp only [Ds,if_pos hc] at h
 cases h
 exact bb (ak.cons (ai ac1) (ak.cons (ai te) (ak.cons (ai Ig) (ak.nil PP)))) Tryz.func46 (by kernel_rfl) (by kernel_rfl) (by kernel_rfl) (Nat.le_of_ble_eq_true (by kernel_rfl)) (r1 (au .i64)) true (vj x.1) (aoc x.1 hc)
noncomputable abbrev avh:Nat × Bool × (List AV→M AV):=(46,true,dc (aC cb a0) Ds)
def Qg (w:bd) (z:ba) (cut:bh) (d:db):Bool:=
 match d.names with
 | []=>false
 |n::_=>(mr w n 1).isSome && (!(ji z.aj n 1).isSome && dj n cut.owner)
def Ji (w:bd) (z:ba) (cut:bh):Bool:=cut.data.any (Qg w z cut)
set_option maxHeartbeats 4000000 in
theorem aqi (w:bd) (z:ba) (s:bh) (hw:cr w) (hz:c7 z) (hs:dr s) (hn:∀ d ∈ s.data,d.names≠[]):wl PP [Uk,Bd,ug] 0 (Tryz.f87.body.getD .skip) (dp PP Tryz.f87.results.toList (fun r st=>(r1 bp).get true st.h r=some (Ji w z s))) (ca 0 [cb.val false w,bg.val false z,an.val false s]) (br []):=by
 have hl:=hs.data.len
 unfold Tryz.f87
 simp only [en,ic,j4]
 simp only [↓wR,RA,simprocAttr,TF,ae]
 refine dh [3,4,5,15,16,17] (fun (i:Nat)=>[.ptr 0 0,.ptr 1 0,.ptr 2 0,.vl false 4 (s.data.map (cf.val false)),.sc (.int .i64 (s.data.length)),.sc (.int .i64 (i))]) (fun _=>[some (.row [.vl false 2 (w.ay.map (bg.val false)),.vl false 2 (w.dn.map (dy.val false)),.vl false 1 (w.hints.map (bn.val false))] 0 2 100),some (.row [.vl false 1 (z.origin.map (aq.val false)),.vl false 5 (z.aj.map (an.val false))] 0 2 26),some (.row [.vl false 1 (s.owner.map (aq.val false)),.sc (.int .u16 s.type.toNat),.sc (.int .u16 s.cls.toNat),.sc (.int .u32 s.pr.toNat),.vl false 4 (s.data.map (cf.val false))] 0 2 40)]) (fun i=>i≤s.data.length∧Ji w z s=(s.data.drop i).any (Qg w z s)) (fun i=>s.data.length - i) 0 ⟨Nat.zero_le _,rfl⟩ (by simp only [↓wR,RA,simprocAttr,TF,ae]<;>rfl) (by simp only [↓wR,RA,simprocAttr,TF,ae]<;>rfl) ?_
 rintro i ⟨hi,hx⟩
 simp only [↓wR,RA,simprocAttr,TF,ae]
 rw [bj];refine ⟨fun h=>?_,fun h=>?_⟩
 ·obtain ⟨d,hd,hd1,hlt⟩:=dw (decide_eq_true h)
  rw [hd1,List.any_cons] at hx
  have hdm:=List.mem_of_getElem? hd
  obtain ⟨n,r,hnr⟩:∃ n r,d.names=n::r:=by
   cases q:d.names with
   |nil=>exact (hn d hdm q).elim
   |cons n r=>exact ⟨n,r,rfl⟩
  have hn0:d.names[0]? = some n:=by rw [hnr];rfl
  have hns:bc n:=(hs.data.mem d hdm).name n (by rw [hnr];simp)
  have hp:Qg w z s d=((mr w n 1).isSome && (!(ji z.aj n 1).isSome && dj n s.owner)):=by unfold Qg;rw [hnr]
  rw [hp] at hx
  have u1:∀ fr h,cw.fp fr h (.sc (.int .u16 1))=some 1:=anj
  simp only [↓wR,RA,simprocAttr,TF,ae,h,hd,hn0,J9,Df,hw,hns,tt,hz.mid]
  rw [bm];refine ⟨fun h1=>?_,fun h1=>?_⟩
  ·rw [h1,Bool.true_and] at hx
   simp only [↓wR,RA,simprocAttr,TF,ae,h1]
   rw [bm];refine ⟨fun h2=>?_,fun h2=>?_⟩
   ·rw [h2,Bool.true_and] at hx
    simp only [↓wR,RA,simprocAttr,TF,ae,h2,mo,hns,hs.owner]
    rw [bm];refine ⟨fun h3=>?_,fun h3=>?_⟩
    ·rw [h3,Bool.true_or] at hx
     simp only [↓wR,RA,simprocAttr,TF,ae,h3]
     rw [hx]
    ·rw [h3,Bool.false_or] at hx
     simp only [↓wR,RA,simprocAttr,TF,ae,h3];repeat (simp (disch:=omega) only [ah,b9,bu,bw,bz];try simp only [↓wR,RA,simprocAttr,TF,ae,h3])
     exact ⟨i+1,⟨hlt,hx⟩,by omega,by (first|rfl|trivial|omega|((try (simp (disch:=omega) only [ah]));(try (simp only [FB]));first|done|rfl|omega))⟩
   ·rw [h2,Bool.false_and,Bool.false_or] at hx
    simp only [↓wR,RA,simprocAttr,TF,ae,h2];repeat (simp (disch:=omega) only [ah,b9,bu,bw,bz];try simp only [↓wR,RA,simprocAttr,TF,ae,h2])
    exact ⟨i+1,⟨hlt,hx⟩,by omega,by (first|rfl|trivial|omega|((try (simp (disch:=omega) only [ah]));(try (simp only [FB]));first|done|rfl|omega))⟩
  ·rw [h1,Bool.false_and,Bool.false_or] at hx
   simp only [↓wR,RA,simprocAttr,TF,ae,h1];repeat (simp (disch:=omega) only [ah,b9,bu,bw,bz];try simp only [↓wR,RA,simprocAttr,TF,ae,h1])
   exact ⟨i+1,⟨hlt,hx⟩,by omega,by (first|rfl|trivial|omega|((try (simp (disch:=omega) only [ah]));(try (simp only [FB]));first|done|rfl|omega))⟩
 ·rw [dz (decide_eq_false h),List.any_nil] at hx
  simp only [↓wR,RA,simprocAttr,TF,ae,h]
  rw [hx]<;>rfl
def Ns (s:bh):Prop:=∀ d ∈ s.data,d.names≠[]
instance (s:bh):Decidable (Ns s):=inferInstanceAs (Decidable (∀ d ∈ s.data,d.names≠[]))
noncomputable def Fc (x:bd × ba × bh × Unit):Option AV:=if (cr x.1∧c7 x.2.1)∧(dr x.2.2.1∧Ns x.2.2.1) then some ((r1 bp).E true (Ji x.1 x.2.1 x.2.2.1)) else none
set_option maxRecDepth 2000000 in
theorem afw (x:bd × ba × bh × Unit) (r:AV) (h:Fc x=some r):be PP 87 ((aC cb (aC bg (aC an a0))).E x) r:=by
 by_cases hc:(cr x.1∧c7 x.2.1)∧(dr x.2.2.1∧Ns x.2.2.1)
 case neg=>simp only [Fc,if_neg hc] at h;cases h
 simp only [Fc,if_pos hc] at h
 cases h
 exact bb (ak.cons (ai D8) (ak.cons (ai te) (ak.cons (ai nh) (ak.nil PP)))) Tryz.func87 (by kernel_rfl) (by kernel_rfl) (by kernel_rfl) (Nat.le_of_ble_eq_true (by kernel_rfl)) (r1 bp) true (Ji x.1 x.2.1 x.2.2.1) (aqi x.1 x.2.1 x.2.2.1 hc.1.1 hc.1.2 hc.2.1 hc.2.2)
noncomputable abbrev ayi:Nat × Bool × (List AV→M AV):=(87,true,dc (aC cb (aC bg (aC an a0))) Fc)
noncomputable def Ag (w:bd) (z:ba) (s:bh):Int:=
 if (ke z s.owner).isSome=false then 0
 else if (s.type.toNat:Int)=2 then (if Ji w z s=true then 305 else 0)
 else match mr w s.owner s.type with
  |none=>305
  |some t=>if ry s t=true then 0 else 305
noncomputable def As (w:bd) (z:ba):List bh→Int
 | []=>0
 |s::r=>if Ag w z s≠0 then Ag w z s else As w z r
noncomputable def Cu (w:bd):Int:=tz (fun z=>As w z z.aj) w.ay
theorem at2 {w:bd} {z:ba} {l:List bh} {i:Nat} {c:bh} (h:l.drop i=c::l.drop (i+1)):As w z (l.drop i)=if Ag w z c≠0 then Ag w z c else As w z (l.drop (i+1)):=by rw [h];rfl
def E0 (w:bd):Prop:=∀ z ∈ w.ay,∀ s ∈ z.aj,(s.type.toNat:Int)=2→Ns s
set_option maxHeartbeats 4000000 in
theorem ax6 (w:bd) (hw:cr w) (hn:E0 w):wl PP [avx,ayi,Uk,acu] 0 (Tryz.f47.body.getD .skip) (dp PP Tryz.f47.results.toList (fun r st=>(r1 (au .i64)).get true st.h r=some (Cu w))) (ca 0 [cb.val false w]) (br []):=by
 have hl:=hw.z7
 unfold Tryz.f47
 simp only [en]
 simp only [↓wR,RA,simprocAttr,TF,ae]
 refine dh [1,13,14,15] (fun (i:Nat)=>[.ptr 0 0,.vl false 2 (w.ay.map (bg.val false)),.sc (.int .i64 (w.ay.length)),.sc (.int .i64 (i))]) (fun _=>[some (.row [.vl false 2 (w.ay.map (bg.val false)),.vl false 2 (w.dn.map (dy.val false)),.vl false 1 (w.hints.map (bn.val false))] 0 2 100)]) (fun i=>i≤w.ay.length∧Cu w=tz (fun z=>As w z z.aj) (w.ay.drop i)) (fun i=>w.ay.length - i) 0 ⟨Nat.zero_le _,rfl⟩ (by simp only [↓wR,RA,simprocAttr,TF,ae]<;>rfl) (by simp only [↓wR,RA,simprocAttr,TF,ae]<;>rfl) ?_
 rintro i ⟨hi,hx⟩
 simp only [↓wR,RA,simprocAttr,TF,ae]
 rw [bj];refine ⟨fun h=>?_,fun h=>?_⟩
 ·obtain ⟨z,hz,hd1,hlt⟩:=dw (decide_eq_true h)
  rw [M8 _ hd1] at hx
  have hzm:=List.mem_of_getElem? hz
  have hzs:=hw.zone z hzm
  have hzl:=hzs.len
  simp only [↓wR,RA,simprocAttr,TF,ae,h,hz]
  refine dh [1,4,13,14,15,20,21,22] (fun (k:Nat)=>[.ptr 0 0,.ptr 1 0,.vl false 2 (w.ay.map (bg.val false)),.sc (.int .i64 (w.ay.length)),.sc (.int .i64 (i)),.vl false 5 (z.aj.map (an.val false)),.sc (.int .i64 (z.aj.length)),.sc (.int .i64 (k))]) (fun _=>[some (.row [.vl false 2 (w.ay.map (bg.val false)),.vl false 2 (w.dn.map (dy.val false)),.vl false 1 (w.hints.map (bn.val false))] 0 2 100),some (.row [.vl false 1 (z.origin.map (aq.val false)),.vl false 5 (z.aj.map (an.val false))] 0 2 26)]) (fun k=>k≤z.aj.length∧As w z z.aj=As w z (z.aj.drop k)) (fun k=>z.aj.length - k) 0 ⟨Nat.zero_le _,rfl⟩ (by simp only [↓wR,RA,simprocAttr,TF,ae]<;>rfl) (by simp only [↓wR,RA,simprocAttr,TF,ae]<;>rfl) ?_
  rintro k ⟨hk,hy⟩
  simp only [↓wR,RA,simprocAttr,TF,ae]
  rw [bj];refine ⟨fun h2=>?_,fun h2=>?_⟩
  ·obtain ⟨s,hs,hd2,hlt2⟩:=dw (decide_eq_true h2)
   rw [at2 hd2] at hy
   have hsm:=List.mem_of_getElem? hs
   have hss:=hzs.set s hsm
   have go0:Ag w z s=0→As w z z.aj=As w z (z.aj.drop (k+1)):=fun q=>by rw [hy,if_neg (fun e=>e q)]
   have go5:Ag w z s=305→Cu w=305:=fun q=>by rw [q,if_pos (by decide)] at hy;rw [hx,hy,if_pos (by decide)]
   simp only [↓wR,RA,simprocAttr,TF,ae,h2,hs,D9,hzs,hss.owner]
   rw [bm];refine ⟨fun h3=>?_,fun h3=>?_⟩
   ·have h3':(ke z s.owner).isSome=false:=by simpa only [Bool.not_eq_true'] using h3
    have e0:=go0 (by unfold Ag;rw [if_pos h3'])
    simp only [↓wR,RA,simprocAttr,TF,ae,h3];repeat (simp (disch:=omega) only [ah,b9,bu,bw,bz];try simp only [↓wR,RA,simprocAttr,TF,ae,h3])
    exact ⟨k+1,⟨hlt2,e0⟩,by omega,by (first|rfl|trivial|omega|((try (simp (disch:=omega) only [ah]));(try (simp only [FB]));first|done|rfl|omega))⟩
   have h3':(ke z s.owner).isSome=true:=by simpa only [Bool.not_eq_false'] using h3
   simp only [↓wR,RA,simprocAttr,TF,ae,h3]
   rw [cz];refine ⟨fun ⟨h4,e4⟩=>?_,fun ⟨h4,e4⟩=>?_⟩
   ·have hnm:=hn z hzm s hsm e4
    simp only [↓wR,RA,simprocAttr,TF,ae,h4,Fc,hw,hzs,hss,hnm]
    rw [bm];refine ⟨fun h5=>?_,fun h5=>?_⟩
    ·have e0:=go5 (by unfold Ag;rw [if_neg (by rw [h3'];decide),if_pos e4,if_pos h5])
     simp only [↓wR,RA,simprocAttr,TF,ae,h5]
     rw [e0]
    ·have e0:=go0 (by unfold Ag;rw [if_neg (by rw [h3'];decide),if_pos e4,if_neg (by rw [h5];decide)])
     simp only [↓wR,RA,simprocAttr,TF,ae,h5];repeat (simp (disch:=omega) only [ah,b9,bu,bw,bz];try simp only [↓wR,RA,simprocAttr,TF,ae,h5])
     exact ⟨k+1,⟨hlt2,e0⟩,by omega,by (first|rfl|trivial|omega|((try (simp (disch:=omega) only [ah]));(try (simp only [FB]));first|done|rfl|omega))⟩
   have hg:Ag w z s=match mr w s.owner s.type with|none=>305|some t=>if ry s t=true then 0 else 305:=by unfold Ag;rw [if_neg (by rw [h3'];decide),if_neg e4]
   have htr:=Lc hw s.owner s.type
   simp only [↓wR,RA,simprocAttr,TF,ae,h4,Df,hw,hss.owner]
   cases ht:mr w s.owner s.type with
   |none=>
    rw [ht] at hg
    have e0:=go5 hg
    simp only [↓wR,RA,simprocAttr,TF,ae,Option.isSome_none]
    rw [e0]
   |some t=>
    rw [ht] at hg htr
    have hts:dr t:=by unfold dr;show my ((some t).getD m5)≤16777216;omega
    simp only [↓wR,RA,simprocAttr,TF,ae,Option.isSome_some,Option.getD_some,z0,hss,hts]
    rw [bm];refine ⟨fun h6=>?_,fun h6=>?_⟩
    ·have h6':ry s t=false:=by simpa only [Bool.not_eq_true'] using h6
     have e0:=go5 (by rw [hg];simp only;rw [h6',if_neg (by decide)])
     simp only [↓wR,RA,simprocAttr,TF,ae,h6]
     rw [e0]
    ·have h6':ry s t=true:=by simpa only [Bool.not_eq_false'] using h6
     have e0:=go0 (by rw [hg];simp only;rw [if_pos h6'])
     simp only [↓wR,RA,simprocAttr,TF,ae,h6];repeat (simp (disch:=omega) only [ah,b9,bu,bw,bz];try simp only [↓wR,RA,simprocAttr,TF,ae,h6])
     exact ⟨k+1,⟨hlt2,e0⟩,by omega,by (first|rfl|trivial|omega|((try (simp (disch:=omega) only [ah]));(try (simp only [FB]));first|done|rfl|omega))⟩
  ·rw [dz (decide_eq_false h2),As] at hy
   rw [hy,if_neg (by decide)] at hx
   simp only [↓wR,RA,simprocAttr,TF,ae,h2];repeat (simp (disch:=omega) only [ah,b9,bu,bw,bz];try simp only [↓wR,RA,simprocAttr,TF,ae,h2])
   exact ⟨i+1,⟨hlt,hx⟩,by omega,by (first|rfl|trivial|omega|((try (simp (disch:=omega) only [ah]));(try (simp only [FB]));first|done|rfl|omega))⟩
 ·rw [dz (decide_eq_false h)] at hx
  simp only [↓wR,RA,simprocAttr,TF,ae,h]
  rw [hx]<;>rfl
instance (w:bd):Decidable (E0 w):=inferInstanceAs (Decidable (∀ z ∈ w.ay,∀ s ∈ z.aj,(s.type.toNat:Int)=2→Ns s))
noncomputable def Pg (x:bd × Unit):Option AV:=if cr x.1∧E0 x.1 then some ((r1 (au .i64)).E true (Cu x.1)) else none
set_option maxRecDepth 2000000 in
theorem aod (x:bd × Unit) (r:AV) (h:Pg x=some r):be PP 47 ((aC cb a0).E x) r:=by
 by_cases hc:cr x.1∧E0 x.1
 case neg=>simp only [Pg,if_neg hc] at h;cases h
 simp only [Pg,if_pos hc] at h
 cases h
 exact bb (ak.cons (ai Mi) (ak.cons (ai afw) (ak.cons (ai D8) (ak.cons (ai Ig) (ak.nil PP))))) Tryz.func47 (by kernel_rfl) (by kernel_rfl) (by kernel_rfl) (Nat.le_of_ble_eq_true (by kernel_rfl)) (r1 (au .i64)) true (Cu x.1) (ax6 x.1 hc.1 hc.2)
noncomputable abbrev aDi:Nat × Bool × (List AV→M AV):=(47,true,dc (aC cb a0) Pg)
noncomputable def Ko (w:bd) (z:ba) (i:Nat):Int:=
 if ((qy z).all fun n=>(mr w n 1).isSome)=true then (if ((oe w z).all fun a=>p9 w a (i:Int))=true then 0 else 306) else 306
noncomputable def K7 (w:bd):List ba→Nat→Int
 | [],_=>0
 |z::r,i=>if Ko w z i≠0 then 306 else K7 w r (i+1)
noncomputable def Cr (w:bd):Int:=K7 w w.ay 0
theorem atu {w:bd} {l:List ba} {i:Nat} {c:ba} (k:Nat) (h:l.drop i=c::l.drop (i+1)):K7 w (l.drop i) k=if Ko w c k≠0 then 306 else K7 w (l.drop (i+1)) (k+1):=by rw [h];rfl
theorem aiz {w:bd} (hw:cr w) {z:ba} (hz:vy z≤5242880):(oe w z).length≤140737488355328:=by
 have h1:∀ (l:List db) (acc:List UInt32),(l.foldl z6 acc).length≤acc.length+l.length:=by
  intro l
  induction l with
  |nil=>intro acc;exact Nat.le_refl _
  |cons d l ih=>
   intro acc
   have:=ih (z6 acc d)
   have h2:(z6 acc d).length≤acc.length+1:=by unfold z6;split<;>simp
   rw [List.foldl_cons,List.length_cons];omega
 have h2:∀ (l:List Name) (acc:List UInt32),((l.foldl (K0 w) acc).length:Int)≤(acc.length:Int)+(l.length:Int) * 5242880:=by
  intro l
  induction l with
  |nil=>intro acc;simp
  |cons n l ih=>
   intro acc
   have h3:=ih (K0 w acc n)
   have h4:=h1 ((mr w n 1).getD m5).data acc
   have h5:=Lc hw n 1
   have h6:=rm uh ((mr w n 1).getD m5).data
   unfold my at h5
   have h7:(K0 w acc n).length≤acc.length+5242880:=by unfold K0;omega
   rw [List.foldl_cons,List.length_cons]
   have h8:((l.length+1:Nat):Int)=(l.length:Int)+1:=by omega
   rw [h8];omega
 have h3:=h2 (qy z) []
 have h4:=(Jz hz).1
 unfold oe
 simp only [List.length_nil] at h3
 omega
theorem aim {w:bd} {k:Nat} {z:ba} (h:w.ay[k]? = some z):zf w (k:Int)=oe w z:=by unfold zf;rw [mu,h]
set_option maxHeartbeats 4000000 in
theorem ai6 (w:bd) (hw:cr w):wl PP [aot,Uk,aFx,al2] 0 (Tryz.f48.body.getD .skip) (dp PP Tryz.f48.results.toList (fun r st=>(r1 (au .i64)).get true st.h r=some (Cr w))) (ca 0 [cb.val false w]) (br []):=by
 have hl:=hw.z7
 unfold Tryz.f48
 simp only [en]
 simp only [↓wR,RA,simprocAttr,TF,ae]
 refine dh [1,13,14,15] (fun (i:Nat)=>[.ptr 0 0,.vl false 2 (w.ay.map (bg.val false)),.sc (.int .i64 (w.ay.length)),.sc (.int .i64 (i))]) (fun _=>[some (.row [.vl false 2 (w.ay.map (bg.val false)),.vl false 2 (w.dn.map (dy.val false)),.vl false 1 (w.hints.map (bn.val false))] 0 2 100)]) (fun i=>i≤w.ay.length∧Cr w=K7 w (w.ay.drop i) i) (fun i=>w.ay.length - i) 0 ⟨Nat.zero_le _,rfl⟩ (by simp only [↓wR,RA,simprocAttr,TF,ae]<;>rfl) (by simp only [↓wR,RA,simprocAttr,TF,ae]<;>rfl) ?_
 rintro i ⟨hi,hx⟩
 simp only [↓wR,RA,simprocAttr,TF,ae]
 rw [bj];refine ⟨fun h=>?_,fun h=>?_⟩
 ·obtain ⟨z,hz,hd1,hlt⟩:=dw (decide_eq_true h)
  rw [atu i hd1] at hx
  have hzm:=List.mem_of_getElem? hz
  have hzs:=hw.zone z hzm
  obtain ⟨hnl,hns⟩:=Jz (hw.wt z hzm)
  have hsl:=aiz hw (hw.wt z hzm)
  have hsome:(ot w (i:Int)).isSome=true:=by rw [mu,hz];rfl
  have hsv:=aim hz
  have bad:Ko w z i=306→Cr w=306:=fun q=>by rw [hx,q,if_pos (by decide)]
  simp only [↓wR,RA,simprocAttr,TF,ae,h,hz,Jv,hzs]
  refine dh [1,3,13,14,15,21,22,23] (fun (k:Nat)=>[.ptr 0 0,.sc (.int .i64 (i)),.vl false 2 (w.ay.map (bg.val false)),.sc (.int .i64 (w.ay.length)),.sc (.int .i64 (i)),.vl true 1 ((qy z).map (ar.val true)),.sc (.int .i64 ((qy z).length)),.sc (.int .i64 (k))]) (fun _=>[some (.row [.vl false 2 (w.ay.map (bg.val false)),.vl false 2 (w.dn.map (dy.val false)),.vl false 1 (w.hints.map (bn.val false))] 0 2 100)]) (fun k=>k≤(qy z).length∧((qy z).all fun n=>(mr w n 1).isSome)=(((qy z).drop k).all fun n=>(mr w n 1).isSome)) (fun k=>(qy z).length - k) 0 ⟨Nat.zero_le _,rfl⟩ (by simp only [↓wR,RA,simprocAttr,TF,ae]<;>rfl) (by simp only [↓wR,RA,simprocAttr,TF,ae]<;>rfl) ?_
  rintro k ⟨hk,hy⟩
  simp only [↓wR,RA,simprocAttr,TF,ae]
  rw [bj];refine ⟨fun h2=>?_,fun h2=>?_⟩
  ·obtain ⟨n,hn,hd2,hlt2⟩:=dw (decide_eq_true h2)
   rw [hd2,List.all_cons] at hy
   simp only [↓wR,RA,simprocAttr,TF,ae,h2,hn,J9,Df,hw,hns n (List.mem_of_getElem? hn)]
   rw [bm];refine ⟨fun h3=>?_,fun h3=>?_⟩
   ·have h3':(mr w n 1).isSome=false:=by simpa only [Bool.not_eq_true'] using h3
    rw [h3',Bool.false_and] at hy
    have e0:=bad (by unfold Ko;rw [hy,if_neg (by decide)])
    simp only [↓wR,RA,simprocAttr,TF,ae,h3]
    rw [e0]
   ·have h3':(mr w n 1).isSome=true:=by simpa only [Bool.not_eq_false'] using h3
    rw [h3',Bool.true_and] at hy
    simp only [↓wR,RA,simprocAttr,TF,ae,h3];repeat (simp (disch:=omega) only [ah,b9,bu,bw,bz];try simp only [↓wR,RA,simprocAttr,TF,ae,h3])
    exact ⟨k+1,⟨hlt2,hy⟩,by omega,by (first|rfl|trivial|omega|((try (simp (disch:=omega) only [ah]));(try (simp only [FB]));first|done|rfl|omega))⟩
  rw [dz (decide_eq_false h2),List.all_nil] at hy
  simp only [↓wR,RA,simprocAttr,TF,ae,h2,Vp,hw,hsome,hsv]
  refine dh [1,3,13,14,15,40,41,42] (fun (k:Nat)=>[.ptr 0 0,.sc (.int .i64 (i)),.vl false 2 (w.ay.map (bg.val false)),.sc (.int .i64 (w.ay.length)),.sc (.int .i64 (i)),.vl true 1 ((oe w z).map (bn.val true)),.sc (.int .i64 ((oe w z).length)),.sc (.int .i64 (k))]) (fun _=>[some (.row [.vl false 2 (w.ay.map (bg.val false)),.vl false 2 (w.dn.map (dy.val false)),.vl false 1 (w.hints.map (bn.val false))] 0 2 100)]) (fun k=>k≤(oe w z).length∧((oe w z).all fun a=>p9 w a (i:Int))=(((oe w z).drop k).all fun a=>p9 w a (i:Int))) (fun k=>(oe w z).length - k) 0 ⟨Nat.zero_le _,rfl⟩ (by simp only [↓wR,RA,simprocAttr,TF,ae]<;>rfl) (by simp only [↓wR,RA,simprocAttr,TF,ae]<;>rfl) ?_
  rintro k ⟨hk,hu⟩
  simp only [↓wR,RA,simprocAttr,TF,ae]
  rw [bj];refine ⟨fun h4=>?_,fun h4=>?_⟩
  ·obtain ⟨a,ha,hd3,hlt3⟩:=dw (decide_eq_true h4)
   rw [hd3,List.all_cons] at hu
   simp only [↓wR,RA,simprocAttr,TF,ae,h4,ha,B4,hw]
   rw [bm];refine ⟨fun h5=>?_,fun h5=>?_⟩
   ·have h5':p9 w a (i:Int)=false:=by simpa only [Bool.not_eq_true'] using h5
    rw [h5',Bool.false_and] at hu
    have e0:=bad (by unfold Ko;rw [if_pos hy,hu,if_neg (by decide)])
    simp only [↓wR,RA,simprocAttr,TF,ae,h5]
    rw [e0]
   ·have h5':p9 w a (i:Int)=true:=by simpa only [Bool.not_eq_false'] using h5
    rw [h5',Bool.true_and] at hu
    simp only [↓wR,RA,simprocAttr,TF,ae,h5];repeat (simp (disch:=omega) only [ah,b9,bu,bw,bz];try simp only [↓wR,RA,simprocAttr,TF,ae,h5])
    exact ⟨k+1,⟨hlt3,hu⟩,by omega,by (first|rfl|trivial|omega|((try (simp (disch:=omega) only [ah]));(try (simp only [FB]));first|done|rfl|omega))⟩
  ·rw [dz (decide_eq_false h4),List.all_nil] at hu
   have e0:Ko w z i=0:=by unfold Ko;rw [if_pos hy,if_pos hu]
   rw [e0,if_neg (by decide)] at hx
   simp only [↓wR,RA,simprocAttr,TF,ae,h4];repeat (simp (disch:=omega) only [ah,b9,bu,bw,bz];try simp only [↓wR,RA,simprocAttr,TF,ae,h4])
   exact ⟨i+1,⟨hlt,hx⟩,by omega,by (first|rfl|trivial|omega|((try (simp (disch:=omega) only [ah]));(try (simp only [FB]));first|done|rfl|omega))⟩
 ·rw [dz (decide_eq_false h)] at hx
  simp only [↓wR,RA,simprocAttr,TF,ae,h]
  rw [hx]<;>rfl
noncomputable def Np (x:bd × Unit):Option AV:=if cr x.1 then some ((r1 (au .i64)).E true (Cr x.1)) else none
set_option maxRecDepth 2000000 in
theorem amq (x:bd × Unit) (r:AV) (h:Np x=some r):be PP 48 ((aC cb a0).E x) r:=by
 by_cases hc:cr x.1
 case neg=>simp only [Np,if_neg hc] at h;cases h
 simp only [Np,if_pos hc] at h
 cases h
 exact bb (ak.cons (ai Wr) (ak.cons (ai D8) (ak.cons (ai ar1) (ak.cons (ai Nu) (ak.nil PP))))) Tryz.func48 (by kernel_rfl) (by kernel_rfl) (by kernel_rfl) (Nat.le_of_ble_eq_true (by kernel_rfl)) (r1 (au .i64)) true (Cr x.1) (ai6 x.1 hc)
noncomputable abbrev aC6:Nat × Bool × (List AV→M AV):=(48,true,dc (aC cb a0) Np)
def C9 (w:bd):Int:=if (w.hints.all fun a=>p9 w a (lr w []))=true then (if (w.hints.length:Int)=0 then 307 else 0) else 307
theorem awg (w:bd) (hw:cr w):wl PP [Ur,al2] 0 (Tryz.f49.body.getD .skip) (dp PP Tryz.f49.results.toList (fun r st=>(r1 (au .i64)).get true st.h r=some (C9 w))) (ca 0 [cb.val false w]) (br []):=by
 have hl:=hw.aFr
 have h0:bc []:=by decide
 unfold Tryz.f49
 simp only [en]
 simp only [↓wR,RA,simprocAttr,TF,ae,zp,hw,h0]
 refine dh [1,3,11,12,13] (fun (i:Nat)=>[.ptr 0 0,.sc (.int .i64 (lr w [])),.vl false 1 (w.hints.map (bn.val false)),.sc (.int .i64 (w.hints.length)),.sc (.int .i64 (i))]) (fun _=>[some (.row [.vl false 2 (w.ay.map (bg.val false)),.vl false 2 (w.dn.map (dy.val false)),.vl false 1 (w.hints.map (bn.val false))] 0 2 100)]) (fun i=>i≤w.hints.length∧(w.hints.all fun a=>p9 w a (lr w []))=((w.hints.drop i).all fun a=>p9 w a (lr w []))) (fun i=>w.hints.length - i) 0 ⟨Nat.zero_le _,rfl⟩ (by simp only [↓wR,RA,simprocAttr,TF,ae]<;>rfl) (by simp only [↓wR,RA,simprocAttr,TF,ae]<;>rfl) ?_
 rintro i ⟨hi,hx⟩
 simp only [↓wR,RA,simprocAttr,TF,ae]
 unfold C9
 rw [bj];refine ⟨fun h=>?_,fun h=>?_⟩
 ·obtain ⟨a,ha,hd1,hlt⟩:=dw (decide_eq_true h)
  rw [hd1,List.all_cons] at hx
  simp only [↓wR,RA,simprocAttr,TF,ae,h,ha,B4,hw]
  rw [bm];refine ⟨fun h5=>?_,fun h5=>?_⟩
  ·have h5':p9 w a (lr w [])=false:=by simpa only [Bool.not_eq_true'] using h5
   rw [h5',Bool.false_and] at hx
   rw [hx,if_neg (by decide)]
   simp only [↓wR,RA,simprocAttr,TF,ae,h5]
  ·have h5':p9 w a (lr w [])=true:=by simpa only [Bool.not_eq_false'] using h5
   rw [h5',Bool.true_and] at hx
   simp only [↓wR,RA,simprocAttr,TF,ae,h5];repeat (simp (disch:=omega) only [ah,b9,bu,bw,bz];try simp only [↓wR,RA,simprocAttr,TF,ae,h5])
   exact ⟨i+1,⟨hlt,hx⟩,by omega,by (first|rfl|trivial|omega|((try (simp (disch:=omega) only [ah]));(try (simp only [FB]));first|done|rfl|omega))⟩
 ·rw [dz (decide_eq_false h),List.all_nil] at hx
  rw [if_pos hx]
  simp only [↓wR,RA,simprocAttr,TF,ae,h]
  rw [cz];refine ⟨fun ⟨h2,e2⟩=>?_,fun ⟨h2,e2⟩=>?_⟩
  ·rw [if_pos e2]
   simp only [↓wR,RA,simprocAttr,TF,ae,h2]
  ·rw [if_neg e2]
   simp only [↓wR,RA,simprocAttr,TF,ae,h2]
noncomputable def Iz (x:bd × Unit):Option AV:=if cr x.1 then some ((r1 (au .i64)).E true (C9 x.1)) else none
set_option maxRecDepth 2000000 in
theorem aia (x:bd × Unit) (r:AV) (h:Iz x=some r):be PP 49 ((aC cb a0).E x) r:=by
 by_cases hc:cr x.1
 case neg=>simp only [Iz,if_neg hc] at h;cases h
 simp only [Iz,if_pos hc] at h
 cases h
 exact bb (ak.cons (ai C5) (ak.cons (ai Nu) (ak.nil PP))) Tryz.func49 (by kernel_rfl) (by kernel_rfl) (by kernel_rfl) (Nat.le_of_ble_eq_true (by kernel_rfl)) (r1 (au .i64)) true (C9 x.1) (awg x.1 hc)
noncomputable abbrev aAh:Nat × Bool × (List AV→M AV):=(49,true,dc (aC cb a0) Iz)
end Go.Proofs.YtajammoepjpiiaaGreat
end
namespace Go.Vm
noncomputable section
inductive Cb:bf→bf→Prop
 |rfl (x:bf):Cb x x
 |perm (es es':List (Value × AV)) (h:es.Perm es') (hl:loose es=true):Cb (.map es) (.map es')
theorem Cb.ghost {x y} (hs:Cb x y) (h:Bl y):Bl x:=by
 cases hs with
 |rfl=>exact h
 |perm es es' hp hl=>obtain ⟨s,e,he⟩:=h;cases he
theorem Cb.obj {g w b base x y} (hs:Cb x y) (h:nv g w b base y):nv g w b base x:=by
 cases hs with
 |rfl=>exact h
 |perm es es' hp hl=>
  obtain ⟨h0,ms,clock,h1,h2,h3,h4,l,h5,h6,h7⟩:=h
  refine ⟨h0,ms,clock,h1,by rw [h2,hp.length_eq],h3,h4,?_⟩
  have hlen:l.length=es'.length:=by rw [h5.length_eq,← h2];simp
  have key:∀ (k k':List (Value × AV)),k.Perm k'→∀ l':List MapEntry,l'.length=k'.length→(∀ (i:Nat) e m,k'[i]? = some e→l'[i]? = some m→m.key=e.1∧Rel g w e.2 m.val) →
   ∃ l:List MapEntry,l.Perm l'∧l.length=k.length∧(∀ (i:Nat) e m,k[i]? = some e→l[i]? = some m→m.key=e.1∧Rel g w e.2 m.val):=by
   intro k k' hp
   induction hp with
   |nil=>intro l' hl' hr;exact ⟨l',.refl _,hl',hr⟩
   |cons a _ ih=>
    intro l' hl' hr
    cases l' with
    |nil=>simp at hl'
    |cons m l'=>
     obtain ⟨l,q1,q2,q3⟩:=ih l' (by simpa using hl') (fun i e m' he hm=>hr (i+1) e m' (by simpa using he) (by simpa using hm))
     refine ⟨m::l,q1.cons m,by simp [q2],fun i e m' he hm=>?_⟩
     cases i with
     |zero=>exact hr 0 e m' (by simpa using he) (by simpa using hm)
     |succ i=>exact q3 i e m' (by simpa using he) (by simpa using hm)
   |swap a b k=>
    intro l' hl' hr
    match l',hl' with
    |m::n::l',hl'=>
     refine ⟨n::m::l',List.Perm.swap _ _ _,by simpa using hl',fun i e m' he hm=>?_⟩
     match i with
     |0=>exact hr 1 e m' (by simpa using he) (by simpa using hm)
     |1=>exact hr 0 e m' (by simpa using he) (by simpa using hm)
     |i+2=>exact hr (i+2) e m' (by simpa using he) (by simpa using hm)
   |trans _ _ ih1 ih2=>
    intro l' hl' hr
    obtain ⟨l2,q1,q2,q3⟩:=ih2 l' hl' hr
    obtain ⟨l1,p1,p2,p3⟩:=ih1 l2 q2 q3
    exact ⟨l1,p1.trans q1,p2,p3⟩
  obtain ⟨l2,q1,_,q3⟩:=key es es' hp l hlen h6
  exact ⟨l2,q1.trans h5,q3,.inr hl⟩
theorem Ok.ae0 {g h h' w} (hok:Ok g h' w) (hs:∀ o x,h.get o=some x→∃ y,h'.get o=some y∧Cb x y):Ok g h w:=by
 refine ⟨hok.size,fun o x hx=>?_,fun o o' x x' b base base' hne hx hx'=>?_,hok.K⟩
 ·obtain ⟨y,h1,h2⟩:=hs o x hx
  refine (hok.nn o y h1).imp (fun q=>⟨q.1,h2.ghost q.2⟩) ?_
  rintro ⟨b,base,q1,q2,q3⟩
  exact ⟨b,base,q1,q2,h2.obj q3⟩
 ·obtain ⟨y,h1,_⟩:=hs o x hx
  obtain ⟨y',h1',_⟩:=hs o' x' hx'
  exact hok.sep o o' y y' b base base' hne h1 h1'
theorem abk {h h':Tr bf} (hs:∀ o x,h.get o=some x→∃ y,h'.get o=some y∧Cb x y) {o:Nat} (ho:(h.get o).isSome=true):(h'.get o).isSome=true:=by
 obtain ⟨x,hx⟩:=Option.isSome_iff_exists.1 ho
 obtain ⟨y,h1,_⟩:=hs o x hx
 rw [h1];rfl
structure Lit where
 i:Nat
 d:TypeDesc
 e:Value × AV
def qt (lits:List Lit) (D:Nat→Bool):List (Value × AV):=(lits.filter fun q=>D q.i).map (·.e)
structure ahd (lits:List Lit):Prop where
 idx:(lits.map (·.i)).Nodup
 apart:∀ q ∈ lits,∀ r ∈ lits,q.i≠r.i→od q.e.1 r.e.1=true∧Instr.sameNow q.d q.e.1 r.e.1=some false
theorem afy {lits:List Lit} {D:Nat→Bool} {e:Value × AV} (h:e ∈ qt lits D):∃ q ∈ lits,D q.i=true∧q.e=e:=by
 simp only [qt,List.mem_map,List.mem_filter] at h
 obtain ⟨q,⟨h1,h2⟩,h3⟩:=h
 exact ⟨q,h1,h2,h3⟩
theorem Rh {D:Nat→Bool}:∀ {lits:List Lit},ahd lits→pn (qt lits D)=true
 | [],_=>rfl
 |q::l,h=>by
  have hl:ahd l:=⟨by have:=h.idx;rw [List.map_cons,List.nodup_cons] at this;exact this.2,fun a ha b hb=>h.apart a (by simp [ha]) b (by simp [hb])⟩
  have ih:=Rh (D:=D) hl
  unfold qt at ih ⊢
  rw [List.filter_cons]
  split
  ·simp only [List.map_cons,pn,Bool.and_eq_true,List.all_eq_true]
   refine ⟨fun x hx=>?_,ih⟩
   obtain ⟨r,h1,_,rfl⟩:=afy (D:=D) hx
   refine (h.apart q (by simp) r (by simp [h1]) (fun e=>?_)).1
   have:=h.idx
   rw [List.map_cons,List.nodup_cons] at this
   exact this.1 (by rw [e];exact List.mem_map_of_mem h1)
  ·exact ih
theorem at0 {lits:List Lit} (h:(lits.map (·.i)).Nodup) {D:Nat→Bool} {q:Lit} (hq:q ∈ lits) (hD:D q.i=false):(qt lits (kq D q.i)).Perm (qt lits D++[q.e]):=by
 induction lits with
 |nil=>cases hq
 |cons a l ih=>
  rw [List.map_cons,List.nodup_cons] at h
  unfold qt at ih ⊢
  rcases List.mem_cons.1 hq with rfl|hq
  ·rw [List.filter_cons_of_pos (by simp [kq]),List.filter_cons_of_neg (by simp [hD])]
   have:l.filter (fun r=>kq D q.i r.i)=l.filter (fun r=>D r.i):=by
    refine List.filter_congr fun r hr=>?_
    have:r.i≠q.i:=fun e=>h.1 (by rw [← e];exact List.mem_map_of_mem hr)
    simp [kq,this]
   rw [this,List.map_cons]
   exact (List.perm_append_singleton _ _).symm
  ·have hne:a.i≠q.i:=fun e=>h.1 (by rw [e];exact List.mem_map_of_mem hq)
   have hu:kq D q.i a.i=D a.i:=by simp [kq,hne]
   cases hb:D a.i with
   |true=>
    rw [List.filter_cons_of_pos (by rw [hu,hb]),List.filter_cons_of_pos (by rw [hb])]
    exact (ih h.2 hq).cons _
   |false=>
    rw [List.filter_cons_of_neg (by rw [hu,hb];simp),List.filter_cons_of_neg (by rw [hb];simp)]
    exact ih h.2 hq
theorem amn {lits:List Lit} {D:Nat→Bool} {i:Nat} (h:∀ q ∈ lits,q.i≠i):qt lits (kq D i)=qt lits D:=by
 unfold qt
 congr 1
 exact List.filter_congr fun q hq=>by simp [kq,h q hq]
theorem aqr {lits:List Lit} {D:Nat→Bool} (h:∀ q ∈ lits,D q.i=false):qt lits D=[]:=by
 unfold qt
 rw [List.filter_eq_nil_iff.2 (fun q hq=>by simp [h q hq])]
 rfl
theorem auo {lits:List Lit} {D:Nat→Bool} (h:∀ q ∈ lits,D q.i=true):qt lits D=lits.map (·.e):=by
 unfold qt
 rw [List.filter_eq_self.2 (fun q hq=>h q hq)]
theorem Nv (d:TypeDesc) (k:Value):∀ (l:List MapEntry) (i:Nat),(∀ m ∈ l,Instr.sameNow d k m.key=some false)→Instr.findNow d k l i=some none
 | [],_,_=>rfl
 |m::l,i,h=>by
  rw [Instr.findNow,h m (by simp)]
  exact Nv d k l (i+1) (fun m hm=>h m (by simp [hm]))
theorem Wm {P:Program} {kt:TypeId} {d:TypeDesc} {k:Value} {es:List (Value × AV)} (hu:P.underlying kt=some d) (h:∀ e ∈ es,Instr.sameNow d k e.1=some false):p0 P kt k es=some none:=by
 have hf:Instr.findNow d k (mj es) 0=some none:=Nv d k _ 0 (fun m hm=>by
  simp only [mj,List.mem_map] at hm
  obtain ⟨e,he,rfl⟩:=hm
  exact h e he)
 have hn:K3 P kt k es=true:=by unfold K3;rw [hu];simp only;rw [hf];rfl
 unfold p0
 rw [hn,Bool.or_true,cond_true]
 have hevu:ev P (underlying kt)=some d:=by
  simp [underlying,program,ev,hu,n7,we,Sem.bind,bind]
 have:ev P (Instr.findKey kt k (mj es))=some none:=by
  unfold Instr.findKey
  rw [n7,hevu]
  simp only [Option.bind_some]
  rw [hf];rfl
 rw [this];rfl
theorem Step.ae0 {g h w lo hi g' h' h'' w'} (s:Step g h w lo hi g' h' w') (hs:∀ o x,h''.get o=some x→∃ y,h'.get o=some y∧Cb x y):Step g h w lo hi g' h'' w':=
 ⟨s.ext,s.size,s.os,s.tape,s.output,s.frame,s.fresh,fun o b base ho hi=>s.own o b base (abk hs ho) hi,s.pz⟩
def vh (o:Oper):Bool:=match o.op with|.insert .. => true|_=>false
def wz (ops:Array Oper) (L:SL) (o:Oper):Option Bool:=bif vh o then some false else zb ops L o
def ao2 (P:Program) (T:ee) (ops:Array Oper) (E:List Rec→Prop):List Oper→(SL→St→Prop)→List Rec→SL→St→Prop
 | [],K=>fun recs L st=>E recs∧K L st
 |o::r,K=>fun recs L st=>(wz ops L o=some true∧U8 P T o recs (ao2 P T ops E r K) L st)∨(wz ops L o=some false∧ao2 P T ops E r K (recs++[⟨[],[]⟩]) (g9 o.dst (.sc undef) L) st)
theorem awe {P:Program} {T:ee} {ops:Array Oper} {E:List Rec→Prop} {K:SL→St→Prop}:∀ (l:List Oper) (L:SL) (st:St) (recs:List Rec),ao2 P T ops E l K recs L st →
 ∃ ds L' st',ds.map (·.o)=l∧(∀ d ∈ ds,DSRun P T d∧wz ops d.L d.o=some d.want)∧Qc ds L st L' st'∧E (recs++ds.map fun d=>⟨d.R,d.W⟩)∧K L' st':=by
 intro l
 induction l with
 |nil=>intro L st recs h;exact ⟨[],L,st,rfl,by simp,⟨rfl,rfl⟩,by simpa using h.1,h.2⟩
 |cons o l ih=>
  intro L st recs h
  rcases h with ⟨hb,F,W,v,bk,hop,h4,h5,h6,h7,h8⟩|⟨hb,h3⟩
  ·obtain ⟨ds,L',st',e1,e2,e3,e4,e5⟩:=ih _ _ _ h8
   have hle:=zi hop
   refine ⟨{ o,L,st,want:=true,v,bk,R:=F,W:=W++dx st.nx (bk.nx - st.nx) }::ds,L',st',by simp [e1],?_,⟨rfl,rfl,?_⟩,?_,e5⟩
   ·intro d hd
    rcases List.mem_cons.1 hd with rfl|hd
    ·refine ⟨⟨fun _=>⟨hop,h6,h7,fun q=>?_,fun q hq hn=>?_⟩,fun e=>by cases e⟩,hb⟩
     ·simp only [List.mem_append,jb]
      constructor
      ·rintro (hq|hq)
       ·exact .inl ⟨.inl hq,h4 q hq⟩
       ·exact .inr ⟨hq.1,by simp at hle;omega⟩
      ·rintro (hq|hq)
       ·exact hq.1
       ·exact .inr ⟨hq.1,by omega⟩
     ·have:=h5 q hq (fun hw=>hn (List.mem_append.2 (.inl hw)))
      rw [re _ _ _ (fun p hp=>by have:=h6 p hp;simp at hle;omega),if_pos hq] at this
      exact this
    ·exact e2 d hd
   ·exact e3
   ·simpa [List.append_assoc] using e4
  ·obtain ⟨ds,L',st',e1,e2,e3,e4,e5⟩:=ih _ _ _ h3
   refine ⟨{ o,L,st,want:=false,v:=.sc undef,bk:=st,R:=[],W:=[] }::ds,L',st',by simp [e1],?_,⟨rfl,rfl,?_⟩,?_,e5⟩
   ·intro d hd
    rcases List.mem_cons.1 hd with rfl|hd
    ·exact ⟨⟨(fun e=>by cases e),fun _=>⟨rfl,rfl,rfl,rfl⟩⟩,hb⟩
    ·exact e2 d hd
   ·exact e3
   ·simpa [List.append_assoc] using e4
theorem aug {P:Program} {T:ee} {ops:Array Oper} {ds:List DS} {L:SL} {st:St} {L':SL} {st':St} (hs:nf ops=true) (e1:ds.map (·.o)=ops.toList) (e2:∀ d ∈ ds,DSRun P T d) (e3:Qc ds L st L' st'):uy P T ops ds L st L' st':=by
 obtain ⟨c1,c2,c3,c4⟩:=ac4 e2 e3
 unfold nf at hs
 rw [Bool.and_eq_true] at hs
 refine ⟨e1,e2,c1,⟨c2,c3,c4⟩,fun i k x y t hik hx hy ht hdt=>?_,fun i o ho e he hb=>?_⟩
 ·have hxi:(x.o,i) ∈ ops.toList.zipIdx:=by
   rw [List.mem_zipIdx_iff_getElem?,← e1];simp [hx]
  have hyk:(y.o,k) ∈ ops.toList.zipIdx:=by
   rw [List.mem_zipIdx_iff_getElem?,← e1];simp [hy]
  have h1:=List.all_eq_true.1 hs.1 _ hxi
  have h2:=List.all_eq_true.1 h1 t ht
  have h3:=List.all_eq_true.1 h2 _ hyk
  simp only [hdt,Bool.or_eq_true] at h3
  rcases h3 with (h3|h3)|h3
  ·simp at h3
  ·simp at h3;omega
  ·rw [Nat.max_comm,Nat.min_comm];exact h3
 ·have hoi:(o,i) ∈ ops.toList.zipIdx:=by rw [List.mem_zipIdx_iff_getElem?];simpa using ho
  have h1:=List.all_eq_true.1 hs.2 _ hoi
  rw [Array.all_eq_true_iff_forall_mem] at h1
  have:=h1 e he
  rw [hb] at this
  simpa using this
theorem ayy {ops:Array Oper} {ds:List DS} (e4:fe (Region.before ops) 0 (ds.map fun d=>⟨d.R,d.W⟩)=true):Calm ops ds:=fun i k x y hik hx hy=>by
 have:=Hv _ 0 e4 i k ⟨x.R,x.W⟩ ⟨y.R,y.W⟩ hik (by simp [hx]) (by simp [hy])
 simp only [xp,Nat.zero_add,Bool.or_eq_true,Bool.and_eq_true] at this
 rcases this with h1|h1
 ·exact .inr ⟨h1.1.1,h1.1.2,h1.2⟩
 ·exact .inl h1
end
end Go.Vm
namespace Go.Vm
noncomputable section
theorem At.ins {H:(Nat→Bool)→Nat→Option bf} {P:Program} {T:ee} (hT:oz P T) {ops:Array Oper} {ds:List DS} {L0:SL} {g0:Gh} {st0:St} {w0:World} {df:List Deferred} {ro:Option Nat} {N:Nat} {nt:Nat} {L':SL} {st':St} (R:uy P T ops ds L0 st0 L' st')
 {D:Nat→Bool} {a:Act} {w:World} {i:Nat} {d:DS} (hi:ds[i]? = some d) (hD:D i=false) (hr:∀ e ∈ d.o.after,Region.binds .any e=true→D e.on=true) (A:At H ops ds L0 g0 st0 w0 df nt (jr ds st0.nx ds.length) D a w)
 {t:TypeId} {m k x:Operand} (hop:d.o.op = .insert t m k x) (hdst:d.o.dst=none) (hgd:d.o.guard=none) {p:Nat} {kt et:TypeId} {key:Value} (hu:P.underlying t=some (.map kt et)) (hm:cq d.o d.L m = .mp p) (hkey:(cq d.o d.L k).ft=some key)
 (hck:ev P (Instr.checkKey false 10000 kt key)=some ()) {es:List (Value × AV)} (hes:H D p=some (.map es)) (hlim:p≤cx) (hplt:p<jr ds st0.nx ds.length) (hfind:p0 P kt key es=some none) (hst:stays es (es++[(key,cq d.o d.L x)])=true)
 {es':List (Value × AV)} (hes':H (kq D i) p=some (.map es')) (hsame:Cb (.map es') (.map (es++[(key,cq d.o d.L x)]))) (hoth:∀ o,o≠p→H (kq D i) o=H D o)
 {Q:Exit→Act→World→Prop} {K:Act→World→Prop} (hK:∀ a' w',At H ops ds L0 g0 st0 w0 df nt (jr ds st0.nx ds.length) (kq D i) a' w'→K a' w'):wpOpIn (gv ro) N P ops Q i K a w:=by
 have ho:=R.get hi
 have hbef:=x0 A.closed ho hr
 have hcl:=A.closed.kq ho hr
 obtain ⟨a1,a2,a3,a4⟩:=R.w8 i d hi
 obtain ⟨g,h,h1,h2,h3,h4,h5⟩:=A.mem
 have slot:∀ t ∈ vp ops d.o,kj ds L0 D ds.length t=lk d.L t:=by
  intro t ht
  have hlt:i<ds.length:=(List.getElem?_eq_some_iff.1 hi).1
  have:=M2 (L0:=L0) (D:=D) (i:=i) (t:=t) (ds:=ds) (fun k e hk he=>?_) ds.length
  ·rw [this,a1 t];congr 1;omega
  ·rcases Nat.lt_trichotomy k i with hlt'|rfl|hgt
   ·have:=R.slots i k d e t (by omega) hi hk ht he
    rw [show max i k=i from by omega,show min i k=k from by omega] at this
    exact ⟨fun _=>hlt',fun _=>hbef k this⟩
   ·exact ⟨(fun q=>by rw [hD] at q;cases q),(fun q=>by omega)⟩
   ·have:=R.slots i k d e t (by omega) hi hk ht he
    rw [show max i k=k from by omega,show min i k=i from by omega] at this
    exact ⟨(fun q=>by have:=A.closed k i q this;rw [hD] at this;cases this),(fun q=>by omega)⟩
 have mono1:∀ i d,ds[i]? = some d→d.st.nx=jr ds st0.nx i∧d.st.nx≤d.bk.nx:=fun i d hd=>⟨(R.w8 i d hd).2.2.1,(R.w8 i d hd).2.2.2⟩
 have hp:∀ q ∈ [p],q≤cx:=fun q hq=>by rw [List.mem_singleton] at hq;subst hq;exact hlim
 have hmask:∀ o,(ko h [p]).get o=if o=p then h.get o else none:=fun o=>by rw [re _ _ _ hp];simp
 have hsub:∀ o x,(ko h [p]).get o=some x→h.get o=some x:=fun o x hx=>by
  rw [hmask] at hx
  by_cases e:o=p
  ·rw [if_pos e] at hx;exact hx
  ·rw [if_neg e] at hx;cases hx
 have hrel:n8 g w (cq d.o d.L) a.eval:=T6 fun t ⟨x,hx,e⟩=>by
  have hu:t ∈ vp ops d.o:=by
   simp only [vp,List.mem_append,List.mem_filterMap]
   exact .inl (.inr ⟨x,hx,by rw [e]⟩)
  rw [← slot t hu]
  exact h4 t
 have hgp:(ko h [p]).get p=some (.map es):=by rw [hmask,if_pos rfl,h1,hes]
 obtain ⟨bk,hst1⟩:∃ bk:St,bk = { h:=(ko h [p]).set depth p (some (.map (es++[(key,cq d.o d.L x)]))),nx:=jr ds st0.nx ds.length,rl:=[p],wl:=[p] }:=⟨_,rfl⟩
 have hrun:fo P T d.o (cq d.o d.L) { h:=ko h [p],nx:=jr ds st0.nx ds.length,rl:=[],wl:=[] }=some (.sc undef,bk):=by
  have h6:Dm P d.o (cq d.o d.L) { h:=ko h [p],nx:=jr ds st0.nx ds.length,rl:=[],wl:=[] }=some (.sc undef,bk):=by
   unfold Dm
   rw [hop]
   simp only [mz,hu,hm,hkey,M.bind,c8,hgp,q8,hck,hfind,hst,cond_true,jg,M.pure,hst1]
   rw [show Nat.ble p cx=true from Nat.ble_eq_true_of_le hlim]
   rfl
  have h7:fo P T d.o (cq d.o d.L)=mono (Dm P d.o (cq d.o d.L)):=by unfold fo;rw [hop]
  rw [h7,mono,h6]
  simp only
  rw [hst1]
  simp only
  rw [show Nat.ble (jr ds st0.nx ds.length) (jr ds st0.nx ds.length)=true from Nat.ble_eq_true_of_le (Nat.le_refl _)]
  rfl
 unfold wpOpIn
 rw [ho]
 dsimp only
 rw [if_pos (by simp [Region.wanted,hgd])]
 refine Gs hT (h2.part hsub) (fun o q1 q2=>by rw [hst1] at q2;exact absurd (Nat.lt_of_le_of_lt q1 q2) (Nat.lt_irrefl _)) (fun o x hx=>?_) hrel hrun ro N _ _ ?_
 ·have hx':(ko h [p]).get o=some x:=hx
  rw [hmask] at hx'
  by_cases e:o=p
  ·subst e;exact hplt
  ·rw [if_neg e] at hx';cases hx'
 rintro u w' ⟨g',q1,q2,q3⟩
 have hget1:∀ o,bk.h.get o=if o=p then some (.map (es++[(key,cq d.o d.L x)])) else none:=fun o=>by
  rw [hst1]
  simp only
  rw [fh _ _ _ _ hlim,hmask]
  by_cases e:o=p
  ·rw [if_pos e,if_pos e]
  ·rw [if_neg e,if_neg e,if_neg e]
 have hfs:=U6 (h':=ql bk.h [p] h) (S:=fun o=>o ∈ [p]) h2 hsub (fun o x hx=>by
  rw [hmask] at hx
  by_cases e:o=p
  ·rw [e];exact List.mem_singleton.2 rfl
  ·rw [if_neg e] at hx;cases hx) q1 q2 (fun o hS=>by rw [pf _ _ _ _ hp,if_pos hS]) (fun o hS=>by rw [pf _ _ _ _ hp,if_neg hS]) (fun o e1 e2=>by rw [hst1] at e2;exact absurd (Nat.lt_of_le_of_lt e1 e2) (Nat.lt_irrefl _))
 have hH:∀ o,((ql bk.h [p] h).set depth p (some (.map es'))).get o=H (kq D i) o:=fun o=>by
  rw [fh _ _ _ _ hlim]
  by_cases e:o=p
  ·rw [if_pos e,e,hes']
  ·rw [if_neg e,pf _ _ _ _ hp,if_neg (by simpa using e),h1,hoth o e]
 have hcov:∀ o y,((ql bk.h [p] h).set depth p (some (.map es'))).get o=some y→∃ z,(ql bk.h [p] h).get o=some z∧Cb y z:=fun o y hy=>by
  rw [fh _ _ _ _ hlim] at hy
  by_cases e:o=p
  ·rw [if_pos e] at hy
   cases hy
   refine ⟨_,?_,hsame⟩
   rw [pf _ _ _ _ hp,if_pos (by simpa using e),hget1,if_pos e]
  ·rw [if_neg e] at hy
   exact ⟨y,hy,.rfl _⟩
 have hnx1:bk.nx=jr ds st0.nx ds.length:=by rw [hst1]
 refine hK _ _ ⟨⟨g',_,hH,hfs.2.ae0 hcov,(h3.both ((by have:=hfs.1;rw [hnx1] at this;exact this.ach (l9 mono1 ds.length 0 (Nat.zero_le _)) (Nat.le_refl _)))).ae0 hcov,fun t=>?_,fun k e hk hkD o o1 o2=>?_⟩,by rw [Th];exact A.size,by rw [put_defers];exact A.defers,hcl⟩
 ·rw [Ty hi (fun q=>by rw [hdst] at q;cases q),if_neg (fun q=>by have:=q.1;rw [hdst] at this;cases this),hdst]
  exact (h4 t).ext q1.ext
 ·have hki:k≠i:=fun q=>by subst q;simp [kq] at hkD
  simp only [kq,if_neg hki] at hkD
  exact q1.fresh o (h5 k e hk hkD o o1 o2) (fun q=>by have:=q.2;rw [hnx1] at this;exact absurd (Nat.lt_of_le_of_lt q.1 this) (Nat.lt_irrefl _))
theorem aa1 {P:Program} {T:ee} (hm:P.follows .mixedOrders=true) {H:(Nat→Bool)→Nat→Option bf} {ops:Array Oper} {ro:Option Nat} {N:Nat} {B:gq} {nt id:Nat} {Q:Exit→Act→World→Prop} {ds:List DS} {L:SL} {st:St} {L':SL} {st' stF:St} (R:uy P T ops ds L st L' st')
 {g:Gh} {w:World} {a:Act} (h0:∀ o,H (fun _=>false) o=st.h.get o) (hF:∀ D,(∀ i,i<ds.length→D i=true)→∀ o,H D o=stF.h.get o) (hnF:stF.nx=st'.nx)
 (hstep:∀ (w0:World) (D:Nat→Bool) (a':Act) (w':World) (i:Nat) (d:DS) (Q:Exit→Act→World→Prop) (K:Act→World→Prop),ds[i]? = some d→D i=false→(∀ e ∈ d.o.after,Region.binds .any e=true→D e.on=true)→At H ops ds L g st w0 a.defers nt (jr ds st.nx ds.length) D a' w'→(∀ a'' w'',At H ops ds L g st w0 a.defers nt (jr ds st.nx ds.length) (kq D i) a'' w''→K a'' w'')→wpOpIn (gv ro) N P ops Q i K a' w')
 (hnear:B.wy st.nx st'.nx) (hc:gj B g st w) (hr:eg g w nt L a.tmps) (hd:Marks B.n0 st.h g w a.defers)
 (hK:∀ g w a',gj B g stF w→eg g w nt L' a'.tmps→Marks B.n0 stF.h g w a'.defers→a'.defers=a.defers→Q .normal a' w) :
 (Code.region id ops true).wpIn (gv ro) N P Q a w:=by
 have c1:=R.w8
 obtain ⟨c2,c3,c4⟩:=R.fin
 have hc1:=hc.drawn
 have hd':Marks B.n0 st.h g { w with drawn:=w.drawn+1 } a.defers:=hd
 have mono1:∀ i d,ds[i]? = some d→d.st.nx=jr ds st.nx i∧d.st.nx≤d.bk.nx:=fun i d hd=>⟨(c1 i d hd).2.2.1,(c1 i d hd).2.2.2⟩
 refine wpIn_region_any hm (ap0 (H:=H) (L0:=L) (g0:=g) (st0:=st) (w0:={ w with drawn:=w.drawn+1 }) (df:=a.defers) R (fun D a w i d Q K hi hD hr A hK=>hstep _ D a w i d Q K hi hD hr A hK) ?_ ops.size _ a _ (by simp) ?_ ?_)
 ·intro D a' w' hall A
  obtain ⟨g',h',q1,q2,q3,q4,q5⟩:=A.mem
  have hh:∀ o,h'.get o=stF.h.get o:=fun o=>by rw [q1 o,hF D hall o]
  have hle:st.nx≤st'.nx:=by rw [c4];exact l9 mono1 ds.length 0 (Nat.zero_le _)
  refine hK g' w' a' (hc1.step (st':=stF) (by rw [hnF];exact hnear) ⟨by rw [hnF];exact hle,?_⟩ (q2.congr hh)) ⟨A.size,fun t=>?_⟩ (by rw [A.defers];exact Marks.congr (Marks.step q3 hd') hh) A.defers
  ·rw [hnF,c4];exact q3.congr hh
  ·rw [c2 t,← Tm _ hall];exact q4 t
 ·exact Y0 _ _
 ·have hf:(fun k=>(Array.replicate ops.size false).getD k false)=fun _=>false:=by
   funext k
   simp only [Array.getD_eq_getD_getElem?,Array.getElem?_replicate]
   split<;>rfl
  rw [hf]
  exact ⟨⟨g,st.h,fun o=>(h0 o).symm,hc1.ok,.refl _ _ _ _ _,fun t=>by
   rw [Mo];exact (hr.2 t).ext (Ext.same (w:=w) (w':={ w with drawn:=w.drawn+1 }) rfl),fun i d hd _ o h1 h9=>hc.fresh o (by
   have:=l9 mono1 i 0 (Nat.zero_le _)
   rw [(c1 i d hd).2.2.1] at h1
   exact Nat.le_trans this h1) (hnear o (by
   have:=l9 mono1 i 0 (Nat.zero_le _)
   rw [(c1 i d hd).2.2.1] at h1
   exact Nat.le_trans this h1) (by
   rw [c4]
   have h10:=l9 mono1 ds.length (i+1) (List.getElem?_eq_some_iff.1 hd).1
   rw [jr.eq_2,hd] at h10
   exact Nat.lt_of_lt_of_le h9 h10))⟩,hr.1,rfl,fun i k hik=>by cases hik⟩
theorem Gc {ds:List DS} {h0:Tr bf} {D:Nat→Bool} {p:Nat}:∀ m,(∀ k e,k<m→ds[k]? = some e→D k=true→p ∉ e.W)→j6 ds h0 D m p=h0.get p
 |0,_=>rfl
 |m+1,h=>by
  have ih:=Gc (h0:=h0) (D:=D) (p:=p) m (fun k e hk=>h k e (by omega))
  rw [j6]
  cases hd:ds[m]? with
  |none=>exact ih
  |some d=>
   simp only
   rw [if_neg (fun q=>h m d (by omega) hd q.1 q.2),ih]
theorem aa9 {ds:List DS} {h0:Tr bf} {D:Nat→Bool} {p k0:Nat} {d:DS} (hd:ds[k0]? = some d) (hW:p ∈ d.W) (hD:D k0=true) (ho:∀ k e,ds[k]? = some e→k≠k0→p ∉ e.W):∀ m,k0<m→j6 ds h0 D m p=d.bk.h.get p
 |0,h=>by omega
 |m+1,h=>by
  rw [j6]
  by_cases e:m=k0
  ·subst e
   rw [hd]
   simp only
   rw [if_pos ⟨hD,hW⟩]
  ·have ih:=aa9 (h0:=h0) hd hW hD ho m (by omega)
   cases hm:ds[m]? with
   |none=>exact ih
   |some f=>
    simp only
    rw [if_neg (fun q=>ho m f hm e q.2),ih]
def Pc (ds:List DS) (h0:Tr bf) (p k0:Nat) (lits:List Lit) (D:Nat→Bool) (o:Nat):Option bf:=if o=p then (if D k0=true then some (.map (qt lits D)) else h0.get p) else j6 ds h0 D ds.length o
structure aD4 (P:Program) (ops:Array Oper) (ds:List DS) (p k0:Nat) (q:Lit):Prop where
 w8:∃ d,ds[q.i]? = some d∧∃ t m k x kt et,d.o.op = .insert t m k x∧d.o.dst=none∧d.o.guard=none∧P.underlying t=some (.map kt et)∧P.underlying kt=some q.d∧cq d.o d.L m = .mp p∧(cq d.o d.L k).ft=some q.e.1∧ev P (Instr.checkKey false 10000 kt q.e.1)=some ()∧cq d.o d.L x=q.e.2
 bef:((Region.before ops).getD q.i 0).testBit k0=true
theorem ar6 {P:Program} {T:ee} (hT:oz P T) (hm:P.follows .mixedOrders=true) {ops:Array Oper} {ro:Option Nat} {N:Nat} {B:gq} {nt id:Nat} {Q:Exit→Act→World→Prop} (hg:qf nt ops=true) (hdst:vz nt ops=true) {ds:List DS} {L:SL} {st:St} {L':SL} {st' stF:St} (R:uy P T ops ds L st L' st') (C:Calm ops ds)
 (hgY:∀ d ∈ ds,wz ops d.L d.o=some d.want) {p k0:Nat} {lits:List Lit} (hl:ahd lits) (hat:∀ q ∈ lits,aD4 P ops ds p k0 q) (hall:∀ i d,ds[i]? = some d→vh d.o=true→∃ q ∈ lits,q.i=i) {d0:DS} (hk0:ds[k0]? = some d0) (hk0':vh d0.o=false) (hno:∀ k e,ds[k]? = some e→k≠k0→p ∉ e.R∧p ∉ e.W)
 (hp:st'.h.get p=some (.map [])) (hplt:p<st'.nx) (hlim:p≤cx) (hF:∀ o,stF.h.get o=if o=p then some (.map (lits.map (·.e))) else st'.h.get o) (hnF:stF.nx=st'.nx)
 {g:Gh} {w:World} {a:Act} (hnear:B.wy st.nx st'.nx) (hc:gj B g st w) (hr:eg g w nt L a.tmps) (hd:Marks B.n0 st.h g w a.defers)
 (hK:∀ g w a',gj B g stF w→eg g w nt L' a'.tmps→Marks B.n0 stF.h g w a'.defers→a'.defers=a.defers→Q .normal a' w) :
 (Code.region id ops true).wpIn (gv ro) N P Q a w:=by
 have hlt0:k0<ds.length:=(List.getElem?_eq_some_iff.1 hk0).1
 have hlen:∀ q ∈ lits,q.i<ds.length:=fun q hq=>by
  obtain ⟨d,h1,_⟩:=(hat q hq).w8
  exact (List.getElem?_eq_some_iff.1 h1).1
 have hne0:∀ q ∈ lits,q.i≠k0:=fun q hq e=>by
  obtain ⟨d,h1,t,m,k,x,kt,et,h2,_⟩:=(hat q hq).w8
  rw [e,hk0] at h1
  cases h1
  unfold vh at hk0'
  rw [h2] at hk0'
  cases hk0'
 have hfin:j6 ds st.h (fun _=>true) ds.length p=some (.map []):=by rw [← R.fin.2.1 p,hp]
 have hW0:p ∈ d0.W→d0.bk.h.get p=some (.map []):=fun hW=>by
  rw [← aa9 (h0:=st.h) (D:=fun _=>true) hk0 hW rfl (fun k e hk hne=>(hno k e hk hne).2) ds.length hlt0];exact hfin
 have hN0:p ∉ d0.W→st.h.get p=some (.map []):=fun hW=>by
  rw [← Gc (h0:=st.h) (D:=fun _=>true) (p:=p) ds.length (fun k e _ hk _=>by
   by_cases h:k=k0
   ·rw [h,hk0] at hk;cases hk;exact hW
   ·exact (hno k e hk h).2)]
  exact hfin
 have hnx:st'.nx=jr ds st.nx ds.length:=R.fin.2.2
 refine aa1 hm (H:=Pc ds st.h p k0 lits) (stF:=stF) R (fun o=>?_) (fun D hD o=>?_) hnF (fun w0 D a' w' i d Q K hi hD hrd A hK=>?_) hnear hc hr hd hK
 ·unfold Pc
  by_cases e:o=p
  ·rw [if_pos e,if_neg (by simp),e]
  ·rw [if_neg e,Hp]
 ·unfold Pc
  rw [hF]
  by_cases e:o=p
  ·rw [if_pos e,if_pos e,if_pos (hD k0 hlt0),auo (fun q hq=>hD _ (hlen q hq))]
  ·rw [if_neg e,if_neg e,Lb _ hD,← R.fin.2.1 o]
 ·have hbef:=x0 A.closed (R.get hi) hrd
  have hmem:=List.mem_of_getElem? hi
  have hgv:=hgY d hmem
  have hcalm:=F5 R C hi hD A.closed hrd
  cases hins:vh d.o with
  |false=>
   have hgv':zb ops d.L d.o=some d.want:=by unfold wz at hgv;rw [hins] at hgv;exact hgv
   have hnl:∀ q ∈ lits,q.i≠i:=fun q hq e=>by
    obtain ⟨d',h1,t,m,k,x,kt,et,h2,_⟩:=(hat q hq).w8
    rw [e,hi] at h1
    cases h1
    unfold vh at hins
    rw [h2] at hins
    cases hins
   refine At.step hT R hg hdst hi hgv' (fun o ho=>?_) (fun o=>?_) hD hrd A hK
   ·unfold Pc
    by_cases e:o=p
    ·subst e
     by_cases hik:i=k0
     ·subst hik
      rw [if_pos rfl,if_neg (by rw [hD];simp)]
      rw [(R.w8 i d hi).2.1 o,Gc i (fun k e hk he _=>(hno k e he (by omega)).2)]
     ·exact ((hno i d hi hik).1 ho).elim
    ·rw [if_neg e];exact hcalm.1 o ho
   ·unfold Pc
    by_cases e:o=p
    ·subst e
     rw [if_pos rfl,if_pos rfl]
     by_cases hik:i=k0
     ·subst hik
      rw [hk0] at hi
      cases hi
      have hen:qt lits (kq D i)=[]:=aqr (fun q hq=>by
       have hne:=hne0 q hq
       simp only [kq,if_neg hne]
       cases hDq:D q.i with
       |false=>rfl
       |true=>have:=A.closed q.i i hDq (hat q hq).bef;rw [hD] at this;cases this)
      rw [if_pos (show kq D i i=true from by simp [kq]),hen]
      by_cases hW:o ∈ d0.W
      ·rw [if_pos hW,hW0 hW]
      ·rw [if_neg hW,if_neg (by rw [hD];simp),hN0 hW]
     ·rw [if_neg (hno i d hi hik).2,amn hnl]
      simp only [kq,if_neg (Ne.symm hik)]
    ·rw [if_neg e,if_neg e];exact hcalm.2 o
  |true=>
   obtain ⟨q,hq,rfl⟩:=hall i d hi hins
   obtain ⟨d',h1,t,m,k,x,kt,et,h2,h3,h4,h5,h6,h7,h8,h9,h10⟩:=(hat q hq).w8
   rw [hi] at h1
   cases h1
   have hDk:D k0=true:=hbef k0 (hat q hq).bef
   have hne:=hne0 q hq
   have hothers:∀ e ∈ qt lits D,∃ r ∈ lits,r.i≠q.i∧r.e=e:=fun e he=>by
    obtain ⟨r,r1,r2,r3⟩:=afy he
    exact ⟨r,r1,(fun e=>by rw [e,hD] at r2;cases r2),r3⟩
   have hperm:=at0 hl.idx hq hD
   have hW:d.W=[]:=by
    have:d.want=false:=by
     unfold wz at hgv
     rw [hins] at hgv
     simpa using hgv.symm
    exact ((R.ok d hmem).skip this).2.2.2
   refine At.ins hT R hi hD hrd A h2 h3 h4 h5 h7 h8 h9 (es:=qt lits D) (es':=qt lits (kq D q.i)) ?_ hlim (by rw [← hnx];exact hplt) (Wm h6 (fun e he=>?_)) ?_ ?_ ?_ (fun o e=>?_) hK
   ·unfold Pc;rw [if_pos rfl,if_pos hDk]
   ·obtain ⟨r,r1,r2,rfl⟩:=hothers e he
    exact (hl.apart q hq r r1 (Ne.symm r2)).2
   ·have hqe:(q.e.1,cq d.o d.L x)=q.e:=by rw [h10]
    rw [hqe]
    unfold stays
    cases hlo:loose (qt lits D) with
    |false=>rfl
    |true=>
     have:loose (qt lits D++[q.e])=true:=by
      unfold loose at hlo ⊢
      simp only [Bool.and_eq_true] at hlo ⊢
      refine ⟨Nat.ble_eq_true_of_le (by have:=Nat.le_of_ble_eq_true hlo.1;rw [List.length_append];omega),?_⟩
      have key:∀ l:List (Value × AV),pn l=true→(∀ e ∈ l,od e.1 q.e.1=true)→pn (l++[q.e])=true:=by
       intro l
       induction l with
       |nil=>intro _ _;rfl
       |cons b l ih=>
        intro h1 h2
        simp only [pn,List.cons_append,Bool.and_eq_true,List.all_eq_true] at h1 ⊢
        refine ⟨fun y hy=>?_,ih h1.2 (fun e he=>h2 e (by simp [he]))⟩
        rcases List.mem_append.1 hy with hy|hy
        ·exact h1.1 y hy
        ·rw [List.mem_singleton] at hy;rw [hy];exact h2 b (by simp)
      refine key _ hlo.2 (fun e he=>?_)
      obtain ⟨r,r1,r2,rfl⟩:=hothers e he
      exact (hl.apart r r1 q hq r2).1
     rw [this];rfl
   ·unfold Pc;rw [if_pos rfl,if_pos (by simp [kq,hDk])]
   ·have hqe:(q.e.1,cq d.o d.L x)=q.e:=by rw [h10]
    rw [hqe]
    by_cases h2 : 2≤(qt lits (kq D q.i)).length
    ·refine .perm _ _ hperm ?_
     unfold loose
     rw [Nat.ble_eq_true_of_le h2,Rh hl]
     rfl
    ·have h3:(qt lits D).length=0:=by have:=hperm.length_eq;rw [List.length_append] at this;simp at this;omega
     have h4:qt lits D=[]:=List.eq_nil_of_length_eq_zero h3
     rw [h4] at hperm ⊢
     rw [List.nil_append] at hperm ⊢
     rw [List.perm_singleton.1 hperm]
     exact .rfl _
   ·unfold Pc
    rw [if_neg e,if_neg e,hcalm.2 o,hW,if_neg (by simp)]
end
end Go.Vm
namespace Go.Vm
def Bx (a:UInt32):Value × AV:=(.int .u32 a.toNat,.sc (.bool true))
def lu (l:List UInt32):List (Value × AV):=l.map Bx
theorem Tk (a b:UInt32):Instr.sameNow (.int .u32) (.int .u32 a.toNat) (Bx b).1=some (a == b):=by
 show (if IntKind.u32=IntKind.u32 then some (((a.toNat:Int)) == (b.toNat:Int)) else none)=_
 rw [if_pos rfl]
 congr 1
 rw [Bool.eq_iff_iff,beq_iff_eq,beq_iff_eq]
 exact ⟨fun h=>UInt32.toNat_inj.1 (by omega),fun h=>by rw [h]⟩
theorem Wa {P:Program} {kt:TypeId} (hu:P.underlying kt=some (.int .u32)) (a:UInt32) (l:List UInt32) :
 (l.contains a=false∧p0 P kt (.int .u32 a.toNat) (lu l)=some none)∨(l.contains a=true∧∃ i,p0 P kt (.int .u32 a.toNat) (lu l)=some (some i)∧(lu l)[i]? = some (Bx a)):=by
 have hall:∀ m ∈ mj (lu l),(Instr.sameNow (.int .u32) (.int .u32 a.toNat) m.key).isSome=true:=fun m hm=>by
  simp only [mj,lu,List.map_map,List.mem_map] at hm
  obtain ⟨b,_,rfl⟩:=hm
  show (Instr.sameNow _ _ (Bx b).1).isSome=true
  rw [Tk];rfl
 rcases yv (.int .u32) (.int .u32 a.toNat) (mj (lu l)) 0 hall with ⟨h1,h2⟩|⟨j,m,h1,h2,h3⟩
 ·refine .inl ⟨?_,Wm hu fun e he=>?_⟩
  ·cases hc:l.contains a with
   |false=>rfl
   |true=>
    have:=h2 { key:=(Bx a).1,val:=undef,born:=0 } (by
     simp only [mj,lu,List.map_map,List.mem_map]
     exact ⟨a,by simpa using hc,rfl⟩)
    rw [show ({ key:=(Bx a).1,val:=undef,born:=0 }:MapEntry).key=(Bx a).1 from rfl,Tk] at this
    simp at this
  ·have:=h2 { key:=e.1,val:=undef,born:=0 } (by
    simp only [mj,List.mem_map]
    exact ⟨e,he,rfl⟩)
   exact this
 ·simp only [mj,lu,List.map_map,List.getElem?_map,Option.map_eq_some_iff] at h1
  obtain ⟨b,hb,rfl⟩:=h1
  have h2':Instr.sameNow (.int .u32) (.int .u32 a.toNat) (Bx b).1=some true:=h2
  rw [Tk] at h2'
  have hab:a=b:=by simpa using h2'
  subst hab
  refine .inr ⟨by simpa using List.mem_of_getElem? hb,j,?_,by simp only [lu,List.getElem?_map,hb,Option.map_some]⟩
  have hn:K3 P kt (.int .u32 a.toNat) (lu l)=true:=by unfold K3;rw [hu];simp only;rw [h3];rfl
  unfold p0
  rw [hn,Bool.or_true,cond_true]
  have hevu:ev P (underlying kt)=some (.int .u32):=by
   simp [underlying,program,ev,hu,n7,we,Sem.bind,bind]
  have:ev P (Instr.findKey kt (.int .u32 a.toNat) (mj (lu l)))=some (some (j,undef)):=by
   unfold Instr.findKey
   rw [n7,hevu]
   simp only [Option.bind_some]
   rw [h3,Nat.zero_add];rfl
  rw [this];rfl
theorem Zq {P:Program} {kt:TypeId} (hu:P.underlying kt=some (.int .u32)) (b:Bool) (v:Value):∃ x,ev P (Instr.checkKey b 10000 kt v)=some x:=by
 have hevu:ev P (underlying kt)=some (.int .u32):=by
  simp [underlying,program,ev,hu,n7,we,Sem.bind,bind]
 refine ⟨(),?_⟩
 show ev P (Instr.checkKey b (9999+1) kt v)=_
 rw [Instr.checkKey,n7,hevu]
 rfl
theorem aDh {P:Program} {kt et:TypeId} (hu:P.underlying kt=some (.int .u32)) (hz:er P et=some (.bool false)) (a:UInt32) (l:List UInt32):xx P kt et (.int .u32 a.toNat) false (.map (lu l)) = .pure (.sc (.bool (l.contains a))):=by
 unfold xx
 simp only
 obtain ⟨x,hx⟩:=Zq hu (lu l).isEmpty (.int .u32 a.toNat)
 rw [hx]
 rcases Wa hu a l with ⟨h1,h2⟩|⟨h1,i,h2,h3⟩
 ·rw [h2,h1];simp only [found,hz];rfl
 ·rw [h2,h1];simp only [h3,found,hz];rfl
theorem ami {a b:UInt32} (h:a≠b):od (Bx a).1 (Bx b).1=true:=by
 show (decide (IntKind.u32=IntKind.u32) && !((a.toNat:Int) == (b.toNat:Int)))=true
 have:¬ (a.toNat:Int)=b.toNat:=fun q=>h (UInt32.toNat_inj.1 (by omega))
 simp [this]
theorem Sd:∀ (l:List UInt32),l.Nodup→pn (lu l)=true
 | [],_=>rfl
 |a::l,h=>by
  have h1:=Sd l (List.nodup_cons.1 h).2
  show (_ && pn (lu l))=true
  rw [h1,Bool.and_true,List.all_eq_true]
  intro e he
  obtain ⟨b,hb,rfl⟩:=List.mem_map.1 he
  exact ami fun q=>(List.nodup_cons.1 h).1 (by rw [q];exact hb)
theorem amu (l:List UInt32) (a:UInt32) (h:(l++[a]).Nodup):stays (lu l) (lu (l++[a]))=true:=by
 have h1:=Sd _ h
 have hl:(lu l).length=l.length:=by simp [lu]
 have hl2:(lu (l++[a])).length=l.length+1:=by simp [lu]
 unfold stays loose
 rw [h1,hl,hl2]
 cases hb:Nat.ble 2 l.length with
 |false=>simp
 |true=>
  have h2 : 2≤l.length:=Nat.le_of_ble_eq_true hb
  have:Nat.ble 2 (l.length+1)=true:=Nat.ble_eq_true_of_le (by omega)
  simp [this]
theorem aFq {P:Program} {kt:TypeId} (hu:P.underlying kt=some (.int .u32)) (id:Nat) (a:UInt32) (l:List UInt32) (h:l.contains a=false) (hn:l.Nodup) :
 q8 P id kt (.int .u32 a.toNat) (.sc (.bool true)) (.map (lu l))=(jg id (.map (lu (l++[a])))).bind fun _=>.pure (.sc undef):=by
 unfold q8
 simp only
 obtain ⟨x,hx⟩:=Zq hu false (.int .u32 a.toNat)
 rw [hx]
 have hd:(l++[a]).Nodup:=List.nodup_append.2 ⟨hn,by simp,fun q hq y hy=>by
  rw [List.mem_singleton] at hy
  subst hy
  intro e;subst e
  have:l.contains q=true:=by simpa using hq
  rw [h] at this;cases this⟩
 rcases Wa hu a l with ⟨h1,h2⟩|⟨h1,_⟩
 ·have e:lu l++[((.int .u32 a.toNat:Value),AV.sc (.bool true))]=lu (l++[a]):=by simp [lu,Bx]
  rw [h2]
  simp only [e,amu l a hd,cond_true]
 ·rw [h] at h1;cases h1
theorem yi (l:List UInt32):AV.names.go ((lu l).map fun x=>x.2)=[]:=by
 induction l with
 |nil=>rfl
 |cons a l ih=>exact ih
theorem Bj (τ:Nat→Option Nat) (l:List UInt32):((lu l).map fun e=>(e.1,e.2.dg τ))=lu l:=by
 induction l with
 |nil=>rfl
 |cons a l ih=>show Bx a::(lu l).map _=Bx a::lu l;rw [ih]
theorem aqm (v:Value):(AV.sc v).ft=some v:=rfl
end Go.Vm
section
namespace Go.Proofs.YtajammoepjpiiaaGreat
open Go.Vm
set_option maxRecDepth 2000000
def Sc (k:Int):List Int→List Int→Int
 |_,[]=>0
 |pre,i::r=>if i<0∨(i ≥ k∨pre.contains i=true) then 301 else Sc k (pre++[i]) r
theorem aB8 {l:List Int} {i:Nat} {c k:Int} (hc:l[i]? = some c):Sc k (l.take i) (l.drop i)=if c<0∨(c ≥ k∨(l.take i).contains c=true) then 301 else Sc k (l.take (i+1)) (l.drop (i+1)):=by
 obtain ⟨hi,rfl⟩:=List.getElem?_eq_some_iff.1 hc
 rw [List.drop_eq_getElem_cons hi,Sc,List.take_succ_eq_append_getElem hi]
def Dh (k:Int):List UInt32→List xa→Int
 |_,[]=>0
 |met,h::r=>if met.contains h.addr=true∨(h.ay.length:Int)=0 then 301 else if Sc k [] h.ay≠0 then 301 else Dh k (met++[h.addr]) r
theorem apf {l:List xa} {i:Nat} {c:xa} {k:Int} (met:List UInt32) (h:l.drop i=c::l.drop (i+1)):Dh k met (l.drop i)=if met.contains c.addr=true∨(c.ay.length:Int)=0 then 301 else if Sc k [] c.ay≠0 then 301 else Dh k (met++[c.addr]) (l.drop (i+1)):=by rw [h];rfl
def x6 (w:bd):Int:=if Dh w.ay.length [] w.dn≠0 then 301 else if (w.dn.length:Int)=0 then 301 else 0
theorem aA6:PP.underlying 142=some (.map 37 4):=by kernel_rfl
theorem aAc:PP.underlying 37=some (.int .u32):=by kernel_rfl
theorem aD6:er PP 4=some (.bool false):=by kernel_rfl
set_option maxHeartbeats 4000000 in
theorem aud (w:bd) (hw:cr w):wl PP [aga] 0 (Tryz.f43.body.getD .skip) (dp PP Tryz.f43.results.toList (fun r st=>(r1 (au .i64)).get true st.h r=some (x6 w))) (ca 0 [cb.val false w]) (br []):=by
 have hl:=hw.hlen
 have hzl:=hw.z7
 have lkU:=aDh aAc aD6
 unfold Tryz.f43
 simp only [en]
 simp only [↓wR,RA,simprocAttr,TF,ae,s6]
 refine dh [1,3,11,12,13] (fun (x:Nat × List UInt32)=>[.ptr 0 0,.mp 1,.vl false 2 (w.dn.map (dy.val false)),.sc (.int .i64 (w.dn.length)),.sc (.int .i64 (x.1))]) (fun x=>[some (.row [.vl false 2 (w.ay.map (bg.val false)),.vl false 2 (w.dn.map (dy.val false)),.vl false 1 (w.hints.map (bn.val false))] 0 2 100),some (.map (lu x.2))]) (fun x=>x.1≤w.dn.length∧(Dh w.ay.length [] w.dn=Dh w.ay.length x.2 (w.dn.drop x.1)∧x.2.Nodup)) (fun x=>w.dn.length - x.1) (0,[]) ⟨Nat.zero_le _,rfl,.nil⟩ (by simp only [↓wR,RA,simprocAttr,TF,ae]<;>rfl) (by simp only [↓wR,RA,simprocAttr,TF,ae]<;>rfl) ?_
 rintro ⟨i,met⟩ ⟨hi,hx,hnd⟩
 simp only at hi hx hnd
 have bad:Dh w.ay.length [] w.dn=301→x6 w=301:=fun q=>by unfold x6;rw [q,if_pos (by decide)]
 simp only [↓wR,RA,simprocAttr,TF,ae]
 rw [bj];refine ⟨fun h=>?_,fun h=>?_⟩
 ·obtain ⟨c,hc,hd1,hlt⟩:=dw (decide_eq_true h)
  rw [apf met hd1] at hx
  have hcz:=hw.host c (List.mem_of_getElem? hc)
  simp only [↓wR,RA,simprocAttr,TF,ae,h,hc,aA6,lkU,aqm]
  rw [bm];refine ⟨fun h1=>?_,fun h1=>?_⟩
  ·have e0:=bad (by rw [hx,if_pos (.inl h1)])
   simp only [↓wR,RA,simprocAttr,TF,ae,h1]
   rw [e0]
  simp only [↓wR,RA,simprocAttr,TF,ae,h1]
  rw [cz];refine ⟨fun ⟨h2,e2⟩=>?_,fun ⟨h2,e2⟩=>?_⟩
  ·have e0:=bad (by rw [hx,if_pos (.inr e2)])
   simp only [↓wR,RA,simprocAttr,TF,ae,h2]
   rw [e0]
  rw [if_neg (fun q=>q.elim (fun q=>by rw [h1] at q;cases q) e2)] at hx
  have upU:=fun id=>aFq aAc id c.addr met h1 hnd
  have hnd2:(met++[c.addr]).Nodup:=List.nodup_append.2 ⟨hnd,by simp,fun q hq y hy=>by
   rw [List.mem_singleton] at hy
   subst hy
   intro e;subst e
   have:met.contains c.addr=true:=by simpa using hq
   rw [h1] at this;cases this⟩
  simp only [↓wR,RA,simprocAttr,TF,ae,h2,mz,aA6,upU,aqm]
  obtain ⟨met',hm'⟩:∃ m,m=met++[c.addr]:=⟨_,rfl⟩
  rw [← hm'] at hx hnd2 ⊢
  refine dh [1,3,5,11,12,13,31,32,33] (fun (k:Nat)=>[.ptr 0 0,.mp 1,.ptr 2 0,.vl false 2 (w.dn.map (dy.val false)),.sc (.int .i64 (w.dn.length)),.sc (.int .i64 (i)),.vl false 1 (c.ay.map ((au .i64).val false)),.sc (.int .i64 (c.ay.length)),.sc (.int .i64 (k))]) (fun _=>[some (.row [.vl false 2 (w.ay.map (bg.val false)),.vl false 2 (w.dn.map (dy.val false)),.vl false 1 (w.hints.map (bn.val false))] 0 2 100),some (.map (lu met')),some (.row [.sc (.int .u32 c.addr.toNat),.vl false 1 (c.ay.map ((au .i64).val false))] 0 2 80)]) (fun k=>k≤c.ay.length∧Sc w.ay.length [] c.ay=Sc w.ay.length (c.ay.take k) (c.ay.drop k)) (fun k=>c.ay.length - k) 0 ⟨Nat.zero_le _,rfl⟩ (by simp only [↓wR,RA,simprocAttr,TF,ae,yi,Bj]<;>rfl) (by simp only [↓wR,RA,simprocAttr,TF,ae,yi,Bj]<;>rfl) ?_
  rintro k ⟨hk,hy⟩
  simp only [↓wR,RA,simprocAttr,TF,ae]
  rw [bj];refine ⟨fun h3=>?_,fun h3=>?_⟩
  ·obtain ⟨q,hq,hd2,hlt2⟩:=dw (decide_eq_true h3)
   rw [aB8 hq] at hy
   have bad2:Sc w.ay.length [] c.ay=301→x6 w=301:=fun q=>bad (by rw [hx,q,if_pos (by decide)])
   have htk:k≤281474976710656:=by omega
   simp only [↓wR,RA,simprocAttr,TF,ae,h3,hq]
   rw [bj];refine ⟨fun h4=>?_,fun h4=>?_⟩
   ·have e0:=bad2 (by rw [hy,if_pos (.inl h4)])
    simp only [↓wR,RA,simprocAttr,TF,ae,h4]
    rw [e0]
   simp only [↓wR,RA,simprocAttr,TF,ae,h4]
   rw [bj];refine ⟨fun h5=>?_,fun h5=>?_⟩
   ·have e0:=bad2 (by rw [hy,if_pos (.inr (.inl h5))])
    simp only [↓wR,RA,simprocAttr,TF,ae,h5]
    rw [e0]
   simp only [↓wR,RA,simprocAttr,TF,ae,h5,hk,Kw,htk]
   rw [bm];refine ⟨fun h6=>?_,fun h6=>?_⟩
   ·have e0:=bad2 (by rw [hy,if_pos (.inr (.inr h6))])
    simp only [↓wR,RA,simprocAttr,TF,ae,h6]
    rw [e0]
   ·rw [if_neg (fun q=>q.elim h4 (fun q=>q.elim h5 (fun q=>by rw [h6] at q;cases q)))] at hy
    simp only [↓wR,RA,simprocAttr,TF,ae,h6,yi,Bj];repeat (simp (disch:=omega) only [ah,b9,bu,bw,bz];try simp only [↓wR,RA,simprocAttr,TF,ae,h6,yi,Bj])
    exact ⟨k+1,⟨hlt2,hy⟩,by omega,by (first|rfl|trivial|omega|((try (simp (disch:=omega) only [ah]));(try (simp only [FB]));first|done|rfl|omega))⟩
  ·rw [dz (decide_eq_false h3),Sc] at hy
   rw [hy,if_neg (by decide)] at hx
   simp only [↓wR,RA,simprocAttr,TF,ae,h3,yi,Bj];repeat (simp (disch:=omega) only [ah,b9,bu,bw,bz];try simp only [↓wR,RA,simprocAttr,TF,ae,h3,yi,Bj])
   exact ⟨(i+1,met'),⟨hlt,hx,hnd2⟩,by simp;omega,by (first|rfl|trivial|omega|((try (simp (disch:=omega) only [ah]));(try (simp only [FB]));first|done|rfl|omega)),by (first|rfl|trivial|omega|((try (simp (disch:=omega) only [ah]));(try (simp only [FB]));first|done|rfl|omega))⟩
 ·rw [dz (decide_eq_false h),Dh] at hx
  simp only [↓wR,RA,simprocAttr,TF,ae,h]
  unfold x6
  rw [if_neg (by omega)]
  rw [cz];refine ⟨fun ⟨h2,e2⟩=>?_,fun ⟨h2,e2⟩=>?_⟩
  ·rw [if_pos e2]
   simp only [↓wR,RA,simprocAttr,TF,ae,h2]
  ·rw [if_neg e2]
   simp only [↓wR,RA,simprocAttr,TF,ae,h2]
noncomputable def I0 (x:bd × Unit):Option AV:=if cr x.1 then some ((r1 (au .i64)).E true (x6 x.1)) else none
set_option maxRecDepth 2000000 in
theorem ait (x:bd × Unit) (r:AV) (h:I0 x=some r):be PP 43 ((aC cb a0).E x) r:=by
 by_cases hc:cr x.1
 case neg=>simp only [I0,if_neg hc] at h;cases h
 simp only [I0,if_pos hc] at h
 cases h
 exact bb (ak.cons (ai Dj) (ak.nil PP)) Tryz.func43 (by kernel_rfl) (by kernel_rfl) (by kernel_rfl) (Nat.le_of_ble_eq_true (by kernel_rfl)) (r1 (au .i64)) true (x6 x.1) (aud x.1 hc)
noncomputable abbrev aCu:Nat × Bool × (List AV→M AV):=(43,true,dc (aC cb a0) I0)
noncomputable def acs:List Int→Int
 | []=>0
 |e::r=>if e≠0 then e else acs r
noncomputable def al9 (w:bd):List Int:=[Hb w,Ed w,vt w,x6 w,z2 w,Ek w,vj w,Cu w,Cr w,C9 w]
noncomputable def g7 (w:bd):Int:=acs (al9 w)
theorem ain {w:bd} (h:vt w=0):E0 w:=by
 have key:∀ l:List ba,tz fy l=0→∀ z ∈ l,fy z=0:=by
  intro l
  induction l with
  |nil=>intro _ z hz;cases hz
  |cons a l ih=>
   intro h z hz
   rw [tz] at h
   split at h
   ·contradiction
   ·rename_i q
    rcases List.mem_cons.1 hz with rfl|hz
    ·omega
    ·exact ih h z hz
 intro z hz s hs ht d hd
 have hg:=xw (key _ h z hz) s hs
 have h1:=(D6 (K5 hg d hd)).1
 have h2:(jn s.type).names=1:=by unfold jn;rw [ht];rfl
 rw [h2] at h1
 intro q
 rw [q] at h1;simp at h1
theorem Gk:Bw PP 102=some (101,1,[.sc .nilFunc])∧di PP 101=some 1∧j5 PP 101=some false:=⟨by kernel_rfl,by kernel_rfl,by kernel_rfl⟩
set_option maxHeartbeats 8000000 in
theorem asp (w:bd) (hw:cr w):wl PP [aDp,aDn,aCz,aCu,ay6,aDy,avh,aDi,aC6,aAh] 0 (Tryz.f16.body.getD .skip) (dp PP Tryz.f16.results.toList (fun r st=>(r1 (au .i64)).get true st.h r=some (g7 w))) (ca 0 [cb.val false w]) (br []):=by
 unfold Tryz.f16
 simp only [en]
 simp (maxSteps:=9000000) only [↓wR,RA,simprocAttr,TF,ae,Gk]
 have gl:vt w=0→E0 w:=ain
 refine dh [29,30,31] (fun (i:Nat)=>[.sl 0 0 10 1,.sc (.int .i64 (10)),.sc (.int .i64 (i))]) (fun _=>[some (.row [.fn (.func 40) [.agg [.vl false 2 (w.ay.map (bg.val false)),.vl false 2 (w.dn.map (dy.val false)),.vl false 1 (w.hints.map (bn.val false))]] [],.fn (.func 41) [.agg [.vl false 2 (w.ay.map (bg.val false)),.vl false 2 (w.dn.map (dy.val false)),.vl false 1 (w.hints.map (bn.val false))]] [],.fn (.func 42) [.agg [.vl false 2 (w.ay.map (bg.val false)),.vl false 2 (w.dn.map (dy.val false)),.vl false 1 (w.hints.map (bn.val false))]] [],.fn (.func 43) [.agg [.vl false 2 (w.ay.map (bg.val false)),.vl false 2 (w.dn.map (dy.val false)),.vl false 1 (w.hints.map (bn.val false))]] [],.fn (.func 44) [.agg [.vl false 2 (w.ay.map (bg.val false)),.vl false 2 (w.dn.map (dy.val false)),.vl false 1 (w.hints.map (bn.val false))]] [],.fn (.func 45) [.agg [.vl false 2 (w.ay.map (bg.val false)),.vl false 2 (w.dn.map (dy.val false)),.vl false 1 (w.hints.map (bn.val false))]] [],.fn (.func 46) [.agg [.vl false 2 (w.ay.map (bg.val false)),.vl false 2 (w.dn.map (dy.val false)),.vl false 1 (w.hints.map (bn.val false))]] [],.fn (.func 47) [.agg [.vl false 2 (w.ay.map (bg.val false)),.vl false 2 (w.dn.map (dy.val false)),.vl false 1 (w.hints.map (bn.val false))]] [],.fn (.func 48) [.agg [.vl false 2 (w.ay.map (bg.val false)),.vl false 2 (w.dn.map (dy.val false)),.vl false 1 (w.hints.map (bn.val false))]] [],.fn (.func 49) [.agg [.vl false 2 (w.ay.map (bg.val false)),.vl false 2 (w.dn.map (dy.val false)),.vl false 1 (w.hints.map (bn.val false))]] []] 0 0 101)]) (fun i=>i≤10∧g7 w=acs ((al9 w).drop i)∧(3≤i→vt w=0)) (fun i=>10 - i) 0 ⟨by decide,rfl,by omega⟩ (by simp only [↓wR,RA,simprocAttr,TF,ae]<;>rfl) (by simp only [↓wR,RA,simprocAttr,TF,ae]<;>rfl) ?_
 rintro i ⟨hi,hx,hz⟩
 by_cases h10:i=10
 ·subst h10
  simp only [↓wR,RA,simprocAttr,TF,ae]
  rw [hx]<;>rfl
 have hcase:i=0∨i=1∨i=2∨i=3∨i=4∨i=5∨i=6∨i=7∨i=8∨i=9:=by omega
 rcases hcase with rfl|rfl|rfl|rfl|rfl|rfl|rfl|rfl|rfl|rfl
 ·skip
  simp only [↓wR,RA,simprocAttr,TF,ae,Gk,ah1]
  rw [bm];refine ⟨fun h=>?_,fun h=>?_⟩
  ·have he:Hb w≠0:=by simpa using h
   have e0:g7 w=Hb w:=by rw [hx];exact if_pos he
   simp only [↓wR,RA,simprocAttr,TF,ae,h]
   rw [e0]
  ·have he:Hb w=0:=by simpa using h
   simp only [↓wR,RA,simprocAttr,TF,ae,h];repeat (simp (disch:=omega) only [ah,b9,bu,bw,bz];try simp only [↓wR,RA,simprocAttr,TF,ae,h])
   exact ⟨0+1,⟨by decide,by rw [hx];exact if_neg (fun q=>q he),fun q=>absurd q (by decide)⟩,by decide,by (first|rfl|trivial|omega|((try (simp (disch:=omega) only [ah]));(try (simp only [FB]));first|done|rfl|omega))⟩
 ·skip
  simp only [↓wR,RA,simprocAttr,TF,ae,Gk,Pa,hw]
  rw [bm];refine ⟨fun h=>?_,fun h=>?_⟩
  ·have he:Ed w≠0:=by simpa using h
   have e0:g7 w=Ed w:=by rw [hx];exact if_pos he
   simp only [↓wR,RA,simprocAttr,TF,ae,h]
   rw [e0]
  ·have he:Ed w=0:=by simpa using h
   simp only [↓wR,RA,simprocAttr,TF,ae,h];repeat (simp (disch:=omega) only [ah,b9,bu,bw,bz];try simp only [↓wR,RA,simprocAttr,TF,ae,h])
   exact ⟨1+1,⟨by decide,by rw [hx];exact if_neg (fun q=>q he),fun q=>absurd q (by decide)⟩,by decide,by (first|rfl|trivial|omega|((try (simp (disch:=omega) only [ah]));(try (simp only [FB]));first|done|rfl|omega))⟩
 ·skip
  simp only [↓wR,RA,simprocAttr,TF,ae,Gk,Iw,hw]
  rw [bm];refine ⟨fun h=>?_,fun h=>?_⟩
  ·have he:vt w≠0:=by simpa using h
   have e0:g7 w=vt w:=by rw [hx];exact if_pos he
   simp only [↓wR,RA,simprocAttr,TF,ae,h]
   rw [e0]
  ·have he:vt w=0:=by simpa using h
   simp only [↓wR,RA,simprocAttr,TF,ae,h];repeat (simp (disch:=omega) only [ah,b9,bu,bw,bz];try simp only [↓wR,RA,simprocAttr,TF,ae,h])
   exact ⟨2+1,⟨by decide,by rw [hx];exact if_neg (fun q=>q he),fun _=>he⟩,by decide,by (first|rfl|trivial|omega|((try (simp (disch:=omega) only [ah]));(try (simp only [FB]));first|done|rfl|omega))⟩
 ·skip
  simp only [↓wR,RA,simprocAttr,TF,ae,Gk,I0,hw]
  rw [bm];refine ⟨fun h=>?_,fun h=>?_⟩
  ·have he:x6 w≠0:=by simpa using h
   have e0:g7 w=x6 w:=by rw [hx];exact if_pos he
   simp only [↓wR,RA,simprocAttr,TF,ae,h]
   rw [e0]
  ·have he:x6 w=0:=by simpa using h
   simp only [↓wR,RA,simprocAttr,TF,ae,h];repeat (simp (disch:=omega) only [ah,b9,bu,bw,bz];try simp only [↓wR,RA,simprocAttr,TF,ae,h])
   exact ⟨3+1,⟨by decide,by rw [hx];exact if_neg (fun q=>q he),fun _=>hz (by decide)⟩,by decide,by (first|rfl|trivial|omega|((try (simp (disch:=omega) only [ah]));(try (simp only [FB]));first|done|rfl|omega))⟩
 ·skip
  simp only [↓wR,RA,simprocAttr,TF,ae,Gk,Fg,hw]
  rw [bm];refine ⟨fun h=>?_,fun h=>?_⟩
  ·have he:z2 w≠0:=by simpa using h
   have e0:g7 w=z2 w:=by rw [hx];exact if_pos he
   simp only [↓wR,RA,simprocAttr,TF,ae,h]
   rw [e0]
  ·have he:z2 w=0:=by simpa using h
   simp only [↓wR,RA,simprocAttr,TF,ae,h];repeat (simp (disch:=omega) only [ah,b9,bu,bw,bz];try simp only [↓wR,RA,simprocAttr,TF,ae,h])
   exact ⟨4+1,⟨by decide,by rw [hx];exact if_neg (fun q=>q he),fun _=>hz (by decide)⟩,by decide,by (first|rfl|trivial|omega|((try (simp (disch:=omega) only [ah]));(try (simp only [FB]));first|done|rfl|omega))⟩
 ·skip
  simp only [↓wR,RA,simprocAttr,TF,ae,Gk,Mb,hw]
  rw [bm];refine ⟨fun h=>?_,fun h=>?_⟩
  ·have he:Ek w≠0:=by simpa using h
   have e0:g7 w=Ek w:=by rw [hx];exact if_pos he
   simp only [↓wR,RA,simprocAttr,TF,ae,h]
   rw [e0]
  ·have he:Ek w=0:=by simpa using h
   simp only [↓wR,RA,simprocAttr,TF,ae,h];repeat (simp (disch:=omega) only [ah,b9,bu,bw,bz];try simp only [↓wR,RA,simprocAttr,TF,ae,h])
   exact ⟨5+1,⟨by decide,by rw [hx];exact if_neg (fun q=>q he),fun _=>hz (by decide)⟩,by decide,by (first|rfl|trivial|omega|((try (simp (disch:=omega) only [ah]));(try (simp only [FB]));first|done|rfl|omega))⟩
 ·skip
  simp only [↓wR,RA,simprocAttr,TF,ae,Gk,Ds,hw]
  rw [bm];refine ⟨fun h=>?_,fun h=>?_⟩
  ·have he:vj w≠0:=by simpa using h
   have e0:g7 w=vj w:=by rw [hx];exact if_pos he
   simp only [↓wR,RA,simprocAttr,TF,ae,h]
   rw [e0]
  ·have he:vj w=0:=by simpa using h
   simp only [↓wR,RA,simprocAttr,TF,ae,h];repeat (simp (disch:=omega) only [ah,b9,bu,bw,bz];try simp only [↓wR,RA,simprocAttr,TF,ae,h])
   exact ⟨6+1,⟨by decide,by rw [hx];exact if_neg (fun q=>q he),fun _=>hz (by decide)⟩,by decide,by (first|rfl|trivial|omega|((try (simp (disch:=omega) only [ah]));(try (simp only [FB]));first|done|rfl|omega))⟩
 ·have hn:=gl (hz (by decide))
  simp only [↓wR,RA,simprocAttr,TF,ae,Gk,Pg,hw,hn]
  rw [bm];refine ⟨fun h=>?_,fun h=>?_⟩
  ·have he:Cu w≠0:=by simpa using h
   have e0:g7 w=Cu w:=by rw [hx];exact if_pos he
   simp only [↓wR,RA,simprocAttr,TF,ae,h]
   rw [e0]
  ·have he:Cu w=0:=by simpa using h
   simp only [↓wR,RA,simprocAttr,TF,ae,h];repeat (simp (disch:=omega) only [ah,b9,bu,bw,bz];try simp only [↓wR,RA,simprocAttr,TF,ae,h])
   exact ⟨7+1,⟨by decide,by rw [hx];exact if_neg (fun q=>q he),fun _=>hz (by decide)⟩,by decide,by (first|rfl|trivial|omega|((try (simp (disch:=omega) only [ah]));(try (simp only [FB]));first|done|rfl|omega))⟩
 ·skip
  simp only [↓wR,RA,simprocAttr,TF,ae,Gk,Np,hw]
  rw [bm];refine ⟨fun h=>?_,fun h=>?_⟩
  ·have he:Cr w≠0:=by simpa using h
   have e0:g7 w=Cr w:=by rw [hx];exact if_pos he
   simp only [↓wR,RA,simprocAttr,TF,ae,h]
   rw [e0]
  ·have he:Cr w=0:=by simpa using h
   simp only [↓wR,RA,simprocAttr,TF,ae,h];repeat (simp (disch:=omega) only [ah,b9,bu,bw,bz];try simp only [↓wR,RA,simprocAttr,TF,ae,h])
   exact ⟨8+1,⟨by decide,by rw [hx];exact if_neg (fun q=>q he),fun _=>hz (by decide)⟩,by decide,by (first|rfl|trivial|omega|((try (simp (disch:=omega) only [ah]));(try (simp only [FB]));first|done|rfl|omega))⟩
 ·skip
  simp only [↓wR,RA,simprocAttr,TF,ae,Gk,Iz,hw]
  rw [bm];refine ⟨fun h=>?_,fun h=>?_⟩
  ·have he:C9 w≠0:=by simpa using h
   have e0:g7 w=C9 w:=by rw [hx];exact if_pos he
   simp only [↓wR,RA,simprocAttr,TF,ae,h]
   rw [e0]
  ·have he:C9 w=0:=by simpa using h
   simp only [↓wR,RA,simprocAttr,TF,ae,h];repeat (simp (disch:=omega) only [ah,b9,bu,bw,bz];try simp only [↓wR,RA,simprocAttr,TF,ae,h])
   exact ⟨9+1,⟨by decide,by rw [hx];exact if_neg (fun q=>q he),fun _=>hz (by decide)⟩,by decide,by (first|rfl|trivial|omega|((try (simp (disch:=omega) only [ah]));(try (simp only [FB]));first|done|rfl|omega))⟩
noncomputable def Ir (x:bd × Unit):Option AV:=if cr x.1 then some ((r1 (au .i64)).E true (g7 x.1)) else none
set_option maxRecDepth 2000000 in
theorem aiq (x:bd × Unit) (r:AV) (h:Ir x=some r):be PP 16 ((aC cb a0).E x) r:=by
 by_cases hc:cr x.1
 case neg=>simp only [Ir,if_neg hc] at h;cases h
 simp only [Ir,if_pos hc] at h
 cases h
 exact bb (ak.cons (ai aoz) (ak.cons (ai am1) (ak.cons (ai ajb) (ak.cons (ai ait) (ak.cons (ai adu) (ak.cons (ai am8) (ak.cons (ai ab2) (ak.cons (ai aod) (ak.cons (ai amq) (ak.cons (ai aia) (ak.nil PP))))))))))) Tryz.func16 (by kernel_rfl) (by kernel_rfl) (by kernel_rfl) (Nat.le_of_ble_eq_true (by kernel_rfl)) (r1 (au .i64)) true (g7 x.1) (asp x.1 hc)
noncomputable abbrev aAi:Nat × Bool × (List AV→M AV):=(16,true,dc (aC cb a0) Ir)
end Go.Proofs.YtajammoepjpiiaaGreat
end
section
namespace Go.Proofs.YtajammoepjpiiaaGreat
open Go.Vm
theorem aaf:∀ (l:List Int),acs l=0→∀ e ∈ l,e=0
 | [],_,e,he=>by cases he
 |a::l,h,e,he=>by
  rw [acs] at h
  split at h
  ·contradiction
  ·rename_i q
   rcases List.mem_cons.1 he with rfl|he
   ·omega
   ·exact aaf l h e he
theorem Cq {f:ba→Int}:∀ (l:List ba),tz f l=0→∀ z ∈ l,f z=0
 | [],_,z,hz=>by cases hz
 |a::l,h,z,hz=>by
  rw [tz] at h
  split at h
  ·contradiction
  ·rename_i q
   rcases List.mem_cons.1 hz with rfl|hz
   ·omega
   ·exact Cq l h z hz
structure Ht (w:bd):Prop where
 zone:∀ z ∈ w.ay,fy z=0
 root:∃ z ∈ w.ay,z.origin=[]
 one:w.ay.Pairwise fun a b=>ef a.origin b.origin=false
 aFg:∀ z ∈ w.ay,∀ n ∈ tl z,∃ y ∈ w.ay,ef y.origin n=true
 par:∀ (i:Nat) z,w.ay[i]? = some z→z.origin≠[]→parentOf w z (uf w (i:Int)).1=0
 glue:∀ z ∈ w.ay,As w z z.aj=0
 srv:∀ (i:Nat) z,w.ay[i]? = some z→Ko w z i=0
theorem Wp:∀ (l pre:List ba) (b:Bool),Ef pre b l=0→(b=true∨∃ z ∈ l,z.origin=[])∧l.Pairwise (fun a b=>ef a.origin b.origin=false)∧∀ z ∈ l,∀ y ∈ pre,ef y.origin z.origin=false
 | [],pre,b,h=>by
  rw [Ef] at h
  refine ⟨.inl ?_,.nil,fun z hz=>by cases hz⟩
  cases b with
  |true=>rfl
  |false=>rw [if_neg (by decide)] at h;cases h
 |a::l,pre,b,h=>by
  rw [Ef] at h
  split at h
  ·cases h
  ·rename_i q
   obtain ⟨h1,h2,h3⟩:=Wp l (pre++[a]) _ h
   have hd:∀ y ∈ pre,ef y.origin a.origin=false:=fun y hy=>by
    cases hs:ef y.origin a.origin with
    |false=>rfl
    |true=>exact (q (List.any_eq_true.2 ⟨y,hy,hs⟩)).elim
   refine ⟨?_,List.pairwise_cons.2 ⟨fun z hz=>h3 z hz a (by simp),h2⟩,fun z hz y hy=>?_⟩
   ·rcases h1 with h1|⟨z,hz,h1⟩
    ·rw [Bool.or_eq_true] at h1
     rcases h1 with h1|h1
     ·exact .inl h1
     ·refine .inr ⟨a,by simp,?_⟩
      have:=of_decide_eq_true h1
      exact List.eq_nil_of_length_eq_zero (by omega)
    ·exact .inr ⟨z,by simp [hz],h1⟩
   ·rcases List.mem_cons.1 hz with rfl|hz
    ·exact hd y hy
    ·exact h3 z hz y (by simp [hy])
theorem L6 {w:bd}:∀ (l:List ba) (i:Nat),tg w l i=0→∀ (k:Nat) z,l[k]? = some z→z.origin≠[]→parentOf w z (uf w ((i+k:Nat):Int)).1=0
 | [],i,_,k,z,hz=>by simp at hz
 |a::l,i,h,k,z,hz=>by
  rw [tg] at h
  intro ho
  cases k with
  |zero=>
   simp at hz
   subst hz
   rw [if_neg (fun q=>ho (List.eq_nil_of_length_eq_zero (by omega)))] at h
   split at h
   ·cases h
   ·rename_i q;rw [Nat.add_zero];omega
  |succ k=>
   have:tg w l (i+1)=0:=by
    split at h
    ·exact h
    ·split at h
     ·cases h
     ·exact h
   have:=L6 l (i+1) this k z (by simpa using hz) ho
   rwa [show i+1+k=i+(k+1) from by omega] at this
theorem Xo {w:bd}:∀ (l:List ba) (i:Nat),K7 w l i=0→∀ (k:Nat) z,l[k]? = some z→Ko w z (i+k)=0
 | [],i,_,k,z,hz=>by simp at hz
 |a::l,i,h,k,z,hz=>by
  rw [K7] at h
  split at h
  ·cases h
  ·rename_i q
   cases k with
   |zero=>simp at hz;subst hz;rw [Nat.add_zero];omega
   |succ k=>
    have:=Xo l (i+1) h k z (by simpa using hz)
    rwa [show i+1+k=i+(k+1) from by omega] at this
theorem Uv {w:bd}:∀ (l:List Name),C3 w l=0→∀ n ∈ l,xo w.ay n=true
 | [],_,n,hn=>by cases hn
 |a::l,h,n,hn=>by
  rw [C3] at h
  split at h
  ·rename_i q
   rcases List.mem_cons.1 hn with rfl|hn
   ·exact q
   ·exact Uv l h n hn
  ·cases h
theorem Cz {w:bd} (h:g7 w=0):Ht w:=by
 have hz:=aaf _ h
 unfold al9 at hz
 have h2:=hz (Ed w) (by simp)
 have h3:=hz (vt w) (by simp)
 have h6:=hz (Ek w) (by simp)
 have h7:=hz (vj w) (by simp)
 have h8:=hz (Cu w) (by simp)
 have h9:=hz (Cr w) (by simp)
 obtain ⟨r1,r2,_⟩:=Wp _ _ _ h2
 refine ⟨Cq _ h3,?_,r2,fun z hz n hn=>?_,fun i z hi ho=>?_,Cq _ h8,fun i z hi=>?_⟩
 ·rcases r1 with r1|r1
  ·cases r1
  ·exact r1
 ·have:=Uv _ (Cq _ h6 z hz) n hn
  obtain ⟨y,hy,hs⟩:=List.any_eq_true.1 this
  exact ⟨y,hy,hs⟩
 ·have:=L6 w.ay 0 h7 i z hi ho
  rwa [Nat.zero_add] at this
 ·have:=Xo w.ay 0 h9 i z hi
  rwa [Nat.zero_add] at this
theorem apd (n:Name):dj n []=true:=ve.2 (by simp [g8])
theorem ak6 {n:Name}:∀ (l:List ba) (i:Nat) (b:Option (Nat × Nat)),(∀ p,Aw n l i b=some p→(∀ q,b=some q→q.2≤p.2)∧∀ z ∈ l,dj n z.origin=true→z.origin.length≤p.2)∧(b.isSome=true∨(∃ z ∈ l,dj n z.origin=true)→(Aw n l i b).isSome=true)
 | [],i,b=>⟨fun p hp=>⟨fun q hq=>by rw [Aw,hq] at hp;cases hp;exact Nat.le_refl _,fun z hz=>by cases hz⟩,fun h=>by
  rcases h with h|⟨z,hz,_⟩
  ·exact h
  ·cases hz⟩
 |a::l,i,b=>by
  obtain ⟨h1,h2⟩:=ak6 (n:=n) l (i+1) (nj n b i a)
  have key:∀ q,b=some q→∃ r,nj n b i a=some r∧q.2≤r.2:=fun q hq=>by
   unfold nj
   split
   ·rename_i hc
    rw [Bool.and_eq_true] at hc
    have hf:=hc.2
    rw [hq] at hf
    have:=of_decide_eq_true hf
    exact ⟨_,rfl,by simp only;omega⟩
   ·exact ⟨q,hq,Nat.le_refl _⟩
  have key2:dj n a.origin=true→∃ r,nj n b i a=some r∧a.origin.length≤r.2:=fun hu=>by
   unfold nj
   rw [hu,Bool.true_and]
   cases b with
   |none=>exact ⟨_,rfl,Nat.le_refl _⟩
   |some q=>
    by_cases hf:Jl (some q) a.origin.length=true
    ·rw [if_pos hf];exact ⟨_,rfl,Nat.le_refl _⟩
    ·rw [if_neg hf]
     refine ⟨q,rfl,?_⟩
     have:¬ q.2<a.origin.length:=fun h=>hf (decide_eq_true h)
     omega
  refine ⟨fun p hp=>?_,fun h=>h2 ?_⟩
  ·obtain ⟨k1,k2⟩:=h1 p hp
   refine ⟨fun q hq=>?_,fun z hz hu=>?_⟩
   ·obtain ⟨r,hr,hle⟩:=key q hq
    exact Nat.le_trans hle (k1 r hr)
   ·rcases List.mem_cons.1 hz with rfl|hz
    ·obtain ⟨r,hr,hle⟩:=key2 hu
     exact Nat.le_trans hle (k1 r hr)
    ·exact k2 z hz hu
  ·rcases h with h|⟨z,hz,hu⟩
   ·obtain ⟨q,hq⟩:=Option.isSome_iff_exists.1 h
    obtain ⟨r,hr,_⟩:=key q hq
    exact .inl (by rw [hr];rfl)
   ·rcases List.mem_cons.1 hz with rfl|hz
    ·obtain ⟨r,hr,_⟩:=key2 hu
     exact .inl (by rw [hr];rfl)
    ·exact .inr ⟨z,hz,hu⟩
structure acn (w:bd) (n:Name) (k:Nat) (z:ba):Prop where
 val:lr w n=(k:Int)
 get:w.ay[k]? = some z
 under:dj n z.origin=true
 max:∀ y ∈ w.ay,dj n y.origin=true→y.origin.length≤z.origin.length
theorem aec {w:bd} (h:Ht w) (n:Name):∃ k z,acn w n k z:=by
 obtain ⟨r,hr,hro⟩:=h.root
 obtain ⟨h1,h2⟩:=ak6 (n:=n) w.ay 0 none
 have hs:=h2 (.inr ⟨r,hr,by rw [hro];exact apd n⟩)
 obtain ⟨p,hp⟩:=Option.isSome_iff_exists.1 hs
 obtain ⟨y,hy1,hy2,hy3⟩:=ae6 (w:=w) (n:=n) hp
 refine ⟨p.1,y,⟨?_,hy1,hy3,fun z hz hu=>?_⟩⟩
 ·unfold lr Tp;rw [hp];rfl
 ·rw [hy2];exact (h1 p hp).2 z hz hu
end Go.Proofs.YtajammoepjpiiaaGreat
end
section
namespace Go.Proofs.YtajammoepjpiiaaGreat
open Go.Vm
set_option maxRecDepth 2000000
def K8 (l:List ba):Bool:=l.all Mz
def Kq (l:List xa):Bool:=l.all fun h=>!decide ((h.ay.length:Int) > 40)
def an7 (w:bd):Bool:=
 K8 w.ay && (Kq w.dn && ((decide ((w.ay.length:Int)≤8) || (decide ((w.ay.length:Int) > 32) && decide ((w.ay.length:Int)<40))) && ((decide ((w.dn.length:Int)≤12) || (decide ((w.dn.length:Int) > 64) && decide ((w.dn.length:Int)<80))) && decide ((w.hints.length:Int)≤40))))
set_option maxHeartbeats 8000000 in
theorem ay1 (w:bd) (hw:cr w):wl PP [aFn] 0 (Tryz.f15.body.getD .skip) (dp PP Tryz.f15.results.toList (fun r st=>(r1 bp).get true st.h r=some (an7 w))) (ca 0 [cb.val false w]) (br []):=by
 have hl:=hw.z7
 have hhl:=hw.hlen
 unfold Tryz.f15
 simp only [en]
 simp only [↓wR,RA,simprocAttr,TF,ae]
 refine dh [1,3] (fun (i:Nat)=>[.ptr 0 0,.sc (.int .i64 (i))]) (fun _=>[some (.row [.vl false 2 (w.ay.map (bg.val false)),.vl false 2 (w.dn.map (dy.val false)),.vl false 1 (w.hints.map (bn.val false))] 0 2 50)]) (fun i=>i≤w.ay.length∧K8 w.ay=K8 (w.ay.drop i)) (fun i=>w.ay.length - i) 0 ⟨Nat.zero_le _,rfl⟩ (by simp only [↓wR,RA,simprocAttr,TF,ae]<;>rfl) (by simp only [↓wR,RA,simprocAttr,TF,ae]<;>rfl) ?_
 rintro i ⟨hi,hx⟩
 simp only [↓wR,RA,simprocAttr,TF,ae]
 unfold an7
 rw [bj];refine ⟨fun h=>?_,fun h=>?_⟩
 ·obtain ⟨c,hc,hd1,hlt⟩:=dw (decide_eq_true h)
  rw [hd1,K8,K8,List.all_cons] at hx
  simp only [↓wR,RA,simprocAttr,TF,ae,h,hc,Pv,hw.zone c (List.mem_of_getElem? hc)];repeat (simp (disch:=omega) only [ah,b9,bu,bw,bz];try simp only [↓wR,RA,simprocAttr,TF,ae,h,hc,Pv,hw.zone c (List.mem_of_getElem? hc)])
  rw [bm];refine ⟨fun h1=>?_,fun h1=>?_⟩
  ·have h1':Mz c=false:=by simpa only [Bool.not_eq_true'] using h1
   rw [h1',Bool.false_and] at hx
   simp only [↓wR,RA,simprocAttr,TF,ae,h1]
   rw [K8,hx];rfl
  ·have h1':Mz c=true:=by simpa only [Bool.not_eq_false'] using h1
   rw [h1',Bool.true_and] at hx
   simp only [↓wR,RA,simprocAttr,TF,ae,h1];repeat (simp (disch:=omega) only [ah,b9,bu,bw,bz];try simp only [↓wR,RA,simprocAttr,TF,ae,h1])
   exact ⟨i+1,⟨hlt,hx⟩,by omega,by (first|rfl|trivial|omega|((try (simp (disch:=omega) only [ah]));(try (simp only [FB]));first|done|rfl|omega))⟩
 rw [dz (decide_eq_false h)] at hx
 have hx':K8 w.ay=true:=hx
 clear hx hi
 simp only [↓wR,RA,simprocAttr,TF,ae,h]
 refine dh [1,4] (fun (i:Nat)=>[.ptr 0 0,.sc (.int .i64 (i))]) (fun _=>[some (.row [.vl false 2 (w.ay.map (bg.val false)),.vl false 2 (w.dn.map (dy.val false)),.vl false 1 (w.hints.map (bn.val false))] 0 2 50)]) (fun i=>i≤w.dn.length∧Kq w.dn=Kq (w.dn.drop i)) (fun i=>w.dn.length - i) 0 ⟨Nat.zero_le _,rfl⟩ (by simp only [↓wR,RA,simprocAttr,TF,ae]<;>rfl) (by simp only [↓wR,RA,simprocAttr,TF,ae]<;>rfl) ?_
 rintro i ⟨hi,hy⟩
 simp only [↓wR,RA,simprocAttr,TF,ae]
 rw [bj];refine ⟨fun h2=>?_,fun h2=>?_⟩
 ·obtain ⟨c,hc,hd1,hlt⟩:=dw (decide_eq_true h2)
  rw [hd1,Kq,Kq,List.all_cons] at hy
  simp only [↓wR,RA,simprocAttr,TF,ae,h2,hc];repeat (simp (disch:=omega) only [ah,b9,bu,bw,bz];try simp only [↓wR,RA,simprocAttr,TF,ae,h2,hc])
  rw [bj];refine ⟨fun h3=>?_,fun h3=>?_⟩
  ·rw [decide_eq_true h3,Bool.not_true,Bool.false_and] at hy
   simp only [↓wR,RA,simprocAttr,TF,ae,h3]
   rw [hx',Kq,hy];rfl
  ·rw [decide_eq_false h3,Bool.not_false,Bool.true_and] at hy
   simp only [↓wR,RA,simprocAttr,TF,ae,h3];repeat (simp (disch:=omega) only [ah,b9,bu,bw,bz];try simp only [↓wR,RA,simprocAttr,TF,ae,h3])
   exact ⟨i+1,⟨hlt,hy⟩,by omega,by (first|rfl|trivial|omega|((try (simp (disch:=omega) only [ah]));(try (simp only [FB]));first|done|rfl|omega))⟩
 rw [dz (decide_eq_false h2)] at hy
 have hy':Kq w.dn=true:=hy
 clear hy hi
 rw [hx',hy',Bool.true_and,Bool.true_and]
 simp only [↓wR,RA,simprocAttr,TF,ae,h2]
 rw [bj];refine ⟨fun p1=>?_,fun p1=>?_⟩
 ·rw [decide_eq_true p1,Bool.true_or,Bool.true_and]
  simp only [↓wR,RA,simprocAttr,TF,ae,p1]
  rw [bj];refine ⟨fun p4=>?_,fun p4=>?_⟩
  ·rw [decide_eq_true p4,Bool.true_or,Bool.true_and]
   simp only [↓wR,RA,simprocAttr,TF,ae,p4]
  ·rw [decide_eq_false p4,Bool.false_or]
   simp only [↓wR,RA,simprocAttr,TF,ae,p4]
   rw [bj];refine ⟨fun p5=>?_,fun p5=>?_⟩
   ·rw [decide_eq_true p5,Bool.true_and]
    simp only [↓wR,RA,simprocAttr,TF,ae,p5]
    rw [bj];refine ⟨fun p6=>?_,fun p6=>?_⟩
    ·rw [decide_eq_true p6,Bool.true_and]
     simp only [↓wR,RA,simprocAttr,TF,ae,p6]
    ·rw [decide_eq_false p6,Bool.false_and]
     simp only [↓wR,RA,simprocAttr,TF,ae,p6]
   ·rw [decide_eq_false p5,Bool.false_and,Bool.false_and]
    simp only [↓wR,RA,simprocAttr,TF,ae,p5]
 ·rw [decide_eq_false p1,Bool.false_or]
  simp only [↓wR,RA,simprocAttr,TF,ae,p1]
  rw [bj];refine ⟨fun p2=>?_,fun p2=>?_⟩
  ·rw [decide_eq_true p2,Bool.true_and]
   simp only [↓wR,RA,simprocAttr,TF,ae,p2]
   rw [bj];refine ⟨fun p3=>?_,fun p3=>?_⟩
   ·rw [decide_eq_true p3,Bool.true_and]
    simp only [↓wR,RA,simprocAttr,TF,ae,p3]
    rw [bj];refine ⟨fun p4=>?_,fun p4=>?_⟩
    ·rw [decide_eq_true p4,Bool.true_or,Bool.true_and]
     simp only [↓wR,RA,simprocAttr,TF,ae,p4]
    ·rw [decide_eq_false p4,Bool.false_or]
     simp only [↓wR,RA,simprocAttr,TF,ae,p4]
     rw [bj];refine ⟨fun p5=>?_,fun p5=>?_⟩
     ·rw [decide_eq_true p5,Bool.true_and]
      simp only [↓wR,RA,simprocAttr,TF,ae,p5]
      rw [bj];refine ⟨fun p6=>?_,fun p6=>?_⟩
      ·rw [decide_eq_true p6,Bool.true_and]
       simp only [↓wR,RA,simprocAttr,TF,ae,p6]
      ·rw [decide_eq_false p6,Bool.false_and]
       simp only [↓wR,RA,simprocAttr,TF,ae,p6]
     ·rw [decide_eq_false p5,Bool.false_and,Bool.false_and]
      simp only [↓wR,RA,simprocAttr,TF,ae,p5]
   ·rw [decide_eq_false p3,Bool.false_and]
    simp only [↓wR,RA,simprocAttr,TF,ae,p3]
  ·rw [decide_eq_false p2,Bool.false_and,Bool.false_and]
   simp only [↓wR,RA,simprocAttr,TF,ae,p2]
noncomputable def Of (x:bd × Unit):Option AV:=if cr x.1 then some ((r1 bp).E true (an7 x.1)) else none
set_option maxRecDepth 2000000 in
theorem aol (x:bd × Unit) (r:AV) (h:Of x=some r):be PP 15 ((aC cb a0).E x) r:=by
 by_cases hc:cr x.1
 case neg=>simp only [Of,if_neg hc] at h;cases h
 simp only [Of,if_pos hc] at h
 cases h
 exact bb (ak.cons (ai aqx) (ak.nil PP)) Tryz.func15 (by kernel_rfl) (by kernel_rfl) (by kernel_rfl) (Nat.le_of_ble_eq_true (by kernel_rfl)) (r1 bp) true (an7 x.1) (ay1 x.1 hc)
noncomputable abbrev awo:Nat × Bool × (List AV→M AV):=(15,true,dc (aC cb a0) Of)
def Ei (z:ba) (n:Name) (s:bh):Bool:=Dw z s && dj n s.owner
theorem au7 {z:ba} {n:Name}:∀ (l:List bh) (b:Option Name),(∀ m,b=some m→∃ c,l.foldl (gx z n) b=some c∧c.length≤m.length)∧(∀ s ∈ l,Ei z n s=true→∃ c,l.foldl (gx z n) b=some c∧c.length≤s.owner.length)∧∀ c,l.foldl (gx z n) b=some c→b=some c∨∃ s ∈ l,Ei z n s=true∧s.owner=c:=by
 intro l
 induction l with
 |nil=>intro b;exact ⟨fun m hm=>⟨m,hm,Nat.le_refl _⟩,(fun s hs=>by cases hs),fun c hc=>.inl hc⟩
 |cons a l ih=>
  intro b
  obtain ⟨i1,i2,i3⟩:=ih (gx z n b a)
  rw [List.foldl_cons]
  have hst:gx z n b a=if (Ei z n a && E1 a.owner b)=true then some a.owner else b:=by
   unfold gx Ei Dw
   simp only [Bool.and_assoc]
  have keep:∀ m,b=some m→∃ q,gx z n b a=some q∧q.length≤m.length:=fun m hm=>by
   rw [hst]
   split
   ·rename_i h
    rw [Bool.and_eq_true,hm] at h
    have:=of_decide_eq_true h.2
    exact ⟨_,rfl,by omega⟩
   ·exact ⟨m,hm,Nat.le_refl _⟩
  refine ⟨fun m hm=>?_,fun s hs hok=>?_,fun c hc=>?_⟩
  ·obtain ⟨q,hq,hle⟩:=keep m hm
   obtain ⟨c,hc,hle2⟩:=i1 q hq
   exact ⟨c,hc,by omega⟩
  ·rcases List.mem_cons.1 hs with rfl|hs
   ·cases hsh:E1 s.owner b with
    |true=>
     rw [hok,hsh,if_pos (by rfl)] at hst
     exact i1 _ hst
    |false=>
     cases b with
     |none=>cases hsh
     |some m=>
      have h2:¬ s.owner.length<m.length:=of_decide_eq_false hsh
      obtain ⟨q,hq,hle⟩:=keep m rfl
      obtain ⟨c,hc,hle2⟩:=i1 q hq
      exact ⟨c,hc,by omega⟩
   ·exact i2 s hs hok
  ·rcases i3 c hc with h|⟨s,hs,h1,h2⟩
   ·rw [hst] at h
    split at h
    ·rename_i hq
     rw [Bool.and_eq_true] at hq
     cases h
     exact .inr ⟨a,by simp,hq.1,rfl⟩
    ·exact .inl h
   ·exact .inr ⟨s,by simp [hs],h1,h2⟩
theorem aB7 {z:ba} {n c:Name} (h:ke z n=some c):∃ s ∈ z.aj,Ei z n s=true∧s.owner=c:=by
 rcases (au7 z.aj none).2.2 c h with h|h
 ·cases h
 ·exact h
theorem apv {z:ba} {n:Name} {s:bh} (h:Ei z n s=true):(s.type.toNat:Int)=2∧z.origin.length<s.owner.length∧dj s.owner z.origin=true∧dj n s.owner=true:=by
 unfold Ei Dw Bp at h
 simp only [Bool.and_eq_true,decide_eq_true_eq] at h
 exact ⟨h.1.1,h.1.2.1,h.1.2.2,h.2⟩
theorem at6 {w:bd} (hg:Ht w) {z:ba} (hz:z ∈ w.ay) {n:Name} {s:bh} (hs:s ∈ z.aj) (h:Ei z n s=true):∃ y ∈ w.ay,ef y.origin s.owner=true:=by
 unfold Ei at h
 rw [Bool.and_eq_true] at h
 exact hg.aFg z hz s.owner (List.mem_map.2 ⟨s,List.mem_filter.2 ⟨hs,h.1⟩,rfl⟩)
theorem Ld {w:bd} (hg:Ht w) {z:ba} (hz:z ∈ w.ay) {n:Name} (hn:cg n=0) (hu:dj n z.origin=true):ik z n=0:=by
 have:=hg.zone z hz
 unfold ik;rw [if_neg (by omega),if_neg (by omega),if_neg (by rw [hu];decide)]
theorem asl {w:bd} (hg:Ht w) {n:Name} {k:Nat} {z:ba} (ho:acn w n k z):ke z n=none:=by
 cases h:ke z n with
 |none=>rfl
 |some c=>
  obtain ⟨s,hs,hok,_⟩:=aB7 h
  have hzm:=List.mem_of_getElem? ho.get
  obtain ⟨y,hy,hsame⟩:=at6 hg hzm hs hok
  obtain ⟨_,h1,_,h2⟩:=apv hok
  have h3:=ho.max y hy (by rw [ae9 hsame];exact h2)
  have h4:=av2 hsame
  omega
theorem azd {w:bd} (hg:Ht w) {z:ba} (hz:z ∈ w.ay) {n:Name} {t:UInt16} (hn:cg n=0) (hu:dj n z.origin=true) (t0:(t.toNat:Int)≠0) (t41:(t.toNat:Int)≠41):K1 z n t=(jx z n t (ga z n).1,0):=by
 have h:=Ld hg hz hn hu
 have hf:(ga z n).2=0:=by rcases E7 h with ⟨_,_,e⟩|⟨_,_,_,e⟩|⟨_,_,_,e⟩|⟨_,_,_,_,e⟩|⟨_,_,_,_,e⟩<;>rw [e]
 have ha:qm z n t=ga z n:=by unfold qm;rw [if_neg (fun q=>q.2.elim t0 t41)]
 unfold K1;rw [ha,if_neg (by omega)]
theorem avr {w:bd} (hg:Ht w) {n:Name} {t:UInt16} (hn:cg n=0) {k:Nat} {z:ba} (ho:acn w n k z):(jx z n t (ga z n).1).turn≠4:=by
 have h:=Ld hg (List.mem_of_getElem? ho.get) hn ho.under
 have hc:=asl hg ho
 rcases z5 t h with ⟨c,s,hc',_⟩|⟨_,e⟩|⟨_,e⟩|⟨_,l,_,_,_,_,e⟩|⟨_,s,d,m,_,_,_,_,_,_,_,_,_,e⟩
 ·rw [hc] at hc';cases hc'
 ·rw [e];intro q;cases q
 ·rw [e];intro q;cases q
 ·rw [e];intro q;cases q
 ·rw [e];intro q;cases q
end Go.Proofs.YtajammoepjpiiaaGreat
end
namespace Go.Vm
noncomputable section
def fnD {α:Type} (f:Nat) (C:de α) (h:Tr bf):AV→Option α
 |.fn (.func k) [] [p]=>bif Nat.beq k f then Km C h p else none
 |_=>none
def aF {α β:Type} (f:Nat) (C:de α) (R:AC β):AC (α × β) where
 E p:=.fn (.func f) [] [.gp (C.cells false p.1)]::R.E p.2
 D h l:=match l with
  | []=>none
  |a::r=>match fnD f C h a,R.D h r with
   |some x,some y=>some (x,y)
   |_,_=>none
 rt h p:=by
  have h1:Km C h (.gp (C.cells false p.1))=some p.1:=by
   rw [Nx,C.len,Nat.ble_self_eq_true,cond_true,List.take_of_length_le (by rw [C.len];exact Nat.le_refl _)]
   exact C.rt false h false p.1 (fun e=>by cases e)
  have:fnD f C h (.fn (.func f) [] [.gp (C.cells false p.1)])=some p.1:=by
   rw [fnD,Nat.beq_refl,cond_true,h1]
  simp only [this,R.rt]
 ok:=by
  intro g h w K b0 l vs x hok hl hr hd
  match l,hd with
  |a::r,hd=>
   simp only at hd
   split at hd
   ·rename_i x1 y1 hx hy
    simp at hd;subst hd
    match vs,hr with
    | [],hr=>have:=hr.1;simp at this
    |v::vs,hr=>
     refine bq.cons ?_ (R.ok hok hl hr.tail hy)
     unfold fnD at hx
     split at hx
     ·rename_i k p hr2
      cases hb:Nat.beq k f with
      |false=>rw [hb] at hx;cases hx
      |true=>
       have hk:k=f:=Nat.eq_of_beq_eq_true hb
       subst hk
       rw [hb,cond_true] at hx
       cases hr.head with
       |fn _ _ _ va vb hs hv hs' hv'=>
        refine .fn _ _ _ va vb hs (fun i a v h _=>by simp at h) (by simpa using hs') (fun i a v h1 h2=>?_)
        cases i with
        |zero=>
         simp at h1
         subst h1
         exact alx C hok hl (hv' 0 p v rfl h2) hx
        |succ i=>simp at h1
     ·cases hx
   ·cases hd
theorem amh {α β:Type} (f:Nat) (C:de α) (R:AC β) (h:Tr bf) (k:Nat) (p:AV) (r:List AV):(aF f C R).get h (.fn (.func k) [] [p]::r)=match bif Nat.beq k f then Km C h p else none,R.get h r with|some x,some y=>some (x,y)|_,_=>none:=id rfl
theorem V4 {P:Program} {T:ee} {l:Nat} {az:Nat} {L:SL} {st:St} {Q:QI} {ps:List Tmp} {ra rb:Code} {L0:SL} {α:Type} {b:Code} (keep:List Nat) (V : α→List AV) (O : α→List (Option bf)) (I : α→Prop) (μ : α→Nat) (x : α) (hx:I x)
 (hv:me az (ki az keep L st) (gy az keep L st) (V x) (O x))
 (step:∀ x,I x→n6 P T l (gi ps (fun p=>wl P T p ra) (fun p=>wl P T p rb) L0) az b (vk (yf az keep (fun vs os=>∃ y,I y ∧ μ y < μ x∧me az vs os (V y) (O y)) (fun _ _ _=>False)) Q) none (nm keep (V x)) (br (O x))):n6 P T l (gi ps (fun p=>wl P T p ra) (fun p=>wl P T p rb) L0) az (.loop b) Q none L st:=by
 have mono:∀ (Q1 Q2:QL),(∀ e L st,Q1 e L st→Q2 e L st)→∀ L st,n6 P T l (gi ps (fun p=>wl P T p ra) (fun p=>wl P T p rb) L0) az b (vk Q1 Q) none L st→n6 P T l (gi ps (fun p=>wl P T p ra) (fun p=>wl P T p rb) L0) az b (vk Q2 Q) none L st:=fun Q1 Q2 h L st hh=>Kt (H9 P T) b _ _ (fun e pe L st q=>by
  cases e with
  |normal=>exact ⟨q.1,h _ _ _ q.2⟩
  |ret=>exact q
  |exit i=>exact q) none L st hh
 exact ⟨rfl,sx.aon (B:=fun Q' L st=>n6 P T l _ az b (vk Q' Q) none L st) keep V O I μ x hx hv mono (fun x hi=>step x hi)⟩
end
end Go.Vm
