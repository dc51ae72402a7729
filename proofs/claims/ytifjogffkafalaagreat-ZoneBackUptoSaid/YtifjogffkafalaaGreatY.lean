/- Proved: where the arguments are together of bulk at most 1048576, the law ZoneBack returns true (records of a zone make it again in any order), and what it was given reads afterwards as it did before. No other conditions. -/
import Derived.WalkKit
import Derived.CallsIn
import Derived.RangeFuncIn
import Derived.RangeFuncLeaves
import Derived.Orders
import Derived.OrdersIn
import Derived.Scope
import Derived.RangeFuncOwn
import Derived.Stop.SameAnswer
import Derived.Laws.Externs
import Derived.Lib.Bytealg
import Derived.ProofKit
import Derived.OpenShut
import Derived.ReadAgain
import Derived.Deep.Slices
import Derived.ChangeSame
import Derived.Test.YtifjogffkafalaaGreatProg
import Derived.KernelRfl
import Derived.Test.YtifjogffkafalaaGreatRows
import Derived.Maps.RangeRun
import Derived.JoinedCond
import Derived.Test.YtifjogffkafalaaGreatY5
set_option linter.unusedSimpArgs false
set_option linter.unusedVariables false
section
namespace Go.Proofs.YtifjogffkafalaaGreat
open Go.Vm
set_option maxRecDepth 2000000
theorem aao (N:Nat) (X:List aw) (hN:N=X.length) (hs:N≤1048576) (hV:∀ x ∈ X,de x) :
 gp PP 96 [.sl 0 0 N 5,.sc (.int .i64 (N)),(.sc (.func (.func 78) #[] #[]))] (bb [some (.row (cellsOf aj true ((X))) 0 0 58)])
  (fun r st'=>r = .fc []∧st'=bb [some (.row (cellsOf aj true ((dg eh X))) 0 0 58)]):=by
 refine ct _ rfl ?_ (fun r st' h=>h)
 refine bm (T:=[]) (aq.nil PP) mixed Tryz.func96 rfl (by kernel_rfl) (by kernel_rfl) (by kernel_rfl) (by kernel_rfl) ?_;unfold Tryz.f96
 simp only [↓wR,RA,simprocAttr,TF,ae]
 refine c8 [0,1,2,6,7,8] (fun (x:List aw × List aw)=>[.sl 0 0 N 5,.sc (.int .i64 (N)),(.sc (.func (.func 78) #[] #[])),.sc (.int .i64 (20)),.sc (.int .i64 (x.1.length)),.sc (.int .i64 (((x.1.length+20:Nat):Int)))]) (fun x=>[some (.row (cellsOf aj true ((x.1++x.2))) 0 0 58)]) (fun x=>x.1++i4 eh 20 x.2=i4 eh 20 X∧x.1.length+x.2.length=N∧∀ y ∈ x.2,de y) (fun x=>x.2.length) ([],X) ⟨rfl,by rw [hN];simp,hV⟩ (by simp only [↓wR,RA,simprocAttr,TF,ae]<;>rfl) (by simp only [↓wR,RA,simprocAttr,TF,ae]<;>rfl) ?_
 rintro ⟨D,Y⟩ ⟨h1,h2,h3⟩
 simp only [] at h1 h2 h3 ⊢
 simp only [↓wR,RA,simprocAttr,TF,ae]
 rw [bj];refine ⟨fun h=>?_,fun h=>?_⟩
 ·have hle : 20≤Y.length:=by omega
  have hY:Y=Y.take 20++Y.drop 20:=(List.take_append_drop 20 Y).symm
  have hl1:(Y.take 20).length=20:=by rw [List.length_take];omega
  have hins:=Lo N D.length (D.length+20) D (Y.take 20) (Y.drop 20) (by simp only [List.length_append,List.length_take,List.length_drop];omega) hs rfl (by omega) (fun x hx=>h3 x (List.mem_of_mem_take hx))
  rw [show D++Y.take 20++Y.drop 20=D++Y by rw [List.append_assoc,List.take_append_drop]] at hins
  have hb1:((D.length+20:Nat):Int)+20=((D.length+20+20:Nat):Int):=by omega
  simp only [↓wR,RA,simprocAttr,TF,ae,h];repeat (simp (disch:=omega) only [ah,bh,bf,bg,be];try simp only [↓wR,RA,simprocAttr,TF,ae,h])
  refine ee hins ?_
  rintro _ _ ⟨rfl,rfl⟩
  simp only [↓wR,RA,simprocAttr,TF,ae,cx,hb1];repeat (simp (disch:=omega) only [ah,bh,bf,bg,be];try simp only [↓wR,RA,simprocAttr,TF,ae,cx,hb1])
  refine ⟨(D++dg eh (Y.take 20),Y.drop 20),⟨?_,?_,fun y hy=>h3 y (List.mem_of_mem_drop hy)⟩,?_,?_,?_⟩
  ·rw [← h1,Aq (l:=Y) (by decide) hle,List.append_assoc]
  ·simp only [List.length_append,ec,List.length_drop,hl1];omega
  ·simp only [List.length_drop];omega
  ·simp only [List.length_append,ec,hl1]<;>rfl
  ·rfl
 ·have hle:Y.length<20:=by omega
  have hins:=Lo N D.length N D Y [] (by simp only [List.length_append,List.length_nil];omega) hs rfl (by omega) h3
  rw [List.append_nil,List.append_nil,show D++dg eh Y=i4 eh 20 X by rw [← h1,qi (by omega)]] at hins
  simp only [↓wR,RA,simprocAttr,TF,ae,h];repeat (simp (disch:=omega) only [ah,bh,bf,bg,be];try simp only [↓wR,RA,simprocAttr,TF,ae,h])
  refine ee hins ?_
  rintro _ _ ⟨rfl,rfl⟩
  simp only [↓wR,RA,simprocAttr,TF,ae,cx];repeat (simp (disch:=omega) only [ah,bh,bf,bg,be];try simp only [↓wR,RA,simprocAttr,TF,ae,cx])
  refine c8 [0,1,2,6] (fun (k:Nat)=>[.sl 0 0 N 5,.sc (.int .i64 (N)),(.sc (.func (.func 78) #[] #[])),.sc (.int .i64 (k))]) (fun k=>[some (.row (cellsOf aj true ((i4 eh k X))) 0 0 58)]) (fun k=>0<k∧k≤2 * N+40) (fun k=>N - k) 20 ⟨by decide,by omega⟩ (by simp only [↓wR,RA,simprocAttr,TF,ae]<;>rfl) (by simp only [↓wR,RA,simprocAttr,TF,ae]<;>rfl) ?_
  clear h1 h2 h3 h hle hins D Y
  rintro k ⟨hk0,hk1⟩
  simp only [↓wR,RA,simprocAttr,TF,ae]
  rw [bj];refine ⟨fun h=>?_,fun h=>?_⟩
  ·have e2:(2:Int) * k=((k+k:Nat):Int):=by omega
   simp only [↓wR,RA,simprocAttr,TF,ae,h,e2];repeat (simp (disch:=omega) only [ah,bh,bf,bg,be];try simp only [↓wR,RA,simprocAttr,TF,ae,h,e2])
   refine c8 [0,1,2,6,7,8] (fun (x:List aw × List aw)=>[.sl 0 0 N 5,.sc (.int .i64 (N)),(.sc (.func (.func 78) #[] #[])),.sc (.int .i64 (k)),.sc (.int .i64 (x.1.length)),.sc (.int .i64 (((x.1.length+(k+k):Nat):Int)))]) (fun x=>[some (.row (cellsOf aj true ((x.1++i4 eh k x.2))) 0 0 58)]) (fun x=>x.1++i4 eh (k+k) x.2=i4 eh (k+k) X∧x.1.length+x.2.length=N∧∀ y ∈ x.2,de y) (fun x=>x.2.length) ([],X) ⟨rfl,by rw [hN];simp,hV⟩ (by simp only [↓wR,RA,simprocAttr,TF,ae]<;>simp) (by simp only [↓wR,RA,simprocAttr,TF,ae]<;>rfl) ?_
   rintro ⟨D,Y⟩ ⟨h1,h2,h3⟩
   simp only [] at h1 h2 h3 ⊢
   have hm1:(D.length:Int)+k=((D.length+k:Nat):Int):=by omega
   simp only [↓wR,RA,simprocAttr,TF,ae]
   rw [bj];refine ⟨fun h4=>?_,fun h4=>?_⟩
   ·have hle:k+k≤Y.length:=by omega
    have hb1:((D.length+(k+k):Nat):Int)+((k+k:Nat):Int)=((D.length+(k+k)+(k+k):Nat):Int):=by omega
    have l1:(Y.take k).length=k:=by rw [List.length_take];omega
    have l2:((Y.drop k).take k).length=k:=by rw [List.length_take,List.length_drop];omega
    have hsym:=N8 (k+k) N D.length (D.length+k) (D.length+(k+k)) D (dg eh (Y.take k)) (dg eh ((Y.drop k).take k)) (i4 eh k (Y.drop (k+k))) (by omega) (by simp only [List.length_append,ec,l1,l2,ai7 hk0 _ _ (Nat.le_refl _),List.length_drop];omega) hs rfl (by rw [ec,l1]) (by rw [ec,l2];omega) (by rw [ec,l1];exact hk0) (by rw [ec,l2];exact hk0) (fun x hx=>h3 x (List.mem_of_mem_take (gz.1 hx))) (fun x hx=>h3 x (List.mem_of_mem_drop (List.mem_of_mem_take (gz.1 hx)))) (l6 pv _ (fun y hy=>h3 y (List.mem_of_mem_take hy))) (l6 pv _ (fun y hy=>h3 y (List.mem_of_mem_drop (List.mem_of_mem_take hy))))
    rw [D0 pv _ _ (fun y hy=>h3 y (List.mem_of_mem_take hy)) (fun y hy=>h3 y (List.mem_of_mem_drop (List.mem_of_mem_take hy))),acf,show D++dg eh (Y.take k)++dg eh ((Y.drop k).take k)++i4 eh k (Y.drop (k+k))=D++i4 eh k Y by rw [aj1 hk0 hle];simp] at hsym
    simp only [↓wR,RA,simprocAttr,TF,ae,h4,hm1];repeat (simp (disch:=omega) only [ah,bh,bf,bg,be];try simp only [↓wR,RA,simprocAttr,TF,ae,h4,hm1])
    refine ee hsym ?_
    rintro _ _ ⟨rfl,rfl⟩
    simp only [↓wR,RA,simprocAttr,TF,ae,cx,e2,hb1];repeat (simp (disch:=omega) only [ah,bh,bf,bg,be];try simp only [↓wR,RA,simprocAttr,TF,ae,cx,e2,hb1])
    refine ⟨(D++dg eh (Y.take (k+k)),Y.drop (k+k)),⟨?_,?_,fun y hy=>h3 y (List.mem_of_mem_drop hy)⟩,?_,?_,?_⟩
    ·rw [← h1,Aq (l:=Y) (by omega) hle,List.append_assoc]
    ·simp only [List.length_append,ec,List.length_drop,List.length_take];omega
    ·simp only [List.length_drop];omega
    ·have:(D++dg eh (Y.take (k+k))).length=D.length+(k+k):=by simp only [List.length_append,ec,List.length_take];omega
     simp only [this]
    ·rfl
   ·have hle:Y.length<k+k:=by omega
    have e3:(k:Int) * 2=((k+k:Nat):Int):=by omega
    simp only [↓wR,RA,simprocAttr,TF,ae,h4,hm1];repeat (simp (disch:=omega) only [ah,bh,bf,bg,be];try simp only [↓wR,RA,simprocAttr,TF,ae,h4,hm1])
    rw [bj];refine ⟨fun h5=>?_,fun h5=>?_⟩
    ·have hlt:k<Y.length:=by omega
     have l1:(Y.take k).length=k:=by rw [List.length_take];omega
     have hsym:=N8 (k+k) N D.length (D.length+k) N D (dg eh (Y.take k)) (dg eh (Y.drop k)) [] (by omega) (by simp only [List.length_append,ec,l1,List.length_drop,List.length_nil];omega) hs rfl (by rw [ec,l1]) (by rw [ec,List.length_drop];omega) (by rw [ec,l1];exact hk0) (by rw [ec,List.length_drop];omega) (fun x hx=>h3 x (List.mem_of_mem_take (gz.1 hx))) (fun x hx=>h3 x (List.mem_of_mem_drop (gz.1 hx))) (l6 pv _ (fun y hy=>h3 y (List.mem_of_mem_take hy))) (l6 pv _ (fun y hy=>h3 y (List.mem_of_mem_drop hy)))
     rw [D0 pv _ _ (fun y hy=>h3 y (List.mem_of_mem_take hy)) (fun y hy=>h3 y (List.mem_of_mem_drop hy)),List.take_append_drop,List.append_nil,List.append_nil,show D++dg eh (Y.take k)++dg eh (Y.drop k)=D++i4 eh k Y by rw [adb hk0 hlt (by omega)];simp,show D++dg eh Y=i4 eh (k+k) X by rw [← h1,qi (by omega)]] at hsym
     simp only [↓wR,RA,simprocAttr,TF,ae,h5];repeat (simp (disch:=omega) only [ah,bh,bf,bg,be];try simp only [↓wR,RA,simprocAttr,TF,ae,h5])
     refine ee hsym ?_
     rintro _ _ ⟨rfl,rfl⟩
     simp only [↓wR,RA,simprocAttr,TF,ae,cx,e3];repeat (simp (disch:=omega) only [ah,bh,bf,bg,be];try simp only [↓wR,RA,simprocAttr,TF,ae,cx,e3])
     exact ⟨k+k,⟨by omega,by omega⟩,by omega,by (first|rfl|trivial|omega|((try (simp (disch:=omega) only [ah]));(try (simp only [FB]));first|done|rfl|omega)),by (first|rfl|trivial|omega|((try (simp (disch:=omega) only [ah]));(try (simp only [FB]));first|done|rfl|omega))⟩
    ·have hlt:Y.length≤k:=by omega
     rw [show D++i4 eh k Y=i4 eh (k+k) X by rw [← h1,qi hlt,qi (by omega)]]
     simp only [↓wR,RA,simprocAttr,TF,ae,h5,e3];repeat (simp (disch:=omega) only [ah,bh,bf,bg,be];try simp only [↓wR,RA,simprocAttr,TF,ae,h5,e3])
     exact ⟨k+k,⟨by omega,by omega⟩,by omega,by (first|rfl|trivial|omega|((try (simp (disch:=omega) only [ah]));(try (simp only [FB]));first|done|rfl|omega)),by (first|rfl|trivial|omega|((try (simp (disch:=omega) only [ah]));(try (simp only [FB]));first|done|rfl|omega))⟩
  ·have hle:X.length≤k:=by omega
   rw [qi hle]
   simp only [↓wR,RA,simprocAttr,TF,ae,h,gn,fy,fp]
theorem aa0 (N:Nat) (X:List aw) (hN:N=X.length) (hs:N≤1048576) (hV:∀ x ∈ X,de x) :
 gp PP 77 [.sl 0 0 N 5,(.sc (.func (.func 78) #[] #[]))] (bb [some (.row (cellsOf aj true ((X))) 0 0 58)])
  (fun r st'=>r = .fc []∧st'=bb [some (.row (cellsOf aj true ((dg eh X))) 0 0 58)]):=by
 refine ct _ rfl ?_ (fun r st' h=>h)
 refine bm (T:=[]) (aq.nil PP) mixed Tryz.func77 rfl (by kernel_rfl) (by kernel_rfl) (by kernel_rfl) (by kernel_rfl) ?_;unfold Tryz.f77
 simp only [↓wR,RA,simprocAttr,TF,ae]
 refine ee (aao N X hN hs hV) ?_
 rintro _ _ ⟨rfl,rfl⟩
 simp only [↓wR,RA,simprocAttr,TF,ae,cx,gn,fy,fp]
theorem ap5 (l:List aw) (hl:Ds l) (hl2:l.length≤1048576):wl PP [avd] 0 (Tryz.f47.body.getD .skip) (du PP Tryz.f47.results.toList (fun r st=>(r1 (cd aj)).get true st.h r=some (dg eh l))) (cg 0 [(cd aj).val false l]) (bb []):=by
 have hlen:=hl.1
 unfold Tryz.f47
 simp only [↓wR,RA,simprocAttr,TF,ae]
 refine n8 [6,7,8,3] (fun (x:List aw)=>[.vl false 5 (l.map (aj.val false)),.sc (.int .i64 (l.length)),.sc (.int .i64 (x.length)),.sl 0 0 x.length 5]) (fun x=>[some (.row (cellsOf aj true ((x))) 0 0 58)]) (fun x=>x.length≤l.length∧x++l.drop x.length=l) (fun x=>l.length - x.length) [] ⟨Nat.zero_le _,rfl⟩ (by simp only [↓wR,RA,simprocAttr,TF,ae];(refine tu.lax [] (by first|exact Nat.le_of_ble_eq_true rfl|(simp [br];omega)) ?_ ?_<;>repeat' first|exact j0.nil|exact dp.nil|exact ke.same _|exact ke.nil _ _ _|exact ke.yk _ _|exact dp.refl _ _|apply j0.cons|apply dp.ghost|apply dp.same|apply dp.row)) ?_
 rintro x ⟨hi,hx⟩
 simp only [↓wR,RA,simprocAttr,TF,ae]
 rw [bj];refine ⟨fun h=>?_,fun h=>?_⟩
 ·obtain ⟨c,hc,hd1,hlt⟩:=gm (decide_eq_true h)
  rw [hd1] at hx
  have hcs:=hl.2 c (List.mem_of_getElem? hc)
  have hlim:(x.length * 5+5) * 64≤140737488355328:=by omega
  simp only [↓wR,RA,simprocAttr,TF,ae,h,hc,Cd,hcs,hlim];repeat (simp (disch:=omega) only [ah,bh,bf,bg,be];try simp only [↓wR,RA,simprocAttr,TF,ae,h,hc,Cd,hcs,hlim])
  refine ⟨x++[c],⟨by simp;omega,by simpa using hx⟩,by simp;omega,by (first|rfl|trivial|omega|((try (simp (disch:=omega) only [ah]));(try (simp only [FB]));first|done|rfl|omega)),?_⟩
  rw [M7]
 ·rw [jh (decide_eq_false h),List.append_nil] at hx
  subst hx
  simp only [↓wR,RA,simprocAttr,TF,ae,h]
  refine ee (aa0 x.length x rfl hl2 hl.2) ?_
  rintro _ _ ⟨rfl,rfl⟩
  simp only [↓wR,RA,simprocAttr,TF,ae,cx]
  exact nh aj true _ true (dg eh x) 0 0 _ x.length (by rw [ec]) rfl
noncomputable def I2 (x:List aw × Unit):Option AV:=if Ds x.1∧x.1.length≤1048576 then some ((r1 (cd aj)).E true (dg eh x.1)) else none
set_option maxRecDepth 2000000 in
theorem ahp (x:List aw × Unit) (r:AV) (h:I2 x=some r):bu PP 47 ((aC (cd aj) a0).E x) r:=by
 by_cases hc:Ds x.1∧x.1.length≤1048576
 case neg=>simp only [I2,if_neg hc] at h;cases h
 simp only [I2,if_pos hc] at h
 cases h
 exact bk (aq.cons (ar adj) (aq.nil PP)) Tryz.func47 (by kernel_rfl) (by kernel_rfl) (by kernel_rfl) (Nat.le_of_ble_eq_true (by kernel_rfl)) (r1 (cd aj)) true (dg eh x.1) (ap5 x.1 hc.1 hc.2)
noncomputable abbrev ays:Nat × Bool × (List AV→M AV):=(47,true,dq (aC (cd aj) a0) I2)
theorem ac5 (s:aw) (hs:de s):gp PP 76 [aj.val false s] (bb [])
 (fun r st'=>r = .agg [.vl true 1 (s.owner.map (ai.val false)),.sc (.int .u16 s.type.toNat),.sc (.int .u16 s.cls.toNat),.sc (.int .u32 s.b7.toNat),.sl 0 0 s.data.length 4]∧st'=bb [some (.row (cellsOf ak true ((s.data))) 0 0 44)]):=by
 have ho:=hs.owner
 have hd:=hs.data
 have hn:=hd.len
 refine ct _ rfl ?_ (fun r st' h=>h)
 simp only [jn]
 refine bm (T:=[j3,mi]) (aq.cons (ar o9) (aq.cons (ar zf) (aq.nil PP))) mixed Tryz.func76 rfl (by kernel_rfl) (by kernel_rfl) (by kernel_rfl) (by kernel_rfl) ?_;unfold Tryz.f76
 simp only [↓wR,RA,simprocAttr,TF,ae,mw,ho]
 refine n8 [2,13,14,15,3] (fun (x:List bn)=>[.ptr 0 0,.vl false 4 (s.data.map (ak.val false)),.sc (.int .i64 (s.data.length)),.sc (.int .i64 (x.length)),.ptr 1 0]) (fun x=>[some (.row [.sc (.slice none 0 0),.sc (.int .u16 0),.sc (.int .u16 0),.sc (.int .u32 0),.sc (.slice none 0 0)] 0 2 58),some (.row [az.val true s.owner,.sc (.int .u16 s.type.toNat),.sc (.int .u16 s.cls.toNat),.sc (.int .u32 s.b7.toNat),.sl 2 0 x.length 4] 0 2 58),some (.row (cellsOf ak true ((x))) 0 0 44)]) (fun x=>x.length≤s.data.length∧x++s.data.drop x.length=s.data) (fun x=>s.data.length - x.length) [] ⟨Nat.zero_le _,rfl⟩ (by simp only [↓wR,RA,simprocAttr,TF,ae];(refine tu.lax [] (by first|exact Nat.le_of_ble_eq_true rfl|(simp [br];omega)) ?_ ?_<;>repeat' first|exact j0.nil|exact dp.nil|exact ke.same _|exact ke.nil _ _ _|exact ke.yk _ _|exact dp.refl _ _|apply j0.cons|apply dp.ghost|apply dp.same|apply dp.row)) ?_
 rintro x ⟨hi,hx⟩
 simp only [↓wR,RA,simprocAttr,TF,ae]
 rw [bj];refine ⟨fun h=>?_,fun h=>?_⟩
 ·obtain ⟨c,hc,hd1,hlt⟩:=gm (decide_eq_true h)
  rw [hd1] at hx
  have hcs:=hd.mem c (List.mem_of_getElem? hc)
  simp only [↓wR,RA,simprocAttr,TF,ae,h,hc]
  refine ⟨by kernel_rfl,.inl ?_⟩
  have hlim:(x.length * 4+4) * 96≤140737488355328:=by omega
  simp only [↓wR,RA,simprocAttr,TF,ae,pa,hcs,hlim]
  refine ⟨by kernel_rfl,x++[c],⟨by simp;omega,by simpa using hx⟩,by simp;omega,by (first|rfl|trivial|omega|((try (simp (disch:=omega) only [ah]));(try (simp only [FB]));first|done|rfl|omega)),?_⟩
  rw [Dq,List.length_append];rfl
 ·rw [jh (decide_eq_false h)] at hx
  rw [List.append_nil] at hx
  subst hx
  simp only [↓wR,RA,simprocAttr,TF,ae,h,gn,fy,fp,dt]
noncomputable def dn (s:aw):aw:=if s.data.all (fun d=>decide (c7 s.type d=0))=true then ld s.owner s.type s.cls s.b7 (dg (fe s.type) s.data) else s
theorem atk (s:aw) (hs:de s) (hl:s.data.length≤1048576):wl PP [j9] 0 (Tryz.f48.body.getD .skip) (du PP Tryz.f48.results.toList (fun r st=>(r1 aj).get true st.h r=some (dn s))) (cg 0 [aj.val false s]) (bb []):=by
 have ho:=hs.owner
 have hd:=hs.data
 have hn:=hd.len
 unfold Tryz.f48
 simp only [jn]
 simp only [↓wR,RA,simprocAttr,TF,ae]
 refine rk [] (ac5 s hs) (by decide) (by simp only [↓wR,RA,simprocAttr,TF,ae]) (by simp only [↓wR,RA,simprocAttr,TF,ae]) (Nat.le_of_ble_eq_true rfl) (by simp only [↓wR,RA,simprocAttr,TF,ae,jn]) (by simp only [↓wR,RA,simprocAttr,TF,ae]) ⟨Nat.le_of_ble_eq_true rfl,Nat.le_of_ble_eq_true rfl⟩ ?_
 simp only [↓wR,RA,simprocAttr,TF,ae,cx,lq,oo,ph,yh]
 refine c8 [1,2,3,9,10,11] (fun (i:Nat)=>[.ptr 0 0,.ptr 1 0,.ptr 2 0,.vl false 4 (s.data.map (ak.val false)),.sc (.int .i64 (s.data.length)),.sc (.int .i64 (i))]) (fun _=>[some (.row [.vl false 1 (s.owner.map (ai.val false)),.sc (.int .u16 s.type.toNat),.sc (.int .u16 s.cls.toNat),.sc (.int .u32 s.b7.toNat),.vl false 4 (s.data.map (ak.val false))] 0 2 58),some (.row [.sc (.slice none 0 0),.sc (.int .u16 0),.sc (.int .u16 0),.sc (.int .u32 0),.sc (.slice none 0 0)] 0 2 58),some (.row [az.val true s.owner,.sc (.int .u16 s.type.toNat),.sc (.int .u16 s.cls.toNat),.sc (.int .u32 s.b7.toNat),.sl 3 0 s.data.length 4] 0 2 58),some (.row (cellsOf ak true ((s.data))) 0 0 44)]) (fun i=>i≤s.data.length∧s.data.all (fun d=>decide (c7 s.type d=0))=(s.data.drop i).all (fun d=>decide (c7 s.type d=0))) (fun i=>s.data.length - i) 0 ⟨Nat.zero_le _,rfl⟩ (by simp only [↓wR,RA,simprocAttr,TF,ae]<;>rfl) (by simp only [↓wR,RA,simprocAttr,TF,ae]<;>rfl) ?_
 rintro i ⟨hi,hx⟩
 simp only [↓wR,RA,simprocAttr,TF,ae]
 rw [bj];refine ⟨fun h=>?_,fun h=>?_⟩
 ·obtain ⟨c,hc,hd1,hlt⟩:=gm (decide_eq_true h)
  rw [hd1,List.all_cons] at hx
  have hcs:=hd.mem c (List.mem_of_getElem? hc)
  simp only [↓wR,RA,simprocAttr,TF,ae,h,hc,i7,hcs]
  rw [ed];refine ⟨fun ⟨h2,e2⟩=>?_,fun ⟨h2,e2⟩=>?_⟩
  ·have hv:dn s=s:=by unfold dn;rw [hx,decide_eq_false e2];rfl
   simp only [↓wR,RA,simprocAttr,TF,ae,h2]
   rw [hv]
  ·have e3:c7 s.type c=0:=by omega
   rw [decide_eq_true e3,Bool.true_and] at hx
   simp only [↓wR,RA,simprocAttr,TF,ae,h2];repeat (simp (disch:=omega) only [ah,bh,bf,bg,be];try simp only [↓wR,RA,simprocAttr,TF,ae,h2])
   exact ⟨i+1,⟨hlt,hx⟩,by omega,by (first|rfl|trivial|omega|((try (simp (disch:=omega) only [ah]));(try (simp only [FB]));first|done|rfl|omega))⟩
 ·rw [jh (decide_eq_false h),List.all_nil] at hx
  have hv:dn s=ld s.owner s.type s.cls s.b7 (dg (fe s.type) s.data):=by unfold dn;rw [if_pos hx]
  have hg:∀ d ∈ s.data,tx s.type d:=fun d hdm=>⟨hd.mem d hdm,of_decide_eq_true (List.all_eq_true.1 hx d hdm)⟩
  simp only [↓wR,RA,simprocAttr,TF,ae,h]
  refine rk [3,0] (aa5 s s.data.length s.data rfl hl hg) (by decide) (by simp only [↓wR,RA,simprocAttr,TF,ae]) (by simp only [↓wR,RA,simprocAttr,TF,ae]) (Nat.le_of_ble_eq_true rfl) (by simp only [↓wR,RA,simprocAttr,TF,ae]) (by simp only [↓wR,RA,simprocAttr,TF,ae]) ⟨Nat.le_of_ble_eq_true rfl,Nat.le_of_ble_eq_true rfl⟩ ?_
  simp only [↓wR,RA,simprocAttr,TF,ae,cx,lq,oo,ph,yh]
  rw [hv,nh ak true _ true (dg (fe s.type) s.data) 0 0 _ s.data.length (by rw [ec]) rfl]
noncomputable def Bu (x:aw × Unit):Option AV:=if de x.1∧x.1.data.length≤1048576 then some ((r1 aj).E true (dn x.1)) else none
set_option maxRecDepth 2000000 in
theorem abo (x:aw × Unit) (r:AV) (h:Bu x=some r):bu PP 48 ((aC aj a0).E x) r:=by
 by_cases hc:de x.1∧x.1.data.length≤1048576
 case neg=>simp only [Bu,if_neg hc] at h;cases h
 simp only [Bu,if_pos hc] at h
 cases h
 exact bk (aq.cons (ar ug) (aq.nil PP)) Tryz.func48 (by kernel_rfl) (by kernel_rfl) (by kernel_rfl) (Nat.le_of_ble_eq_true (by kernel_rfl)) (r1 aj) true (dn x.1) (atk x.1 hc.1 hc.2)
noncomputable abbrev avn:Nat × Bool × (List AV→M AV):=(48,true,dq (aC aj a0) Bu)
theorem Z9 (l:Name):AV.fresh.go (l.map (ai.val false))=true:=Aw (fun c hc=>by obtain ⟨x,_,rfl⟩:=List.mem_map.1 hc;exact Lk ai x)
theorem Ka (l:List aw):AV.fresh.go (l.map (aj.val true))=true:=Aw (fun c hc=>by obtain ⟨x,_,rfl⟩:=List.mem_map.1 hc;exact Lk aj x)
theorem Je {α:Type} {μ : α→Nat} {l r:List α} (h:l.Perm r):di μ l=di μ r:=by
 induction h with
 |nil=>rfl
 |cons a _ ih=>simp only [di,List.foldr_cons] at ih ⊢;rw [ih]
 |swap a b l=>simp only [di,List.foldr_cons];omega
 |trans _ _ i j=>exact i.trans j
theorem aws {α:Type} {μ : α→Nat} {f : α → α} (h:∀ x,μ (f x) = μ x) (l:List α):di μ (l.map f)=di μ l:=by
 induction l with
 |nil=>rfl
 |cons a l ih=>simp only [di,List.map_cons,List.foldr_cons] at ih ⊢;rw [ih,h]
theorem apz (s:aw):lh (dn s)=lh s:=by
 unfold dn
 split
 ·unfold lh
  show _=_
  have:=Je (μ:=lf) (xq (lt:=fe s.type) s.data)
  simp only [ao8,asq] at *
  first|omega|rw [this]
 ·rfl
noncomputable def D7 (l:List aw):List aw:=(dg eh l).map dn
theorem avi (l:List aw):di lh (D7 l)=di lh l:=by
 unfold D7
 rw [aws apz,Je (xq l)]
noncomputable def Gp (n:Name) (l:List aw):cw × Int:=if kf (F9 n (D7 l))=0 then (F9 n (D7 l),0) else (F9 [] [],kf (F9 n (D7 l)))
theorem awn (n:Name) (l:List aw) (hw:bt n+di lh l≤16777216) (hl:l.length≤1048576) (hd:∀ s ∈ l,s.data.length≤1048576):wl PP [j3,ays,avn,Ux] 0 (Tryz.f29.body.getD .skip) (du PP Tryz.f29.results.toList (fun r st=>(r2 eg (bc .i64)).get true st.h r=some (Gp n l))) (cg 0 [az.val false n,(cd aj).val false l]) (bb []):=by
 have hq:∀ a b c d,c0 a b c=d→c0 a b c=d:=fun _ _ _ _ h=>h
 have hn:cp n:=by unfold cp;omega
 have hsl:y5 l:=by unfold y5;omega
 have hm:Ds l:=⟨Nat.le_trans hl (by decide),hsl.mem⟩
 obtain ⟨L,hL⟩:∃ L,L=dg eh l:=⟨_,rfl⟩
 have hLl:L.length=l.length:=by rw [hL,ec]
 have hLm:∀ s ∈ L,de s∧s.data.length≤1048576:=fun s h=>by rw [hL,gz] at h;exact ⟨hsl.mem s h,hd s h⟩
 have hz:dw (F9 n (L.map dn)):=by
  have:=avi l
  unfold D7 at this
  rw [← hL] at this
  show bt n+di lh (L.map dn)≤16777216
  omega
 have hmv:Gp n l=if kf (F9 n (L.map dn))=0 then (F9 n (L.map dn),0) else (F9 [] [],kf (F9 n (L.map dn))):=by unfold Gp D7;rw [← hL]
 rw [hmv]
 unfold Tryz.f29
 simp only [dt]
 simp only [↓wR,RA,simprocAttr,TF,ae,mw,hn,I2,hm,hl,← hL]
 refine n8 [4,14,15,16,6] (fun (i:Nat)=>[.ptr 0 0,.vl true 5 (L.map (aj.val true)),.sc (.int .i64 (L.length)),.sc (.int .i64 (i)),.ptr 1 0]) (fun i=>[some (.row [.sc (.slice none 0 0),.sc (.slice none 0 0)] 0 2 26),some (.row [az.val true n,.sl 2 0 i 5] 0 2 26),some (.row (cellsOf aj true (((L.take i).map dn))) 0 0 58)]) (fun i=>i≤L.length) (fun i=>L.length - i) 0 (Nat.zero_le _) (by simp only [↓wR,RA,simprocAttr,TF,ae];(refine tu.lax [] (by first|exact Nat.le_of_ble_eq_true rfl|(simp [br];omega)) ?_ ?_<;>repeat' first|exact j0.nil|exact dp.nil|exact ke.same _|exact ke.nil _ _ _|exact ke.yk _ _|exact dp.refl _ _|apply j0.cons|apply dp.ghost|apply dp.same|apply dp.row)) ?_
 intro i hi
 simp only [↓wR,RA,simprocAttr,TF,ae]
 rw [bj];refine ⟨fun h=>?_,fun h=>?_⟩
 ·obtain ⟨c,hc,hd1,hlt⟩:=gm (decide_eq_true h)
  obtain ⟨c1,c2⟩:=hLm c (List.mem_of_getElem? hc)
  have hlen:((L.take i).map dn).length=i:=by rw [List.length_map,List.length_take];omega
  have hlim:(i * 5+5) * 64≤140737488355328:=by omega
  have hnx:(L.take (i+1)).map dn=(L.take i).map dn++[dn c]:=by rw [iq hc,List.map_append];rfl
  simp only [↓wR,RA,simprocAttr,TF,ae,h,hc]
  refine ⟨by kernel_rfl,.inl ?_⟩
  simp only [↓wR,RA,simprocAttr,TF,ae,Bu,c1,c2,hlen,hlim];repeat (simp (disch:=omega) only [ah,bh,bf,bg,be];try simp only [↓wR,RA,simprocAttr,TF,ae,Bu,c1,c2,hlen,hlim])
  refine ⟨by apply hq;kernel_rfl,i+1,hlt,by omega,by (first|rfl|trivial|omega|((try (simp (disch:=omega) only [ah]));(try (simp only [FB]));first|done|rfl|omega)),?_⟩
  rw [hnx,M7]
 ·have hin:i=L.length:=by omega
  subst hin
  rw [List.take_length]
  simp only [↓wR,RA,simprocAttr,TF,ae,h,B2,hz]
  rw [ed];refine ⟨fun ⟨h2,e2⟩=>?_,fun ⟨h2,e2⟩=>?_⟩
  ·rw [if_neg e2]
   simp only [↓wR,RA,simprocAttr,TF,ae,h2]
   try rfl
  ·rw [if_pos (by omega)]
   simp only [↓wR,RA,simprocAttr,TF,ae,h2]
   try rfl
noncomputable def Lu (x:Name × List aw × Unit):Option AV:=if bt x.1+di lh x.2.1≤16777216∧x.2.1.length≤1048576∧∀ s ∈ x.2.1,s.data.length≤1048576 then some ((r2 eg (bc .i64)).E true (Gp x.1 x.2.1)) else none
set_option maxRecDepth 2000000 in
theorem ak1 (x:Name × List aw × Unit) (r:AV) (h:Lu x=some r):bu PP 29 ((aC az (aC (cd aj) a0)).E x) r:=by
 by_cases hc:bt x.1+di lh x.2.1≤16777216∧x.2.1.length≤1048576∧∀ s ∈ x.2.1,s.data.length≤1048576
 case neg=>simp only [Lu,if_neg hc] at h;cases h
 simp only [Lu,if_pos hc] at h
 cases h
 exact bk (aq.cons (ar o9) (aq.cons (ar ahp) (aq.cons (ar abo) (aq.cons (ar Hu) (aq.nil PP))))) Tryz.func29 (by kernel_rfl) (by kernel_rfl) (by kernel_rfl) (Nat.le_of_ble_eq_true (by kernel_rfl)) (r2 eg (bc .i64)) true (Gp x.1 x.2.1) (awn x.1 x.2.1 hc.1 hc.2.1 hc.2.2)
noncomputable abbrev azt:Nat × Bool × (List AV→M AV):=(29,true,dq (aC az (aC (cd aj) a0)) Lu)
theorem ads {α:Type} (μ : α→Nat) (l r:List α):di μ (l++r)=di μ l+di μ r:=by
 induction l with
 |nil=>simp [di]
 |cons a l ih=>simp only [di,List.cons_append,List.foldr_cons] at *;omega
def Cj (x n:Int):Int:=if n<1 then 0 else if Int.tmod x n<0 then Int.tmod x n+n else Int.tmod x n
theorem avu (x n:Int) (hn:n<4611686018427387904):wl PP [] 0 (Tryz.f8.body.getD .skip) (du PP Tryz.f8.results.toList (fun r st=>(r1 (bc .i64)).get true st.h r=some (Cj x n))) (cg 0 [(bc .i64).val false x,(bc .i64).val false n]) (bb []):=by
 unfold Tryz.f8
 simp only [↓wR,RA,simprocAttr,TF,ae]
 rw [bj];refine ⟨fun h=>?_,fun h=>?_⟩
 ·rw [Cj,if_pos h]
  simp only [↓wR,RA,simprocAttr,TF,ae,h]
 ·have hn0:n≠0:=by omega
  have hnn:¬ n<1:=of_decide_eq_false (by simpa using h)
  have hlo:=Int.tmod_lt_of_pos x (show 0<n by omega)
  have hlo2 : -n<Int.tmod x n:=by have:=Int.lt_tmod_of_pos x (show 0<n by omega);omega
  rw [Cj,if_neg hnn]
  have her:=anw (P:=PP) (t:=3) .i64 x n hn0
  simp only [↓wR,RA,simprocAttr,TF,ae,h,her]
  rw [bj];refine ⟨fun h3=>?_,fun h3=>?_⟩
  ·have hw:IntKind.i64.wrap (Int.tmod x n+n)=Int.tmod x n+n:=ah _ (by omega) (by omega)
   rw [if_pos h3]
   simp only [↓wR,RA,simprocAttr,TF,ae,h3,hw]
  ·rw [if_neg h3]
   simp only [↓wR,RA,simprocAttr,TF,ae,h3]
noncomputable def Li (x:Int × Int × Unit):Option AV:=if x.2.1<4611686018427387904 then some ((r1 (bc .i64)).E true (Cj x.1 x.2.1)) else none
set_option maxRecDepth 2000000 in
theorem al5 (x:Int × Int × Unit) (r:AV) (h:Li x=some r):bu PP 8 ((aC (bc .i64) (aC (bc .i64) a0)).E x) r:=by
 by_cases hc:x.2.1<4611686018427387904
 case neg=>simp only [Li,if_neg hc] at h;cases h
 simp only [Li,if_pos hc] at h
 cases h
 exact bk (aq.nil PP) Tryz.func8 (by kernel_rfl) (by kernel_rfl) (by kernel_rfl) (Nat.le_of_ble_eq_true (by kernel_rfl)) (r1 (bc .i64)) true (Cj x.1 x.2.1) (avu x.1 x.2.1 hc)
noncomputable abbrev aul:Nat × Bool × (List AV→M AV):=(8,true,dq (aC (bc .i64) (aC (bc .i64) a0)) Li)
theorem ash (x:Int) {n:Int} (hn : 0<n) : 0≤Cj x n∧Cj x n<n:=by
 have hlo:=Int.tmod_lt_of_pos x hn
 have hlo2:=Int.lt_tmod_of_pos x hn
 unfold Cj
 rw [if_neg (by omega)]
 split<;>omega
theorem keyBytes_inj:∀ (a b:Name),(∀ l ∈ a,l.size<256)→(∀ l ∈ b,l.size<256)→keyBytes a=keyBytes b→a=b
 | [],[],_,_,_=>rfl
 | [],y::b,_,_,h=>by simp [keyBytes] at h
 |x::a,[],_,_,h=>by simp [keyBytes] at h
 |x::a,y::b,ha,hb,h=>by
  have h':UInt8.ofNat x.size::x.data.toList++keyBytes a=UInt8.ofNat y.size::y.data.toList++keyBytes b:=h
  simp only [List.cons_append,List.cons.injEq] at h'
  obtain ⟨h1,h2⟩:=h'
  have hx:=ha x (by simp)
  have hy:=hb y (by simp)
  have hs:x.size=y.size:=by
   have:=congrArg UInt8.toNat h1
   simp only [UInt8.toNat_ofNat'] at this
   omega
  have hlx:x.data.toList.length=x.size:=Array.length_toList
  have hly:y.data.toList.length=y.size:=Array.length_toList
  obtain ⟨q1,q2⟩:=List.append_inj h2 (by omega)
  have hxy:x=y:=by
   obtain ⟨dx⟩:=x
   obtain ⟨dy⟩:=y
   have:dx=dy:=Array.ext' q1
   rw [this]
  rw [hxy,keyBytes_inj a b (fun l hl=>ha l (by simp [hl])) (fun l hl=>hb l (by simp [hl])) q2]
theorem V2 {n:Name} (h:cy n=0):∀ l ∈ n,l.size<256:=fun l hl=>by
 unfold cy at h
 split at h
 ·cases h
 rename_i hb
 have:¬ jy l≠0:=fun hne=>hb (by
  unfold su;rw [List.any_eq_true];exact ⟨l,hl,decide_eq_true hne⟩)
 unfold jy at this
 split at this
 ·exact absurd (by decide) this
 ·omega
theorem Jj {a b:Name} (ha:cy a=0) (hb:cy b=0):uc a=uc b↔fw a=fw b:=by
 refine ⟨fun h=>?_,fun h=>by unfold uc;rw [h]⟩
 unfold uc at h
 have h1:(keyBytes (fw a)).toArray=(keyBytes (fw b)).toArray:=by rw [ByteArray.mk.injEq] at h;exact h
 have h2:keyBytes (fw a)=keyBytes (fw b):=by simpa using congrArg Array.toList h1
 refine keyBytes_inj _ _ (fun l hl=>?_) (fun l hl=>?_) h2
 ·obtain ⟨m,hm,rfl⟩:=List.mem_map.1 hl
  rw [G6];exact V2 ha m hm
 ·obtain ⟨m,hm,rfl⟩:=List.mem_map.1 hl
  rw [G6];exact V2 hb m hm
theorem Tc {k:iz}:∀ (ks:List iz) (i:Nat),j7 k i ks=none↔k ∉ ks
 | [],i=>by simp [j7]
 |a::r,i=>by
  unfold j7
  by_cases e:k=a
  ·rw [if_pos e];simp [e]
  ·rw [if_neg e,Tc r (i+1)];simp [e]
theorem xl {k:iz}:∀ (ks:List iz) (i j:Nat),j7 k i ks=some j→∃ p,j=i+p∧ks[p]? = some k
 | [],i,j,h=>by cases h
 |a::r,i,j,h=>by
  unfold j7 at h
  by_cases e:k=a
  ·rw [if_pos e] at h;cases h;exact ⟨0,rfl,by rw [e];rfl⟩
  ·rw [if_neg e] at h
   obtain ⟨p,h1,h2⟩:=xl r (i+1) j h
   exact ⟨p+1,by omega,h2⟩
structure ov (q:List ff) (L:List aw):Prop where
 keys:(L.map bq).Nodup
 O7:∀ s ∈ L,cy s.owner=0∧(∃ r ∈ q,fu r=bq s∧r.b7=s.b7)∧∀ r ∈ q,fu r=bq s→s.b7.toNat≤r.b7.toNat
 data:∀ s ∈ L,∀ d ∈ s.data,c7 s.type d=0∧∃ r ∈ q,fu r=bq s∧r.data=d
 apart:∀ s ∈ L,g7 s.type [] s.data=0
 amu:∀ s ∈ L,0<s.data.length
 all:∀ r ∈ q,cy r.owner=0∧c7 r.type r.data=0∧∃ s ∈ L,bq s=fu r∧np s.type s.data r.data=true
theorem ov.nil:ov [] []:=⟨List.nodup_nil,fun s hs=>(by cases hs),fun s hs=>(by cases hs),fun s hs=>(by cases hs),fun s hs=>(by cases hs),fun r hr=>(by cases hr)⟩
theorem E2 (t:UInt16) (d:bn):∀ (l acc:List bn),g7 t acc l=0→c7 t d=0→np t (acc++l) d=false→g7 t acc (l++[d])=0
 | [],acc,_,h1,h2=>by
  rw [List.append_nil] at h2
  show g7 t acc [d]=0
  rw [g7,if_neg (by rw [h1];simp),if_neg (by rw [h2];simp)]
  rfl
 |x::l,acc,h,h1,h2=>by
  rw [g7] at h
  show g7 t acc (x::(l++[d]))=0
  rw [g7]
  split at h
  ·exact absurd h (by assumption)
  rename_i e1
  split at h
  ·cases h
  rename_i e2
  rw [if_neg e1,if_neg e2]
  exact E2 t d l (acc++[x]) h h1 (by rw [List.append_assoc];exact h2)
theorem ov.new {q:List ff} {L:List aw} (h:ov q L) {r:ff} (h1:cy r.owner=0) (h2:c7 r.type r.data=0) (hk:j7 (fu r) 0 (L.map bq)=none):ov (q++[r]) (L++[ld r.owner r.type r.cls r.b7 [r.data]]):=by
 have hk':=(Tc _ 0).1 hk
 have hkey:bq (ld r.owner r.type r.cls r.b7 [r.data])=fu r:=rfl
 have hself:np r.type [r.data] r.data=true:=by
  unfold np;rw [List.any_cons,D9 h2];rfl
 have hnok:∀ r' ∈ q,fu r'≠fu r:=fun r' hr' e=>by
  obtain ⟨_,_,s,hs,e2,_⟩:=h.all r' hr'
  exact hk' (List.mem_map.2 ⟨s,hs,by rw [e2,e]⟩)
 have hnos:∀ s ∈ L,bq s≠fu r:=fun s hs e=>hk' (List.mem_map.2 ⟨s,hs,e⟩)
 refine ⟨?_,fun s hs=>?_,fun s hs d hd=>?_,fun s hs=>?_,fun s hs=>?_,fun r' hr'=>?_⟩
 ·rw [List.map_append,List.map_cons,List.map_nil,hkey,List.nodup_append]
  exact ⟨h.keys,by simp,fun a ha b hb e=>hk' (by simp only [List.mem_singleton] at hb;rw [← hb,← e];exact ha)⟩
 ·rcases List.mem_append.1 hs with hsL|hs
  ·obtain ⟨a1,⟨r1,a2,a3⟩,a4⟩:=h.O7 s hsL
   refine ⟨a1,⟨r1,by simp [a2],a3⟩,fun r' hr' e=>?_⟩
   rcases List.mem_append.1 hr' with hr'|hr'
   ·exact a4 r' hr' e
   ·simp only [List.mem_singleton] at hr';subst hr';exact absurd e.symm (hnos s hsL)
  ·simp only [List.mem_singleton] at hs;subst hs
   refine ⟨h1,⟨r,by simp,rfl,rfl⟩,fun r' hr' e=>?_⟩
   rcases List.mem_append.1 hr' with hr'|hr'
   ·exact absurd e (hnok r' hr')
   ·simp only [List.mem_singleton] at hr';subst hr';exact Nat.le_refl _
 ·rcases List.mem_append.1 hs with hs|hs
  ·obtain ⟨a1,r1,a2,a3⟩:=h.data s hs d hd
   exact ⟨a1,r1,by simp [a2],a3⟩
  ·simp only [List.mem_singleton] at hs;subst hs
   have hd:d=r.data:=List.mem_singleton.1 hd
   subst hd
   exact ⟨h2,r,by simp,rfl,rfl⟩
 ·rcases List.mem_append.1 hs with hs|hs
  ·exact h.apart s hs
  ·simp only [List.mem_singleton] at hs;subst hs
   exact E2 r.type r.data [] [] rfl h2 rfl
 ·rcases List.mem_append.1 hs with hs|hs
  ·exact h.amu s hs
  ·simp only [List.mem_singleton] at hs;subst hs;show 0<1;omega
 ·rcases List.mem_append.1 hr' with hr'|hr'
  ·obtain ⟨a1,a2,s,hs,a3⟩:=h.all r' hr'
   exact ⟨a1,a2,s,by simp [hs],a3⟩
  ·simp only [List.mem_singleton] at hr';subst hr'
   exact ⟨h1,h2,ld r'.owner r'.type r'.cls r'.b7 [r'.data],by simp,rfl,hself⟩
theorem awg (a b:UInt32):(pc a b).toNat≤a.toNat∧(pc a b).toNat≤b.toNat∧(pc a b=a∨pc a b=b):=by
 unfold pc
 split
 ·exact ⟨by omega,Nat.le_refl _,.inr rfl⟩
 ·exact ⟨Nat.le_refl _,by omega,.inl rfl⟩
theorem ov.ko {q:List ff} {L:List aw} (h:ov q L) {r:ff} {i:Nat} {s:aw} {d':List bn} (hs:L[i]? = some s) (hk:fu r=bq s) (h1:cy r.owner=0) (h2:c7 r.type r.data=0)
 (hd:∀ d ∈ d',d ∈ s.data∨d=r.data) (ha:g7 s.type [] d'=0) (hsub:∀ x,np s.type s.data x=true→np s.type d' x=true) (hr:np s.type d' r.data=true) (hn : 0<d'.length) :
 ov (q++[r]) (L.set i (ld s.owner s.type s.cls (pc s.b7 r.b7) d')):=by
 obtain ⟨hi,hsi⟩:=List.getElem?_eq_some_iff.1 hs
 have hsL:=List.mem_of_getElem? hs
 have hkey:bq (ld s.owner s.type s.cls (pc s.b7 r.b7) d')=bq s:=rfl
 have hty:r.type=s.type:=by
  have:=congrArg (fun k:iz=>k.2.1) hk;exact this
 obtain ⟨m1,m2,m3⟩:=awg s.b7 r.b7
 have hmem:∀ x ∈ L.set i (ld s.owner s.type s.cls (pc s.b7 r.b7) d'),x=ld s.owner s.type s.cls (pc s.b7 r.b7) d'∨(x ∈ L∧bq x≠bq s):=fun x hx=>by
  obtain ⟨j,hj⟩:=List.mem_iff_getElem?.1 hx
  by_cases e:i=j
  ·subst e
   rw [List.getElem?_set_self hi] at hj;cases hj;exact .inl rfl
  ·rw [List.getElem?_set_ne e] at hj
   refine .inr ⟨List.mem_of_getElem? hj,fun ek=>e ?_⟩
   have hnd:=h.keys
   obtain ⟨hj1,hj2⟩:=List.getElem?_eq_some_iff.1 hj
   have:=(List.getElem_inj (i:=i) (j:=j) (h₀:=by simpa using hi) (h₁:=by simpa using hj1) hnd).1 (by simp only [List.getElem_map,hsi,hj2,ek])
   exact this
 obtain ⟨b1,⟨r1,b2,b3,b4⟩,b5⟩:=h.O7 s hsL
 refine ⟨by rw [afy hs hkey];exact h.keys,fun x hx=>?_,fun x hx d hdx=>?_,fun x hx=>?_,fun x hx=>?_,fun r' hr'=>?_⟩
 ·rcases hmem x hx with rfl|⟨hx,hne⟩
  ·refine ⟨b1,?_,fun r' hr' e=>?_⟩
   ·rcases m3 with m3|m3
    ·exact ⟨r1,by simp [b2],b3,b4.trans m3.symm⟩
    ·exact ⟨r,by simp,hk,m3.symm⟩
   ·rcases List.mem_append.1 hr' with hr'|hr'
    ·exact Nat.le_trans m1 (b5 r' hr' e)
    ·simp only [List.mem_singleton] at hr';subst hr';exact m2
  ·obtain ⟨a1,⟨r2,a2,a3⟩,a4⟩:=h.O7 x hx
   refine ⟨a1,⟨r2,by simp [a2],a3⟩,fun r' hr' e=>?_⟩
   rcases List.mem_append.1 hr' with hr'|hr'
   ·exact a4 r' hr' e
   ·simp only [List.mem_singleton] at hr';subst hr';exact absurd (e.symm.trans hk) hne
 ·rcases hmem x hx with rfl|⟨hx,hne⟩
  ·rcases hd d hdx with q1|q1
   ·obtain ⟨c1,r2,c2,c3⟩:=h.data s hsL d q1
    exact ⟨c1,r2,by simp [c2],c3⟩
   ·subst q1
    exact ⟨by show c7 s.type r.data=0;rw [← hty];exact h2,r,by simp,hk,rfl⟩
  ·obtain ⟨c1,r2,c2,c3⟩:=h.data x hx d hdx
   exact ⟨c1,r2,by simp [c2],c3⟩
 ·rcases hmem x hx with rfl|⟨hx,hne⟩
  ·exact ha
  ·exact h.apart x hx
 ·rcases hmem x hx with rfl|⟨hx,hne⟩
  ·exact hn
  ·exact h.amu x hx
 ·have gi:ld s.owner s.type s.cls (pc s.b7 r.b7) d' ∈ L.set i (ld s.owner s.type s.cls (pc s.b7 r.b7) d'):=List.mem_of_getElem? (List.getElem?_set_self hi)
  rcases List.mem_append.1 hr' with hr'|hr'
  ·obtain ⟨a1,a2,x,hx,a3,a4⟩:=h.all r' hr'
   refine ⟨a1,a2,?_⟩
   obtain ⟨j,hj⟩:=List.mem_iff_getElem?.1 hx
   by_cases e:i=j
   ·subst e
    rw [hs] at hj;cases hj
    exact ⟨_,gi,a3,hsub _ a4⟩
   ·exact ⟨x,List.mem_of_getElem? ((List.getElem?_set_ne e).trans hj),a3,a4⟩
  ·simp only [List.mem_singleton] at hr';subst hr'
   exact ⟨h1,h2,_,gi,hk.symm,hr⟩
theorem Ch:∀ (rest q:List ff) (L a:List aw),ov q L→fo rest L=(a,0)→ov (q++rest) a
 | [],q,L,a,h,e=>by
  rw [fo] at e;cases e
  rw [List.append_nil];exact h
 |r::rest,q,L,a,h,e=>by
  rw [fo] at e
  split at e
  ·rename_i h1;have:=congrArg (fun x:List aw × Int=>x.2) e;exact absurd this h1
  rename_i h1
  have h1:cy r.owner=0:=Decidable.not_not.1 h1
  split at e
  ·rename_i h2;have:=congrArg (fun x:List aw × Int=>x.2) e;exact absurd this h2
  rename_i h2
  have h2:c7 r.type r.data=0:=Decidable.not_not.1 h2
  rw [show q++r::rest=(q++[r])++rest by rw [List.append_assoc];rfl]
  cases hk:j7 (fu r) 0 (L.map bq) with
  |none=>
   rw [hk] at e
   exact Ch rest _ _ a (h.new h1 h2 hk) e
  |some i=>
   rw [hk] at e
   simp only at e
   obtain ⟨p,hp,hkp⟩:=xl _ 0 i hk
   rw [Nat.zero_add] at hp;subst hp
   rw [List.getElem?_map,Option.map_eq_some_iff] at hkp
   obtain ⟨s,hs,hks⟩:=hkp
   rw [hs] at e
   simp only at e
   have hsL:=List.mem_of_getElem? hs
   have hty:r.type=s.type:=by have:=congrArg (fun k:iz=>k.2.1) hks;exact this.symm
   have h2':c7 s.type r.data=0:=by rw [← hty];exact h2
   split at e
   ·rename_i hh
    exact Ch rest _ _ a (h.ko hs hks.symm h1 h2 (fun d hd=>.inl hd) (h.apart s hsL) (fun x hx=>hx) hh (h.amu s hsL)) e
   rename_i hh
   split at e
   ·have:=congrArg (fun x:List aw × Int=>x.2) e;cases this
   have hh':np s.type s.data r.data=false:=by simpa using hh
   refine Ch rest _ _ a (h.ko hs hks.symm h1 h2 (fun d hd=>?_) (E2 s.type r.data s.data [] (h.apart s hsL) h2' hh') (fun x hx=>?_) ?_ (by simp)) e
   ·rcases List.mem_append.1 hd with q1|q1
    ·exact .inl q1
    ·exact .inr (List.mem_singleton.1 q1)
   ·unfold np at hx ⊢;rw [List.any_append,hx];rfl
   ·unfold np;rw [List.any_append,List.any_cons,D9 h2'];simp
def Twin (a b:aw):Prop:=fw a.owner=fw b.owner∧a.type=b.type∧a.cls=b.cls
theorem as9 (a b:aw) (h1:eh a b=false) (h2:eh b a=false):Twin a b:=by
 have n1:¬ xt a b<0:=of_decide_eq_false h1
 have n2:¬ xt b a<0:=of_decide_eq_false h2
 rw [aa8] at n1 n2
 have hn:jg a.owner b.owner=true:=by
  rcases J2 a.owner b.owner with q|q|q
  ·exact absurd (.inl q) n1
  ·exact q
  ·exact absurd (.inl q) n2
 have hn':=Km hn
 have n1':¬ (a.type.toNat<b.type.toNat∨(a.type.toNat=b.type.toNat∧a.cls.toNat<b.cls.toNat)):=fun q=>n1 (.inr ⟨hn,q⟩)
 have n2':¬ (b.type.toNat<a.type.toNat∨(b.type.toNat=a.type.toNat∧b.cls.toNat<a.cls.toNat)):=fun q=>n2 (.inr ⟨hn',q⟩)
 exact ⟨oe.1 hn,UInt16.toNat_inj.1 (by omega),UInt16.toNat_inj.1 (by omega)⟩
theorem ov.one {q:List ff} {L:List aw} (h:ov q L) {s s':aw} (hs:s ∈ L) (hs':s' ∈ L) (hk:bq s=bq s'):s=s':=by
 obtain ⟨i,hi⟩:=List.mem_iff_getElem?.1 hs
 obtain ⟨j,hj⟩:=List.mem_iff_getElem?.1 hs'
 obtain ⟨hi1,hi2⟩:=List.getElem?_eq_some_iff.1 hi
 obtain ⟨hj1,hj2⟩:=List.getElem?_eq_some_iff.1 hj
 have:=(List.getElem_inj (i:=i) (j:=j) (h₀:=by simpa using hi1) (h₁:=by simpa using hj1) h.keys).1 (by simp only [List.getElem_map,hi2,hj2,hk])
 subst this;rw [← hi2,← hj2]
theorem ov.awu {q q':List ff} {a b:List aw} (ha:ov q a) (hb:ov q' b) {s s':aw} (hs:s ∈ a) (hs':s' ∈ b):Twin s s'↔bq s=bq s':=by
 have n1:=(ha.O7 s hs).1
 have n2:=(hb.O7 s' hs').1
 constructor
 ·rintro ⟨h1,h2,h3⟩
  show (uc s.owner,s.type,s.cls)=(uc s'.owner,s'.type,s'.cls)
  rw [(Jj n1 n2).2 h1,h2,h3]
 ·intro h
  exact ⟨(Jj n1 n2).1 (congrArg (fun k:iz=>k.1) h),congrArg (fun k:iz=>k.2.1) h,congrArg (fun k:iz=>k.2.2) h⟩
theorem Mm {t:UInt16} {a b:bn}:yd t a b=true↔c7 t a=0∧c7 t b=0∧kx t (jo t a)=kx t (jo t b):=by
 unfold yd
 rw [Bool.and_eq_true,Bool.and_eq_true,decide_eq_true_eq,decide_eq_true_eq,decide_eq_true_eq]
 constructor
 ·rintro ⟨⟨h1,h2⟩,h3⟩
  rw [tc h1 h2] at h3
  exact ⟨h1,h2,Ir _ _ h3⟩
 ·rintro ⟨h1,h2,h3⟩
  refine ⟨⟨h1,h2⟩,?_⟩
  rw [tc h1 h2,h3]
  have:=Ce (kx t (jo t b)) (kx t (jo t b))
  unfold Dt
  omega
theorem Iv {t:UInt16} {l:List bn} (h:g7 t [] l=0):l.Pairwise fun a b=>yd t a b=false:=by
 rw [List.pairwise_iff_getElem]
 intro i j hi hj hij
 obtain ⟨_,h2⟩:=Zc h (List.getElem?_eq_getElem hj)
 unfold np at h2
 rw [List.any_eq_false] at h2
 have:=h2 l[i] (List.mem_iff_getElem?.2 ⟨i,by rw [List.getElem?_take,if_pos hij,List.getElem?_eq_getElem hi]⟩)
 simpa using this
noncomputable def pr {α:Type} (a b : α):Bool:=@decide (a=b) (Classical.propDecidable _)
theorem adh {α:Type} (a : α):pr a a=true:=by unfold pr;exact @decide_eq_true _ (Classical.propDecidable _) rfl
theorem ot {α:Type} {a b : α} (h:a≠b):pr a b=false:=by unfold pr;exact @decide_eq_false _ (Classical.propDecidable _) h
theorem Cy {α:Type} {a b : α} (h:a=b):pr a b=true:=by rw [h];exact adh b
theorem C7 {α:Type} {a b : α} (h:pr a b=true):a=b:=by unfold pr at h;exact @of_decide_eq_true _ (Classical.propDecidable _) h
theorem zu {α:Type} {a b : α} (h:pr a b=false):a≠b:=fun q=>by rw [q,adh] at h;cases h
theorem Be {α:Type} {l m:List α} {i:Nat} {c d : α} (h:l.take i=m.take i) (hc:l[i]? = some c) (hd:m[i]? = some d) (e:c=d):l.take (i+1)=m.take (i+1):=by
 obtain ⟨h1,rfl⟩:=List.getElem?_eq_some_iff.1 hc
 obtain ⟨h2,rfl⟩:=List.getElem?_eq_some_iff.1 hd
 rw [List.take_succ_eq_append_getElem h1,List.take_succ_eq_append_getElem h2,h,e]
theorem Dg {α:Type} {l m:List α} {i:Nat} (h:l.take i=m.take i) (hi:¬ i<l.length) (hl:l.length=m.length):l=m:=by
 rwa [List.take_of_length_le (by omega),List.take_of_length_le (by omega)] at h
theorem yx {α:Type} {l m:List α} {i:Nat} {c d : α} (hc:l[i]? = some c) (hd:m[i]? = some d) (e:c≠d):l≠m:=fun q=>by rw [q,hd] at hc;cases hc;exact e rfl
theorem Di {α:Type} {l m:List α} (h:(l.length:Int)≠m.length):l≠m:=fun q=>h (by rw [q])
theorem Db {α:Type} {l m:List α} {i:Nat} (hl:l.length=m.length) (hi:i<l.length):∃ d,m[i]? = some d:=⟨m[i],List.getElem?_eq_getElem (by omega)⟩
theorem ab4 (a b:Name) (ha:a.length≤16777216):wl PP [] 0 (Tryz.f49.body.getD .skip) (du PP Tryz.f49.results.toList (fun r st=>(r1 bw).get true st.h r=some (pr a b))) (cg 0 [az.val false a,az.val false b]) (bb []):=by
 have hq:∀ a b c d,c0 a b c=d→c0 a b c=d:=fun _ _ _ _ h=>h
 unfold Tryz.f49
 simp only [dt]
 simp only [↓wR,RA,simprocAttr,TF,ae]
 rw [ed];refine ⟨fun ⟨h,e⟩=>?_,fun ⟨h,e⟩=>?_⟩
 ·simp only [↓wR,RA,simprocAttr,TF,ae,h,ot (Di e)]
 have hl:a.length=b.length:=by omega
 simp only [↓wR,RA,simprocAttr,TF,ae,h]
 refine c8 [0,1,5] (fun (i:Nat)=>[.vl false 1 (a.map (ai.val false)),.vl false 1 (b.map (ai.val false)),.sc (.int .i64 (i))]) (fun _=>[]) (fun i=>i≤a.length∧a.take i=b.take i) (fun i=>a.length - i) 0 ⟨Nat.zero_le _,rfl⟩ (by simp only [↓wR,RA,simprocAttr,TF,ae]<;>rfl) (by simp only [↓wR,RA,simprocAttr,TF,ae]<;>rfl) ?_
 rintro i ⟨hi,hx⟩
 simp only [↓wR,RA,simprocAttr,TF,ae]
 rw [bj];refine ⟨fun h2=>?_,fun h2=>?_⟩
 ·obtain ⟨c,hc,hd1,hlt⟩:=gm (decide_eq_true h2)
  obtain ⟨d,hd⟩:=Db hl hlt
  simp only [↓wR,RA,simprocAttr,TF,ae,h2]
  refine ⟨by kernel_rfl,.inl ?_⟩
  simp only [↓wR,RA,simprocAttr,TF,ae,hc,hd]
  refine ⟨by apply hq;kernel_rfl,?_⟩
  by_cases e2:c=d
  ·simp only [↓wR,RA,simprocAttr,TF,ae,decide_eq_true e2];repeat (simp (disch:=omega) only [ah,bh,bf,bg,be];try simp only [↓wR,RA,simprocAttr,TF,ae,decide_eq_true e2])
   exact ⟨i+1,⟨hlt,Be hx hc hd e2⟩,by omega,by (first|rfl|trivial|omega|((try (simp (disch:=omega) only [ah]));(try (simp only [FB]));first|done|rfl|omega))⟩
  ·simp only [↓wR,RA,simprocAttr,TF,ae,decide_eq_false e2,ot (yx hc hd e2)]
 ·simp only [↓wR,RA,simprocAttr,TF,ae,h2,Cy (Dg hx (by omega) hl)]
noncomputable def ya (x:Name × Name × Unit):Option AV:=if x.1.length≤16777216 then some ((r1 bw).E true (pr x.1 x.2.1)) else none
set_option maxRecDepth 2000000 in
theorem Ip (x:Name × Name × Unit) (r:AV) (h:ya x=some r):bu PP 49 ((aC az (aC az a0)).E x) r:=by
 by_cases hc:x.1.length≤16777216
 case neg=>simp only [ya,if_neg hc] at h;cases h
 simp only [ya,if_pos hc] at h
 cases h
 exact bk (aq.nil PP) Tryz.func49 (by kernel_rfl) (by kernel_rfl) (by kernel_rfl) (Nat.le_of_ble_eq_true (by kernel_rfl)) (r1 bw) true (pr x.1 x.2.1) (ab4 x.1 x.2.1 hc)
noncomputable abbrev Xv:Nat × Bool × (List AV→M AV):=(49,true,dq (aC az (aC az a0)) ya)
theorem ahi (a b:Name) (ha:a.length≤16777216):wl PP [Xv] 0 (Tryz.f30.body.getD .skip) (du PP Tryz.f30.results.toList (fun r st=>(r1 bw).get true st.h r=some (pr a b))) (cg 0 [az.val false a,az.val false b]) (bb []):=by
 unfold Tryz.f30
 simp only [dt]
 simp only [↓wR,RA,simprocAttr,TF,ae,ya,ha]
noncomputable def vn (x:Name × Name × Unit):Option AV:=if x.1.length≤16777216 then some ((r1 bw).E true (pr x.1 x.2.1)) else none
set_option maxRecDepth 2000000 in
theorem Bx (x:Name × Name × Unit) (r:AV) (h:vn x=some r):bu PP 30 ((aC az (aC az a0)).E x) r:=by
 by_cases hc:x.1.length≤16777216
 case neg=>simp only [vn,if_neg hc] at h;cases h
 simp only [vn,if_pos hc] at h
 cases h
 exact bk (aq.cons (ar Ip) (aq.nil PP)) Tryz.func30 (by kernel_rfl) (by kernel_rfl) (by kernel_rfl) (Nat.le_of_ble_eq_true (by kernel_rfl)) (r1 bw) true (pr x.1 x.2.1) (ahi x.1 x.2.1 hc)
noncomputable abbrev Ml:Nat × Bool × (List AV→M AV):=(30,true,dq (aC az (aC az a0)) vn)
theorem abk (a b:List UInt8):wl PP [] 0 (Tryz.f99.body.getD .skip) (du PP Tryz.f99.results.toList (fun r st=>(r1 bw).get true st.h r=some (pr a b))) (cg 0 [(cd bp).val false a,(cd bp).val false b]) (bb []):=by
 unfold Tryz.f99
 simp only [px]
 simp only [↓wR,RA,simprocAttr,TF,ae]
 congr 1
 by_cases e:a=b
 ·rw [Cy e,e];exact decide_eq_true rfl
 ·rw [ot e];exact decide_eq_false fun q=>e (by injection q with q;simpa using q)
noncomputable def Hv (x:List UInt8 × List UInt8 × Unit):Option AV:=some ((r1 bw).E true (pr x.1 x.2.1))
set_option maxRecDepth 2000000 in
theorem Tp (x:List UInt8 × List UInt8 × Unit) (r:AV) (h:Hv x=some r):bu PP 99 ((aC (cd bp) (aC (cd bp) a0)).E x) r:=by
 cases h
 exact bk (aq.nil PP) Tryz.func99 (by kernel_rfl) (by kernel_rfl) (by kernel_rfl) (Nat.le_of_ble_eq_true (by kernel_rfl)) (r1 bw) true (pr x.1 x.2.1) (abk x.1 x.2.1)
noncomputable abbrev am2:Nat × Bool × (List AV→M AV):=(99,true,dq (aC (cd bp) (aC (cd bp) a0)) Hv)
theorem Eh {a b:bn} (h:¬ (a.names=b.names∧a.nums=b.nums∧a.texts=b.texts∧a.raw=b.raw)):a≠b:=fun q=>h (by rw [q];exact ⟨rfl,rfl,rfl,rfl⟩)
theorem awi {a b:bn} (h1:a.names=b.names) (h2:a.nums=b.nums) (h3:a.texts=b.texts) (h4:a.raw=b.raw):a=b:=by
 cases a;cases b;simp_all
set_option maxHeartbeats 4000000 in
theorem afo (a b:bn) (ha:da a):wl PP [Xv,Ml,am2] 0 (Tryz.f82.body.getD .skip) (du PP Tryz.f82.results.toList (fun r st=>(r1 bw).get true st.h r=some (pr a b))) (cg 0 [ak.val false a,ak.val false b]) (bb []):=by
 have hls:=ha.lens
 have hq:∀ a b c d,c0 a b c=d→c0 a b c=d:=fun _ _ _ _ h=>h
 unfold Tryz.f82
 simp only [nc]
 simp only [↓wR,RA,simprocAttr,TF,ae]
 rw [ed];refine ⟨fun ⟨h1,e1⟩=>?_,fun ⟨h1,e1⟩=>?_⟩
 ·simp only [↓wR,RA,simprocAttr,TF,ae,h1,ot (Eh fun q=>Di e1 q.1)]
 simp only [↓wR,RA,simprocAttr,TF,ae,h1]
 rw [ed];refine ⟨fun ⟨h2,e2⟩=>?_,fun ⟨h2,e2⟩=>?_⟩
 ·simp only [↓wR,RA,simprocAttr,TF,ae,h2,ot (Eh fun q=>Di e2 q.2.1)]
 simp only [↓wR,RA,simprocAttr,TF,ae,h2,ya,hls.2.2.1]
 cases h3:pr a.texts b.texts with
 |false=>simp only [↓wR,RA,simprocAttr,TF,ae,ot (Eh fun q=>zu h3 q.2.2.1)]
 |true=>
 simp only [↓wR,RA,simprocAttr,TF,ae,Hv]
 cases h4:pr a.raw b.raw with
 |false=>simp only [↓wR,RA,simprocAttr,TF,ae,ot (Eh fun q=>zu h4 q.2.2.2)]
 |true=>
 have hl1:a.names.length=b.names.length:=by omega
 have hl2:a.nums.length=b.nums.length:=by omega
 simp only [↓wR,RA,simprocAttr,TF,ae]
 refine c8 [2,3,5] (fun (i:Nat)=>[.ptr 0 0,.ptr 1 0,.sc (.int .i64 (i))]) (fun _=>[some (.row [.vl false 1 (a.names.map (az.val false)),.vl false 1 (a.nums.map (db.val false)),.vl false 1 (a.texts.map (ai.val false)),.vl false 1 (a.raw.map (bp.val false))] 0 2 44),some (.row [.vl false 1 (b.names.map (az.val false)),.vl false 1 (b.nums.map (db.val false)),.vl false 1 (b.texts.map (ai.val false)),.vl false 1 (b.raw.map (bp.val false))] 0 2 44)]) (fun i=>i≤a.names.length∧a.names.take i=b.names.take i) (fun i=>a.names.length - i) 0 ⟨Nat.zero_le _,rfl⟩ (by simp only [↓wR,RA,simprocAttr,TF,ae]<;>rfl) (by simp only [↓wR,RA,simprocAttr,TF,ae]<;>rfl) ?_
 rintro i ⟨hi,hx⟩
 simp only [↓wR,RA,simprocAttr,TF,ae]
 rw [bj];refine ⟨fun h5=>?_,fun h5=>?_⟩
 ·obtain ⟨c,hc,hd1,hlt⟩:=gm (decide_eq_true h5)
  obtain ⟨d,hd⟩:=Db hl1 hlt
  have hcl:c.length≤16777216:=by have:=(ha.name c (List.mem_of_getElem? hc));have:=(oj c 0).2;unfold cp at *;omega
  simp only [↓wR,RA,simprocAttr,TF,ae,h5]
  refine ⟨by kernel_rfl,.inl ?_⟩
  simp only [↓wR,RA,simprocAttr,TF,ae,hc,hd,vn,hcl]
  refine ⟨by apply hq;kernel_rfl,?_⟩
  cases e6:pr c d with
  |true=>
   simp only [↓wR,RA,simprocAttr,TF,ae];repeat (simp (disch:=omega) only [ah,bh,bf,bg,be];try simp only [↓wR,RA,simprocAttr,TF,ae])
   exact ⟨i+1,⟨hlt,Be hx hc hd (C7 e6)⟩,by omega,by (first|rfl|trivial|omega|((try (simp (disch:=omega) only [ah]));(try (simp only [FB]));first|done|rfl|omega))⟩
  |false=>simp only [↓wR,RA,simprocAttr,TF,ae,ot (Eh fun q=>yx hc hd (zu e6) q.1)]
 have hnm:=Dg hx (by omega) hl1
 simp only [↓wR,RA,simprocAttr,TF,ae,h5]
 refine c8 [2,3,6] (fun (i:Nat)=>[.ptr 0 0,.ptr 1 0,.sc (.int .i64 (i))]) (fun _=>[some (.row [.vl false 1 (a.names.map (az.val false)),.vl false 1 (a.nums.map (db.val false)),.vl false 1 (a.texts.map (ai.val false)),.vl false 1 (a.raw.map (bp.val false))] 0 2 44),some (.row [.vl false 1 (b.names.map (az.val false)),.vl false 1 (b.nums.map (db.val false)),.vl false 1 (b.texts.map (ai.val false)),.vl false 1 (b.raw.map (bp.val false))] 0 2 44)]) (fun i=>i≤a.nums.length∧a.nums.take i=b.nums.take i) (fun i=>a.nums.length - i) 0 ⟨Nat.zero_le _,rfl⟩ (by simp only [↓wR,RA,simprocAttr,TF,ae]<;>rfl) (by simp only [↓wR,RA,simprocAttr,TF,ae]<;>rfl) ?_
 clear hi hx h5
 rintro i ⟨hi,hx⟩
 simp only [↓wR,RA,simprocAttr,TF,ae]
 rw [bj];refine ⟨fun h5=>?_,fun h5=>?_⟩
 ·obtain ⟨c,hc,hd1,hlt⟩:=gm (decide_eq_true h5)
  obtain ⟨d,hd⟩:=Db hl2 hlt
  simp only [↓wR,RA,simprocAttr,TF,ae,h5]
  refine ⟨by kernel_rfl,.inl ?_⟩
  simp only [↓wR,RA,simprocAttr,TF,ae,hc,hd]
  refine ⟨by apply hq;kernel_rfl,?_⟩
  rw [ed];refine ⟨fun ⟨h6,e6⟩=>?_,fun ⟨h6,e6⟩=>?_⟩
  ·simp only [↓wR,RA,simprocAttr,TF,ae,h6,ot (Eh fun q=>yx hc hd (fun q=>e6 (by rw [q])) q.2.1)]
  ·simp only [↓wR,RA,simprocAttr,TF,ae,h6];repeat (simp (disch:=omega) only [ah,bh,bf,bg,be];try simp only [↓wR,RA,simprocAttr,TF,ae,h6])
   exact ⟨i+1,⟨hlt,Be hx hc hd (UInt32.toNat_inj.1 (by omega))⟩,by omega,by (first|rfl|trivial|omega|((try (simp (disch:=omega) only [ah]));(try (simp only [FB]));first|done|rfl|omega))⟩
 ·simp only [↓wR,RA,simprocAttr,TF,ae,h5,Cy (awi hnm (Dg hx (by omega) hl2) (C7 h3) (C7 h4))]
noncomputable def Ar (x:bn × bn × Unit):Option AV:=if da x.1 then some ((r1 bw).E true (pr x.1 x.2.1)) else none
set_option maxRecDepth 2000000 in
theorem Xa (x:bn × bn × Unit) (r:AV) (h:Ar x=some r):bu PP 82 ((aC ak (aC ak a0)).E x) r:=by
 by_cases hc:da x.1
 case neg=>simp only [Ar,if_neg hc] at h;cases h
 simp only [Ar,if_pos hc] at h
 cases h
 exact bk (aq.cons (ar Ip) (aq.cons (ar Bx) (aq.cons (ar Tp) (aq.nil PP)))) Tryz.func82 (by kernel_rfl) (by kernel_rfl) (by kernel_rfl) (Nat.le_of_ble_eq_true (by kernel_rfl)) (r1 bw) true (pr x.1 x.2.1) (afo x.1 x.2.1 hc)
noncomputable abbrev aqq:Nat × Bool × (List AV→M AV):=(82,true,dq (aC ak (aC ak a0)) Ar)
theorem Ia {a b:aw} (h:¬ (a.owner=b.owner∧a.type=b.type∧a.cls=b.cls∧a.b7=b.b7∧a.data=b.data)):a≠b:=fun q=>h (by rw [q];exact ⟨rfl,rfl,rfl,rfl,rfl⟩)
theorem ayt {a b:aw} (h1:a.owner=b.owner) (h2:a.type=b.type) (h3:a.cls=b.cls) (h4:a.b7=b.b7) (h5:a.data=b.data):a=b:=by
 cases a;cases b;simp_all
set_option maxHeartbeats 4000000 in
theorem ahd (a b:aw) (ha:de a):wl PP [Ml,aqq] 0 (Tryz.f50.body.getD .skip) (du PP Tryz.f50.results.toList (fun r st=>(r1 bw).get true st.h r=some (pr a b))) (cg 0 [aj.val false a,aj.val false b]) (bb []):=by
 have hol:a.owner.length≤16777216:=by have:=ha.owner;have:=(oj a.owner 0).2;unfold cp at *;omega
 have hdl:=ha.data.len
 have hq:∀ a b c d,c0 a b c=d→c0 a b c=d:=fun _ _ _ _ h=>h
 unfold Tryz.f50
 simp only [jn]
 simp only [↓wR,RA,simprocAttr,TF,ae,vn,hol]
 cases h1:pr a.owner b.owner with
 |false=>simp only [↓wR,RA,simprocAttr,TF,ae,ot (Ia fun q=>zu h1 q.1)]
 |true=>
 simp only [↓wR,RA,simprocAttr,TF,ae]
 rw [ed];refine ⟨fun ⟨h2,e2⟩=>?_,fun ⟨h2,e2⟩=>?_⟩
 ·simp only [↓wR,RA,simprocAttr,TF,ae,h2,ot (Ia fun q=>e2 (by rw [q.2.1]))]
 simp only [↓wR,RA,simprocAttr,TF,ae,h2]
 rw [ed];refine ⟨fun ⟨h3,e3⟩=>?_,fun ⟨h3,e3⟩=>?_⟩
 ·simp only [↓wR,RA,simprocAttr,TF,ae,h3,ot (Ia fun q=>e3 (by rw [q.2.2.1]))]
 simp only [↓wR,RA,simprocAttr,TF,ae,h3]
 rw [ed];refine ⟨fun ⟨h4,e4⟩=>?_,fun ⟨h4,e4⟩=>?_⟩
 ·simp only [↓wR,RA,simprocAttr,TF,ae,h4,ot (Ia fun q=>e4 (by rw [q.2.2.2.1]))]
 simp only [↓wR,RA,simprocAttr,TF,ae,h4]
 rw [ed];refine ⟨fun ⟨h5,e5⟩=>?_,fun ⟨h5,e5⟩=>?_⟩
 ·simp only [↓wR,RA,simprocAttr,TF,ae,h5,ot (Ia fun q=>Di e5 q.2.2.2.2)]
 have hl1:a.data.length=b.data.length:=by omega
 simp only [↓wR,RA,simprocAttr,TF,ae,h5]
 refine c8 [2,3,5] (fun (i:Nat)=>[.ptr 0 0,.ptr 1 0,.sc (.int .i64 (i))]) (fun _=>[some (.row [.vl false 1 (a.owner.map (ai.val false)),.sc (.int .u16 a.type.toNat),.sc (.int .u16 a.cls.toNat),.sc (.int .u32 a.b7.toNat),.vl false 4 (a.data.map (ak.val false))] 0 2 58),some (.row [.vl false 1 (b.owner.map (ai.val false)),.sc (.int .u16 b.type.toNat),.sc (.int .u16 b.cls.toNat),.sc (.int .u32 b.b7.toNat),.vl false 4 (b.data.map (ak.val false))] 0 2 58)]) (fun i=>i≤a.data.length∧a.data.take i=b.data.take i) (fun i=>a.data.length - i) 0 ⟨Nat.zero_le _,rfl⟩ (by simp only [↓wR,RA,simprocAttr,TF,ae]<;>rfl) (by simp only [↓wR,RA,simprocAttr,TF,ae]<;>rfl) ?_
 rintro i ⟨hi,hx⟩
 simp only [↓wR,RA,simprocAttr,TF,ae]
 rw [bj];refine ⟨fun h6=>?_,fun h6=>?_⟩
 ·obtain ⟨c,hc,hd1,hlt⟩:=gm (decide_eq_true h6)
  obtain ⟨d,hd⟩:=Db hl1 hlt
  have hcs:=ha.data.mem c (List.mem_of_getElem? hc)
  simp only [↓wR,RA,simprocAttr,TF,ae,h6]
  refine ⟨by kernel_rfl,.inl ?_⟩
  simp only [↓wR,RA,simprocAttr,TF,ae,hc,hd,Ar,hcs]
  refine ⟨by apply hq;kernel_rfl,?_⟩
  cases e7:pr c d with
  |true=>
   simp only [↓wR,RA,simprocAttr,TF,ae];repeat (simp (disch:=omega) only [ah,bh,bf,bg,be];try simp only [↓wR,RA,simprocAttr,TF,ae])
   exact ⟨i+1,⟨hlt,Be hx hc hd (C7 e7)⟩,by omega,by (first|rfl|trivial|omega|((try (simp (disch:=omega) only [ah]));(try (simp only [FB]));first|done|rfl|omega))⟩
  |false=>simp only [↓wR,RA,simprocAttr,TF,ae,ot (Ia fun q=>yx hc hd (zu e7) q.2.2.2.2)]
 ·simp only [↓wR,RA,simprocAttr,TF,ae,h6,Cy (ayt (C7 h1) (UInt16.toNat_inj.1 (by omega)) (UInt16.toNat_inj.1 (by omega)) (UInt32.toNat_inj.1 (by omega)) (Dg hx (by omega) hl1))]
noncomputable def C1 (x:aw × aw × Unit):Option AV:=if de x.1 then some ((r1 bw).E true (pr x.1 x.2.1)) else none
set_option maxRecDepth 2000000 in
theorem aam (x:aw × aw × Unit) (r:AV) (h:C1 x=some r):bu PP 50 ((aC aj (aC aj a0)).E x) r:=by
 by_cases hc:de x.1
 case neg=>simp only [C1,if_neg hc] at h;cases h
 simp only [C1,if_pos hc] at h
 cases h
 exact bk (aq.cons (ar Bx) (aq.cons (ar Xa) (aq.nil PP))) Tryz.func50 (by kernel_rfl) (by kernel_rfl) (by kernel_rfl) (Nat.le_of_ble_eq_true (by kernel_rfl)) (r1 bw) true (pr x.1 x.2.1) (ahd x.1 x.2.1 hc)
noncomputable abbrev atx:Nat × Bool × (List AV→M AV):=(50,true,dq (aC aj (aC aj a0)) C1)
theorem agv (a b:List aw) (ha:Ds a):wl PP [atx] 0 (Tryz.f31.body.getD .skip) (du PP Tryz.f31.results.toList (fun r st=>(r1 bw).get true st.h r=some (pr a b))) (cg 0 [(cd aj).val false a,(cd aj).val false b]) (bb []):=by
 have hal:=ha.1
 have hq:∀ a b c d,c0 a b c=d→c0 a b c=d:=fun _ _ _ _ h=>h
 unfold Tryz.f31
 simp only [px]
 simp only [↓wR,RA,simprocAttr,TF,ae]
 rw [ed];refine ⟨fun ⟨h,e⟩=>?_,fun ⟨h,e⟩=>?_⟩
 ·simp only [↓wR,RA,simprocAttr,TF,ae,h,ot (Di e)]
 have hl:a.length=b.length:=by omega
 simp only [↓wR,RA,simprocAttr,TF,ae,h]
 refine c8 [0,1,5] (fun (i:Nat)=>[.vl false 5 (a.map (aj.val false)),.vl false 5 (b.map (aj.val false)),.sc (.int .i64 (i))]) (fun _=>[]) (fun i=>i≤a.length∧a.take i=b.take i) (fun i=>a.length - i) 0 ⟨Nat.zero_le _,rfl⟩ (by simp only [↓wR,RA,simprocAttr,TF,ae]<;>rfl) (by simp only [↓wR,RA,simprocAttr,TF,ae]<;>rfl) ?_
 rintro i ⟨hi,hx⟩
 simp only [↓wR,RA,simprocAttr,TF,ae]
 rw [bj];refine ⟨fun h2=>?_,fun h2=>?_⟩
 ·obtain ⟨c,hc,hd1,hlt⟩:=gm (decide_eq_true h2)
  obtain ⟨d,hd⟩:=Db hl hlt
  have hcs:=ha.2 c (List.mem_of_getElem? hc)
  simp only [↓wR,RA,simprocAttr,TF,ae,h2]
  refine ⟨by kernel_rfl,.inl ?_⟩
  simp only [↓wR,RA,simprocAttr,TF,ae,hc,hd,C1,hcs]
  refine ⟨by apply hq;kernel_rfl,?_⟩
  cases e7:pr c d with
  |true=>
   simp only [↓wR,RA,simprocAttr,TF,ae];repeat (simp (disch:=omega) only [ah,bh,bf,bg,be];try simp only [↓wR,RA,simprocAttr,TF,ae])
   exact ⟨i+1,⟨hlt,Be hx hc hd (C7 e7)⟩,by omega,by (first|rfl|trivial|omega|((try (simp (disch:=omega) only [ah]));(try (simp only [FB]));first|done|rfl|omega))⟩
  |false=>simp only [↓wR,RA,simprocAttr,TF,ae,ot (yx hc hd (zu e7))]
 ·simp only [↓wR,RA,simprocAttr,TF,ae,h2,Cy (Dg hx (by omega) hl)]
noncomputable def Ah (x:List aw × List aw × Unit):Option AV:=if Ds x.1 then some ((r1 bw).E true (pr x.1 x.2.1)) else none
set_option maxRecDepth 2000000 in
theorem Wu (x:List aw × List aw × Unit) (r:AV) (h:Ah x=some r):bu PP 31 ((aC (cd aj) (aC (cd aj) a0)).E x) r:=by
 by_cases hc:Ds x.1
 case neg=>simp only [Ah,if_neg hc] at h;cases h
 simp only [Ah,if_pos hc] at h
 cases h
 exact bk (aq.cons (ar aam) (aq.nil PP)) Tryz.func31 (by kernel_rfl) (by kernel_rfl) (by kernel_rfl) (Nat.le_of_ble_eq_true (by kernel_rfl)) (r1 bw) true (pr x.1 x.2.1) (agv x.1 x.2.1 hc)
noncomputable abbrev apy:Nat × Bool × (List AV→M AV):=(31,true,dq (aC (cd aj) (aC (cd aj) a0)) Ah)
def aAn (r:Lj):Prop:=Ds r.answer∧(Ds r.authority∧Ds r.Kf)
instance (r:Lj):Decidable (aAn r):=inferInstanceAs (Decidable (_∧_))
theorem ady {s:aw} (he:ng s=0):cy s.owner=0∧g7 s.type [] s.data=0∧0<s.data.length∧s.data.length≤512:=by
 unfold ng at he
 split at he
 ·contradiction
 rename_i h1
 split at he
 ·cases he
 rename_i h2
 split at he
 ·cases he
 exact ⟨Decidable.not_not.1 h1,he,by omega,by omega⟩
theorem acj {xs:List ff} {i:Nat} {c:ff} (k st et) (hc:xs[i]? = some c):i9 PP 46 (i * 8) (.row (cellsOf dr true xs) k st et) = .pure (dr.val true c):=by
 have h:=Rr dr hc
 have h1:kj PP 46=some true:=by kernel_rfl
 have h2:dc PP 46=some 8:=by kernel_rfl
 have h3:((cellsOf dr true xs).drop (i * 8)).take 8=dr.cells true c:=h.1
 have h4:Nat.ble 8 ((cellsOf dr true xs).drop (i * 8)).length=true:=Nat.ble_eq_true_of_le h.2
 unfold i9 oz
 simp only [h1,h2,h3,h4,cond_true]
 rfl
theorem Zo {xs:List ff} {i:Nat} {c:ff} (y:ff) (k:Nat) (et:TypeId) (id:Nat) (hc:xs[i]? = some c) :
 jz id (i * 8) 8 [.vl true 1 (y.owner.map (ai.val false)),.sc (.int .u16 y.type.toNat),.sc (.int .u16 y.cls.toNat),.sc (.int .u32 y.b7.toNat),.vl true 1 (y.data.names.map (az.val true)),.vl true 1 (y.data.nums.map (db.val false)),.vl true 1 (y.data.texts.map (ai.val false)),.vl true 1 (y.data.raw.map (bp.val false))] (.row (cellsOf dr true xs) 0 k et)=(gh id (.row (cellsOf dr true (xs.set i y)) 0 k et)).bind fun _=>.pure (.sc undef):=
 Mz dr y k et id hc
theorem ac3 {α:Type} (l:List α) (i:Nat) (x : α) (h:i<l.length):(l[i]::l.set i x).Perm (x::l):=by
 have h1:l.set i x=l.take i++x::l.drop (i+1):=by rw [List.set_eq_take_append_cons_drop,if_pos h]
 have h2:l=l.take i++l[i]::l.drop (i+1):=by rw [← List.drop_eq_getElem_cons h,List.take_append_drop]
 rw [h1]
 refine (List.Perm.cons _ List.perm_middle).trans ?_
 refine (List.Perm.swap _ _ _).trans (List.Perm.cons _ ?_)
 conv=>rhs;rw [h2]
 exact List.perm_middle.symm
theorem ao3 {α:Type} (l:List α) (i j:Nat) (hi:i<l.length) (hj:j<l.length):((l.set i l[j]).set j l[i]).Perm l:=by
 have h1:=ac3 l i l[j] hi
 have h2:=ac3 (l.set i l[j]) j l[i] (by simpa using hj)
 have hc:(l.set i l[j])[j]'(by simpa using hj)=l[j]:=by
  rw [List.getElem_set];split
  ·rename_i e;subst e;rfl
  ·rfl
 rw [hc] at h2
 have h3:=h2.trans h1
 exact (List.perm_cons l[j]).1 h3
theorem an3 {l m:List ff} (h:m.Perm l) (hg:wo l):wo m:=⟨fun r hr=>hg.owner r (h.mem_iff.1 hr),by rw [Je h];exact hg.data,by rw [h.length_eq];exact hg.len⟩
theorem Bc {W N:Nat}:∀ (rest:List ff) (L a:List aw),(∀ s ∈ L,di lf s.data+di nn rest≤W∧s.data.length+rest.length≤N)→di nn rest≤W→rest.length≤N→fo rest L=(a,0)→a.length≤L.length+rest.length∧∀ s ∈ a,di lf s.data≤W∧s.data.length≤N
 | [],L,a,h,_,_,e=>by
  rw [fo] at e;cases e
  refine ⟨Nat.le_refl _,fun s hs=>?_⟩
  have:=h s hs
  simp only [List.length_nil] at this
  omega
 |r::rest,L,a,h,hW,hN,e=>by
  have hw:di nn (r::rest)=lf r.data+di nn rest+1:=rfl
  simp only [List.length_cons] at hN h ⊢
  rw [hw] at hW
  rw [fo] at e
  split at e
  ·rename_i h1;have:=congrArg (fun x:List aw × Int=>x.2) e;exact absurd this h1
  split at e
  ·rename_i h2;have:=congrArg (fun x:List aw × Int=>x.2) e;exact absurd this h2
  cases hk:j7 (fu r) 0 (L.map bq) with
  |none=>
   rw [hk] at e
   obtain ⟨q1,q2⟩:=Bc (W:=W) (N:=N) rest _ a (fun s hs=>by
    rcases List.mem_append.1 hs with hs|hs
    ·have:=h s hs;rw [hw] at this;omega
    ·simp only [List.mem_singleton] at hs;subst hs
     show lf r.data+0+1+di nn rest≤W∧1+rest.length≤N
     omega) (by omega) (by omega) e
   refine ⟨?_,q2⟩
   simp only [List.length_append,List.length_singleton] at q1
   omega
  |some i=>
   rw [hk] at e
   simp only at e
   cases hs:L[i]? with
   |none=>
    obtain ⟨p,hp,hkp⟩:=xl _ 0 i hk
    rw [Nat.zero_add] at hp;subst hp
    rw [List.getElem?_map,hs] at hkp;cases hkp
   |some s=>
   rw [hs] at e
   simp only at e
   have hsl:=h s (List.mem_of_getElem? hs)
   rw [hw] at hsl
   split at e
   ·obtain ⟨q1,q2⟩:=Bc (W:=W) (N:=N) rest _ a (fun x hx=>by
     rcases List.mem_or_eq_of_mem_set hx with q1|q1
     ·have:=h x q1;rw [hw] at this;omega
     ·subst q1;show di lf s.data+di nn rest≤W∧s.data.length+rest.length≤N;omega) (by omega) (by omega) e
    rw [List.length_set] at q1
    exact ⟨by omega,q2⟩
   split at e
   ·have:=congrArg (fun x:List aw × Int=>x.2) e;cases this
   ·obtain ⟨q1,q2⟩:=Bc (W:=W) (N:=N) rest _ a (fun x hx=>by
     rcases List.mem_or_eq_of_mem_set hx with q1|q1
     ·have:=h x q1;rw [hw] at this;omega
     ·subst q1
      have e1:di lf (s.data++[r.data])=di lf s.data+(lf r.data+0+1):=by rw [zz];rfl
      have e2:(s.data++[r.data]).length=s.data.length+1:=by simp
      show di lf (s.data++[r.data])+di nn rest≤W∧(s.data++[r.data]).length+rest.length≤N
      omega) (by omega) (by omega) e
    rw [List.length_set] at q1
    exact ⟨by omega,q2⟩
noncomputable abbrev aju:Nat × Bool × (List AV→M AV):=(4,true,dq a0 (fun _=>some (.sc (.bool true))))
theorem akc {a b:cw} (h:¬ (a.origin=b.origin∧a.an=b.an)):a≠b:=fun q=>h (by rw [q];exact ⟨rfl,rfl⟩)
theorem awd {a b:cw} (h1:a.origin=b.origin) (h2:a.an=b.an):a=b:=by
 cases a;cases b;simp_all
theorem aem (a b:cw) (ha:dw a):wl PP [Ml,apy] 0 (Tryz.f10.body.getD .skip) (du PP Tryz.f10.results.toList (fun r st=>(r1 bw).get true st.h r=some (pr a b))) (cg 0 [eg.val false a,eg.val false b]) (bb []):=by
 have h1:=ati ha.origin
 unfold Tryz.f10
 simp only [p0]
 simp only [↓wR,RA,simprocAttr,TF,ae,vn,h1]
 cases h3:pr a.origin b.origin with
 |false=>simp only [↓wR,RA,simprocAttr,TF,ae,ot (akc fun q=>zu h3 q.1)]
 |true=>
 simp only [↓wR,RA,simprocAttr,TF,ae,Ah,ha.mid]
 cases h4:pr a.an b.an with
 |false=>simp only [↓wR,RA,simprocAttr,TF,ae,ot (akc fun q=>zu h4 q.2)]
 |true=>simp only [↓wR,RA,simprocAttr,TF,ae,Cy (awd (C7 h3) (C7 h4))]
noncomputable def x8 (x:cw × cw × Unit):Option AV:=if dw x.1 then some ((r1 bw).E true (pr x.1 x.2.1)) else none
set_option maxRecDepth 2000000 in
theorem W0 (x:cw × cw × Unit) (r:AV) (h:x8 x=some r):bu PP 10 ((aC eg (aC eg a0)).E x) r:=by
 by_cases hc:dw x.1
 case neg=>simp only [x8,if_neg hc] at h;cases h
 simp only [x8,if_pos hc] at h
 cases h
 exact bk (aq.cons (ar Bx) (aq.cons (ar Wu) (aq.nil PP))) Tryz.func10 (by kernel_rfl) (by kernel_rfl) (by kernel_rfl) (Nat.le_of_ble_eq_true (by kernel_rfl)) (r1 bw) true (pr x.1 x.2.1) (aem x.1 x.2.1 hc)
noncomputable abbrev Zz:Nat × Bool × (List AV→M AV):=(10,true,dq (aC eg (aC eg a0)) x8)
theorem Vv {t:UInt16}:∀ {l:List bn},(∀ d ∈ l,tx t d)→ue t l=true→ir (fe t) l
 | [],_,_=>List.Pairwise.nil
 | [a],_,_=>List.pairwise_singleton _ _
 |a::b::r,hg,h=>by
  rw [ue] at h
  split at h
  ·cases h
  rename_i h0
  have ih:=Vv (t:=t) (l:=b::r) (fun d hd=>hg d (List.mem_cons_of_mem _ hd)) h
  have ga:=hg a List.mem_cons_self
  have gb:=hg b (List.mem_cons_of_mem _ List.mem_cons_self)
  have hba:fe t b a=false:=(o0 t).Ws a b ga gb (decide_eq_true (by omega))
  refine List.pairwise_cons.2 ⟨fun y hy=>?_,ih⟩
  rcases List.mem_cons.1 hy with rfl|hy'
  ·exact hba
  ·exact (o0 t).trans a b y ga gb (hg y (List.mem_cons_of_mem _ hy)) hba ((List.pairwise_cons.1 ih).1 y hy')
theorem alv {z:cw} (h:kf z=0):ir eh z.an:=by
 refine (P6 (abf h)).imp fun {a b} q=>?_
 refine Oc.Ws a b trivial trivial (decide_eq_true ?_)
 rw [Hn] at q
 rw [aa8]
 rcases q with q|⟨q,q'⟩
 ·exact .inl q
 ·exact .inr ⟨q,.inl q'⟩
theorem Kb (x:aw):(dn x).owner=x.owner∧(dn x).type=x.type∧(dn x).cls=x.cls:=by
 unfold dn
 split<;>exact ⟨rfl,rfl,rfl⟩
def g9 (l:List aw):List ff:=l.flatMap mz
theorem tk {l:List aw} {r:ff}:r ∈ g9 l↔∃ s ∈ l,∃ d ∈ s.data,r=mkR s.owner s.type s.cls s.b7 d:=by
 unfold g9 mz
 rw [List.mem_flatMap]
 constructor
 ·rintro ⟨s,hs,hr⟩
  obtain ⟨d,hd,rfl⟩:=List.mem_map.1 hr
  exact ⟨s,hs,d,hd,rfl⟩
 ·rintro ⟨s,hs,d,hd,rfl⟩
  exact ⟨s,hs,List.mem_map.2 ⟨d,hd,rfl⟩⟩
theorem wh {s:aw} (h:ng s=0):cy s.owner=0∧0<s.data.length∧s.data.length≤512∧g7 s.type [] s.data=0:=by
 obtain ⟨a,b,c,d⟩:=ady h
 exact ⟨a,c,d,b⟩
theorem Dh {z:cw} (h:kf z=0):(z.an.map bq).Nodup:=by
 rw [List.Nodup,List.pairwise_map]
 refine List.Pairwise.imp_of_mem ?_ (anj (abf h))
 intro a b ha hb hab hk
 have na:=(wh (sb h a ha)).1
 have nb:=(wh (sb h b hb)).1
 exact hab ⟨oe.2 ((Jj na nb).1 (congrArg (fun k:iz=>k.1) hk)),congrArg (fun k:iz=>k.2.1) hk⟩
theorem Xk {l:List aw} (hn:(l.map bq).Nodup) {s s':aw} (hs:s ∈ l) (hs':s' ∈ l) (hk:bq s=bq s'):s=s':=by
 obtain ⟨i,hi⟩:=List.mem_iff_getElem?.1 hs
 obtain ⟨j,hj⟩:=List.mem_iff_getElem?.1 hs'
 obtain ⟨hi1,hi2⟩:=List.getElem?_eq_some_iff.1 hi
 obtain ⟨hj1,hj2⟩:=List.getElem?_eq_some_iff.1 hj
 have:=(List.getElem_inj (i:=i) (j:=j) (h₀:=by simpa using hi1) (h₁:=by simpa using hj1) hn).1 (by simp only [List.getElem_map,hi2,hj2,hk])
 subst this;rw [← hi2,← hj2]
theorem aon {z:cw} (h:kf z=0):ov (g9 z.an) z.an:=by
 have hk:=Dh h
 have hp:∀ s ∈ z.an,cy s.owner=0∧0<s.data.length∧s.data.length≤512∧g7 s.type [] s.data=0:=fun s hs=>wh (sb h s hs)
 refine ⟨hk,fun s hs=>⟨(hp s hs).1,?_,fun r hr e=>?_⟩,fun s hs d hd=>⟨J7 (sb h s hs) d hd,_,tk.2 ⟨s,hs,d,hd,rfl⟩,rfl,rfl⟩,fun s hs=>(hp s hs).2.2.2,fun s hs=>(hp s hs).2.1,fun r hr=>?_⟩
 ·obtain ⟨d,hd⟩:∃ d,d ∈ s.data:=⟨_,List.getElem_mem (hp s hs).2.1⟩
  exact ⟨_,tk.2 ⟨s,hs,d,hd,rfl⟩,rfl,rfl⟩
 ·obtain ⟨s',hs',d,hd,rfl⟩:=tk.1 hr
  have hs2:s'=s:=Xk hk hs' hs e
  subst hs2
  exact Nat.le_refl _
 ·obtain ⟨s,hs,d,hd,rfl⟩:=tk.1 hr
  have hde:=J7 (sb h s hs) d hd
  exact ⟨(hp s hs).1,hde,s,hs,rfl,List.any_eq_true.2 ⟨d,hd,D9 hde⟩⟩
noncomputable def vj (k:iz) (q:List ff):Nat:=(q.filter fun r=>decide (fu r=k)).length
theorem aq0 {k:iz} {q m:List ff} (h:q.Perm m):vj k q=vj k m:=(h.filter _).length_eq
theorem Gl {k:iz} {r:ff} {q:List ff}:vj k (r::q)=(if fu r=k then 1 else 0)+vj k q:=by
 unfold vj
 rw [List.filter_cons]
 by_cases h:fu r=k
 ·rw [if_pos (decide_eq_true h),if_pos h,List.length_cons];omega
 ·rw [if_neg (by simpa using h),if_neg h];omega
theorem asp {k:iz} (s:aw):vj k (mz s)=if bq s=k then s.data.length else 0:=by
 unfold vj mz
 by_cases h:bq s=k
 ·rw [if_pos h,List.filter_eq_self.2 (fun r hr=>by
   obtain ⟨d,_,rfl⟩:=List.mem_map.1 hr
   exact decide_eq_true h),List.length_map]
 ·rw [if_neg h,List.filter_eq_nil_iff.2 (fun r hr=>by
   obtain ⟨d,_,rfl⟩:=List.mem_map.1 hr
   exact fun q=>h (of_decide_eq_true q))]
  rfl
theorem Yb {k:iz} {N:Nat}:∀ (l:List aw),(l.map bq).Nodup→(∀ s ∈ l,s.data.length≤N)→vj k (g9 l)≤N∧(k ∉ l.map bq→vj k (g9 l)=0)
 | [],_,_=>⟨Nat.zero_le _,fun _=>rfl⟩
 |s::l,hn,hl=>by
  rw [List.map_cons,List.nodup_cons] at hn
  obtain ⟨h1,h2⟩:=Yb (k:=k) l hn.2 (fun x hx=>hl x (List.mem_cons_of_mem _ hx))
  have e:vj k (g9 (s::l))=vj k (mz s)+vj k (g9 l):=by
   unfold vj g9
   rw [List.flatMap_cons,List.filter_append,List.length_append]
  have hs:=hl s List.mem_cons_self
  rw [e,asp]
  by_cases h:bq s=k
  ·rw [if_pos h]
   have:=h2 (by rw [← h];exact hn.1)
   exact ⟨by omega,fun q=>absurd (by rw [List.map_cons,h];exact List.mem_cons_self) q⟩
  ·rw [if_neg h]
   refine ⟨by omega,fun q=>?_⟩
   have:=h2 (fun m=>q (by rw [List.map_cons];exact List.mem_cons_of_mem _ m))
   omega
theorem Ed:∀ (rest:List ff) (L:List aw),(∀ r ∈ rest,cy r.owner=0∧c7 r.type r.data=0)→(∀ s ∈ L,s.data.length+vj (bq s) rest≤512)→(∀ k,vj k rest≤512)→∃ b,fo rest L=(b,0)
 | [],L,_,_,_=>⟨L,rfl⟩
 |r::rest,L,hg,hl,hr=>by
  obtain ⟨h1,h2⟩:=hg r (by simp)
  rw [fo,if_neg (by rw [h1];simp),if_neg (by rw [h2];simp)]
  have hg':∀ r ∈ rest,cy r.owner=0∧c7 r.type r.data=0:=fun r hr=>hg r (by simp [hr])
  have hr':∀ k,vj k rest≤512:=fun k=>by have:=hr k;rw [Gl] at this;omega
  have hl':∀ s ∈ L,s.data.length+vj (bq s) rest≤512:=fun s hs=>by have:=hl s hs;rw [Gl] at this;omega
  cases hk:j7 (fu r) 0 (L.map bq) with
  |none=>
   refine Ed rest _ hg' (fun s hs=>?_) hr'
   rcases List.mem_append.1 hs with hs|hs
   ·exact hl' s hs
   ·simp only [List.mem_singleton] at hs;subst hs
    have:=hr (fu r)
    rw [Gl,if_pos rfl] at this
    exact this
  |some i=>
   simp only
   obtain ⟨p,hp,hkp⟩:=xl _ 0 i hk
   rw [Nat.zero_add] at hp;subst hp
   rw [List.getElem?_map,Option.map_eq_some_iff] at hkp
   obtain ⟨s,hs,hks⟩:=hkp
   rw [hs]
   simp only
   have hsl:=hl s (List.mem_of_getElem? hs)
   rw [Gl,if_pos hks.symm] at hsl
   split
   ·refine Ed rest _ hg' (fun x hx=>?_) hr'
    rcases List.mem_or_eq_of_mem_set hx with q1|q1
    ·exact hl' x q1
    ·subst q1;show s.data.length+vj (bq s) rest≤512;omega
   split
   ·omega
   ·refine Ed rest _ hg' (fun x hx=>?_) hr'
    rcases List.mem_or_eq_of_mem_set hx with q1|q1
    ·exact hl' x q1
    ·subst q1
     show (s.data++[r.data]).length+vj (bq s) rest≤512
     rw [List.length_append];simp only [List.length_singleton];omega
theorem Ry {α:Type} {lt : α → α→Bool}:∀ (x y:List α),ir lt x→ir lt y→x.Nodup→y.Nodup→(∀ a,a ∈ x↔a ∈ y)→(∀ a ∈ x,∀ b ∈ x,lt a b=false→lt b a=false→a=b)→x=y
 | [],[],_,_,_,_,_,_=>rfl
 | [],t::y,_,_,_,_,h,_=>by have:=(h t).2 (by simp);cases this
 |s::x,[],_,_,_,_,h,_=>by have:=(h s).1 (by simp);cases this
 |s::x,t::y,hx,hy,dx,dy,h,hu=>by
  have hx':=List.pairwise_cons.1 hx
  have hy':=List.pairwise_cons.1 hy
  have dx':=List.nodup_cons.1 dx
  have dy':=List.nodup_cons.1 dy
  have hst:s=t:=by
   rcases List.mem_cons.1 ((h s).1 (by simp)) with q|q
   ·exact q
   rcases List.mem_cons.1 ((h t).2 (by simp)) with q'|q'
   ·exact q'.symm
   exact hu s (by simp) t ((h t).2 (by simp)) (hy'.1 s q) (hx'.1 t q')
  subst hst
  congr 1
  refine Ry x y hx'.2 hy'.2 dx'.2 dy'.2 (fun a=>?_) (fun a ha b hb=>hu a (by simp [ha]) b (by simp [hb]))
  have:=h a
  rw [List.mem_cons,List.mem_cons] at this
  constructor
  ·intro q
   rcases this.1 (.inr q) with e|e
   ·subst e;exact absurd q dx'.1
   ·exact e
  ·intro q
   rcases this.2 (.inr q) with e|e
   ·subst e;exact absurd q dy'.1
   ·exact e
theorem Qz {t:UInt16} {l:List bn} (h:g7 t [] l=0):l.Nodup:=by
 refine List.Pairwise.imp_of_mem ?_ (Iv h)
 intro a b ha hb hab e
 subst e
 obtain ⟨i,hi⟩:=List.mem_iff_getElem?.1 ha
 rw [D9 (Zc h hi).1] at hab
 cases hab
theorem Yn {t:UInt16} {l:List bn} (h:g7 t [] l=0) {a b:bn} (ha:a ∈ l) (hb:b ∈ l) (hs:yd t a b=true):a=b:=by
 obtain ⟨i,hi,rfl⟩:=List.getElem_of_mem ha
 obtain ⟨j,hj,rfl⟩:=List.getElem_of_mem hb
 have hp:=List.pairwise_iff_getElem.1 (Iv h)
 rcases Nat.lt_trichotomy i j with q|q|q
 ·rw [hp i j hi hj q] at hs;cases hs
 ·subst q;rfl
 ·have h2:=hp j i hj hi q
  have h3:=Mm.1 hs
  rw [Mm.2 ⟨h3.2.1,h3.1,h3.2.2.symm⟩] at h2;cases h2
theorem apr {t:UInt16} {a b:bn} (ha:c7 t a=0) (hb:c7 t b=0) (h1:fe t a b=false) (h2:fe t b a=false):yd t a b=true:=by
 have n1:¬ ym t a b<0:=of_decide_eq_false h1
 have n2:¬ ym t b a<0:=of_decide_eq_false h2
 rw [tc ha hb] at n1
 rw [tc hb ha] at n2
 have hf:=Ce (kx t (jo t a)) (kx t (jo t b))
 refine Mm.2 ⟨ha,hb,Ir _ _ ?_⟩
 unfold Dt at n1 n2
 omega
theorem A8 {Q:List ff}:∀ (rest:List ff) (L a:List aw),(∀ s ∈ L,∃ r ∈ Q,fu r=bq s∧r.owner=s.owner)→(∀ r ∈ rest,r ∈ Q)→fo rest L=(a,0)→∀ s ∈ a,∃ r ∈ Q,fu r=bq s∧r.owner=s.owner
 | [],L,a,h,_,e=>by rw [fo] at e;cases e;exact h
 |r::rest,L,a,h,hq,e=>by
  have hq':∀ r ∈ rest,r ∈ Q:=fun r hr=>hq r (by simp [hr])
  rw [fo] at e
  split at e
  ·rename_i h1;have:=congrArg (fun x:List aw × Int=>x.2) e;exact absurd this h1
  split at e
  ·rename_i h2;have:=congrArg (fun x:List aw × Int=>x.2) e;exact absurd this h2
  cases hk:j7 (fu r) 0 (L.map bq) with
  |none=>
   rw [hk] at e
   refine A8 rest _ a (fun s hs=>?_) hq' e
   rcases List.mem_append.1 hs with hs|hs
   ·exact h s hs
   ·simp only [List.mem_singleton] at hs;subst hs
    exact ⟨r,hq r (by simp),rfl,rfl⟩
  |some i=>
   rw [hk] at e
   simp only at e
   cases hs:L[i]? with
   |none=>
    rw [hs] at e
    obtain ⟨p,hp,hkp⟩:=xl _ 0 i hk
    rw [Nat.zero_add] at hp;subst hp
    rw [List.getElem?_map,hs] at hkp;cases hkp
   |some s=>
   rw [hs] at e
   simp only at e
   have hsl:=h s (List.mem_of_getElem? hs)
   have hstep:∀ d,∀ x ∈ L.set i (ld s.owner s.type s.cls (pc s.b7 r.b7) d),∃ r ∈ Q,fu r=bq x∧r.owner=x.owner:=fun d x hx=>by
    rcases List.mem_or_eq_of_mem_set hx with q1|q1
    ·exact h x q1
    ·subst q1;exact hsl
   split at e
   ·exact A8 rest _ a (hstep _) hq' e
   split at e
   ·have:=congrArg (fun x:List aw × Int=>x.2) e;cases this
   ·exact A8 rest _ a (hstep _) hq' e
theorem ain {α:Type} {μ : α→Nat} {y : α}:∀ (l:List α) (i:Nat) (x : α),l[i]? = some x→di μ (l.set i y) + μ x=di μ l + μ y
 | [],i,x,h=>by simp at h
 |a::l,0,x,h=>by
  simp only [List.getElem?_cons_zero,Option.some.injEq] at h;subst h
  simp only [List.set_cons_zero,di,List.foldr_cons];omega
 |a::l,i+1,x,h=>by
  have ih:=ain (μ:=μ) (y:=y) l i x (by simpa using h)
  simp only [List.set_cons_succ,di,List.foldr_cons] at ih ⊢;omega
theorem at9 {n:Name} (h:cy n=0):bt n≤255:=by
 unfold cy at h
 split at h
 ·cases h
 split at h
 ·cases h
 ·omega
theorem z9:∀ (rest:List ff) (L a:List aw),fo rest L=(a,0)→di lh a≤di lh L+di nn rest+260 * rest.length
 | [],L,a,e=>by rw [fo] at e;cases e;simp only [List.length_nil];omega
 |r::rest,L,a,e=>by
  have hw:di nn (r::rest)=lf r.data+di nn rest+1:=rfl
  rw [hw,List.length_cons]
  rw [fo] at e
  split at e
  ·rename_i h1;have:=congrArg (fun x:List aw × Int=>x.2) e;exact absurd this h1
  rename_i h1
  have n255:=at9 (Decidable.not_not.1 h1)
  split at e
  ·rename_i h2;have:=congrArg (fun x:List aw × Int=>x.2) e;exact absurd this h2
  cases hk:j7 (fu r) 0 (L.map bq) with
  |none=>
   rw [hk] at e
   have ih:=z9 rest _ a e
   have h2:=ads lh L [ld r.owner r.type r.cls r.b7 [r.data]]
   have h3:di lh [ld r.owner r.type r.cls r.b7 [r.data]]=bt r.owner+(lf r.data+0+1)+0+1:=rfl
   omega
  |some i=>
   rw [hk] at e
   simp only at e
   cases hs:L[i]? with
   |none=>
    rw [hs] at e
    obtain ⟨p,hp,hkp⟩:=xl _ 0 i hk
    rw [Nat.zero_add] at hp;subst hp
    rw [List.getElem?_map,hs] at hkp;cases hkp
   |some s=>
   rw [hs] at e
   simp only at e
   have hst:=fun y=>ain (μ:=lh) (y:=y) L i s hs
   split at e
   ·have ih:=z9 rest _ a e
    have h3:=hst (ld s.owner s.type s.cls (pc s.b7 r.b7) s.data)
    have h4:lh (ld s.owner s.type s.cls (pc s.b7 r.b7) s.data)=lh s:=rfl
    omega
   split at e
   ·have:=congrArg (fun x:List aw × Int=>x.2) e;cases this
   ·have ih:=z9 rest _ a e
    have h3:=hst (ld s.owner s.type s.cls (pc s.b7 r.b7) (s.data++[r.data]))
    have e1:di lf (s.data++[r.data])=di lf s.data+(lf r.data+0+1):=by rw [zz];rfl
    have h4:lh (ld s.owner s.type s.cls (pc s.b7 r.b7) (s.data++[r.data]))=bt s.owner+di lf (s.data++[r.data]):=rfl
    have h5:lh s=bt s.owner+di lf s.data:=rfl
    omega
theorem amc {z:cw} (hz:dw z) (h:kf z=0) {m:List ff} (hm:m.Perm (g9 z.an)) {b:List aw} (hb:ov m b) (ho:∀ x ∈ b,∃ r ∈ m,fu r=bq x∧r.owner=x.owner) {x:aw} (hx:x ∈ b):∃ s ∈ z.an,bq s=bq x∧dn x=s:=by
 obtain ⟨r,hr,k1,hor⟩:=ho x hx
 obtain ⟨s,hs,d0,hd0,hre⟩:=tk.1 (hm.mem_iff.1 hr)
 have hks:bq s=bq x:=by rw [← k1,hre];rfl
 have how:x.owner=s.owner:=by rw [← hor,hre];rfl
 have hfrom:∀ r' ∈ m,fu r'=bq x→∃ d ∈ s.data,r'=mkR s.owner s.type s.cls s.b7 d:=fun r' hr' e=>by
  obtain ⟨s',hs',d,hd,he⟩:=tk.1 (hm.mem_iff.1 hr')
  have:bq s'=bq s:=by rw [hks,← e,he];rfl
  have hss:=Xk (Dh h) hs' hs this
  subst hss
  exact ⟨d,hd,he⟩
 have hps:=wh (sb h s hs)
 have hty:x.type=s.type:=congrArg (fun k:iz=>k.2.1) hks.symm
 have hcl:x.cls=s.cls:=congrArg (fun k:iz=>k.2.2) hks.symm
 have htt:x.b7=s.b7:=by
  obtain ⟨_,⟨r',hr',k2,k3⟩,_⟩:=hb.O7 x hx
  obtain ⟨d,_,e⟩:=hfrom r' hr' k2
  rw [← k3,e];rfl
 have hap:=hb.apart x hx
 rw [hty] at hap
 have hmem:∀ d ∈ x.data,d ∈ s.data:=fun d hd=>by
  obtain ⟨_,r',hr',k2,k3⟩:=hb.data x hx d hd
  obtain ⟨d',hd',e⟩:=hfrom r' hr' k2
  rw [← k3,e];exact hd'
 have hmem2:∀ d ∈ s.data,d ∈ x.data:=fun d hd=>by
  obtain ⟨_,_,x',hx',k2,hv⟩:=hb.all (mkR s.owner s.type s.cls s.b7 d) (hm.mem_iff.2 (tk.2 ⟨s,hs,d,hd,rfl⟩))
  have hxx:x'=x:=hb.one hx' hx (k2.trans hks)
  subst hxx
  unfold np at hv
  obtain ⟨d',hd',hs'⟩:=List.any_eq_true.1 hv
  rw [hty] at hs'
  rw [← Yn hps.2.2.2 (hmem d' hd') hd hs']
  exact hd'
 have hde:∀ d ∈ s.data,c7 s.type d=0:=J7 (sb h s hs)
 have hsd:=(hz.set s hs).data
 have hgs:∀ d ∈ s.data,tx s.type d:=fun d hd=>⟨hsd.mem d hd,hde d hd⟩
 have hrs:ir (fe s.type) s.data:=by
  obtain ⟨k,hk⟩:=List.getElem?_of_mem hs
  have hr:=(abf h).auj k s hk
  unfold kq at hr
  rw [Bool.and_eq_true] at hr
  exact Vv hgs hr.2
 have hso:dg (fe s.type) x.data=s.data:=by
  refine Ry _ _ (l6 (o0 s.type) x.data (fun y hy=>hgs y (hmem y hy))) hrs ((xq _).nodup_iff.2 (Qz hap)) (Qz hps.2.2.2) (fun a=>?_) (fun a ha b hb h1 h2=>?_)
  ·rw [gz];exact ⟨hmem a,hmem2 a⟩
  ·have ha':=hmem a (gz.1 ha)
   have hb':=hmem b (gz.1 hb)
   exact Yn hps.2.2.2 ha' hb' (apr (hde a ha') (hde b hb') h1 h2)
 refine ⟨s,hs,hks,?_⟩
 unfold dn
 rw [if_pos (List.all_eq_true.2 fun d hd=>decide_eq_true (by rw [hty];exact hde d (hmem d hd))),hty,hso,how,hcl,htt]
 cases s;rfl
theorem Z3 (x y:aw):eh (dn x) (dn y)=eh x y:=by
 obtain ⟨h1,h2,h3⟩:=Kb x
 obtain ⟨k1,k2,k3⟩:=Kb y
 have:xt (dn x) (dn y)=xt x y:=by unfold xt;rw [h1,h2,h3,k1,k2,k3]
 unfold eh
 rw [this]
theorem aq8 {z:cw} (hz:dw z) (h:kf z=0) {m:List ff} (hm:m.Perm (g9 z.an)) {b:List aw} (hb:fo m []=(b,0)):D7 b=z.an:=by
 have hS:ov m b:=Ch m [] [] b ov.nil hb
 have hO:∀ x ∈ b,∃ r ∈ m,fu r=bq x∧r.owner=x.owner:=A8 (Q:=m) m [] b (fun s hs=>(by cases hs)) (fun r hr=>hr) hb
 have hc:∀ x ∈ b,∃ s ∈ z.an,bq s=bq x∧dn x=s:=fun x hx=>amc hz h hm hS hO hx
 have hkc:∀ x,bq (dn x)=bq x:=fun x=>by
  obtain ⟨h1,h2,h3⟩:=Kb x
  unfold bq;rw [h1,h2,h3]
 have hmk:((dg eh b).map dn).map bq=(dg eh b).map bq:=by
  rw [List.map_map];exact List.map_congr_left fun x _=>hkc x
 have hnk:∀ l:List aw,(l.map bq).Nodup→l.Nodup:=fun l q=>by
  rw [List.Nodup,List.pairwise_map] at q
  exact q.imp fun q e=>q (by rw [e])
 unfold D7
 refine Ry (lt:=eh) _ _ ?_ (alv h) (hnk _ ?_) (hnk _ (Dh h)) (fun a=>⟨fun q=>?_,fun q=>?_⟩) (fun a ha c hc' h1 h2=>?_)
 ·unfold ir
  rw [List.pairwise_map]
  refine (l6 Oc b (fun _ _=>trivial)).imp fun {x y} q=>?_
  rw [Z3];exact q
 ·rw [hmk]
  exact ((xq b).map bq).nodup_iff.2 hS.keys
 ·obtain ⟨x,hx,rfl⟩:=List.mem_map.1 q
  obtain ⟨s,hs,_,e⟩:=hc x (gz.1 hx)
  rw [e];exact hs
 ·obtain ⟨d,hd⟩:∃ d,d ∈ a.data:=⟨_,List.getElem_mem (wh (sb h a q)).2.1⟩
  obtain ⟨_,_,x,hx,k,_⟩:=hS.all (mkR a.owner a.type a.cls a.b7 d) (hm.mem_iff.2 (tk.2 ⟨a,q,d,hd,rfl⟩))
  obtain ⟨s,hs,k2,e⟩:=hc x hx
  have hsa:s=a:=Xk (Dh h) hs q (k2.trans k)
  exact List.mem_map.2 ⟨x,gz.2 hx,by rw [e,hsa]⟩
 ·obtain ⟨x,hx,rfl⟩:=List.mem_map.1 ha
  obtain ⟨y,hy,rfl⟩:=List.mem_map.1 hc'
  rw [Z3] at h1 h2
  have hxy:=hS.one (gz.1 hx) (gz.1 hy) ((hS.awu hS (gz.1 hx) (gz.1 hy)).1 (as9 x y h1 h2))
  rw [hxy]
theorem aom {z:cw} (hz:dw z) (h:kf z=0) {m:List ff} (hm:m.Perm (g9 z.an)) {b:List aw} (hb:fo m []=(b,0)):Gp z.origin b=(z,0):=by
 have hzz:F9 z.origin z.an=z:=by cases z;rfl
 unfold Gp
 rw [aq8 hz h hm hb,hzz,if_pos h]
theorem av0 {z:cw} (h:kf z=0) {m:List ff} (hm:m.Perm (g9 z.an)):∃ b,fo m []=(b,0):=by
 have hp:∀ s ∈ z.an,cy s.owner=0∧0<s.data.length∧s.data.length≤512∧g7 s.type [] s.data=0:=fun s hs=>wh (sb h s hs)
 refine Ed m [] (fun r hr=>?_) (fun s hs=>(by cases hs)) (fun k=>?_)
 ·have:=(aon h).all r (hm.mem_iff.1 hr)
  exact ⟨this.1,this.2.1⟩
 ·rw [aq0 hm]
  exact (Yb z.an (Dh h) (fun s hs=>(hp s hs).2.2.1)).1
theorem Y4 (l m:List aw):g9 (l++m)=g9 l++g9 m:=by unfold g9;rw [List.flatMap_append]
theorem aqx {l:List aw}:(g9 l).length≤di lh l:=by
 induction l with
 |nil=>exact Nat.le_refl _
 |cons s l ih=>
  have h1:g9 (s::l)=mz s++g9 l:=by unfold g9;rw [List.flatMap_cons]
  have h2:(mz s).length=s.data.length:=by unfold mz;rw [List.length_map]
  have h3:=B3 lf s.data
  rw [h1,List.length_append,h2]
  simp only [di,List.foldr_cons,lh] at *
  omega
theorem ama {l:List aw} {i:Nat} {c:aw} (h:l[i]? = some c):g9 (l.take (i+1))=g9 (l.take i)++mz c:=by
 rw [iq h,Y4]
 congr 1
 unfold g9
 rw [List.flatMap_cons,List.flatMap_nil,List.append_nil]
theorem Sq {l:List aw} (i:Nat):(g9 (l.take i)).length≤di lh l:=by
 have h1:g9 l=g9 (l.take i)++g9 (l.drop i):=by rw [← Y4,List.take_append_drop]
 have h2:=aqx (l:=l)
 rw [h1,List.length_append] at h2
 omega
theorem amm (z:cw) (hz:dw z) (hw:di lh z.an≤8388608) (he:kf z=0):gp PP 7 [eg.val false z] (bb [])
 (fun r st'=>r = .fc [.sl 0 0 (g9 z.an).length 8,.sc (.int .i64 0)]∧st'=bb [some (.row (cellsOf dr true (g9 z.an)) 0 0 46)]):=by
 have hq:∀ a b c d,c0 a b c=d→c0 a b c=d:=fun _ _ _ _ h=>h
 have hln:=hz.len
 have hgood:=sb he
 refine ct _ rfl ?_ (fun r st' h=>h)
 simp only [p0]
 refine bm (T:=[Ux,aps]) (aq.cons (ar Hu) (aq.cons (ar Ww) (aq.nil PP))) mixed Tryz.func7 rfl (by kernel_rfl) (by kernel_rfl) (by kernel_rfl) (by kernel_rfl) ?_;unfold Tryz.f7
 simp only [↓wR,RA,simprocAttr,TF,ae,B2,hz,he]
 refine n8 [16,17,18,5] (fun (i:Nat)=>[.vl false 5 (z.an.map (aj.val false)),.sc (.int .i64 (z.an.length)),.sc (.int .i64 (i)),.sl 0 0 (g9 (z.an.take i)).length 8]) (fun i=>[some (.row (cellsOf dr true (g9 (z.an.take i))) 0 0 46)]) (fun i=>i≤z.an.length) (fun i=>z.an.length - i) 0 (Nat.zero_le _) (by simp only [↓wR,RA,simprocAttr,TF,ae];(refine tu.lax [] (by first|exact Nat.le_of_ble_eq_true rfl|(simp [br];omega)) ?_ ?_<;>repeat' first|exact j0.nil|exact dp.nil|exact ke.same _|exact ke.nil _ _ _|exact ke.yk _ _|exact dp.refl _ _|apply j0.cons|apply dp.ghost|apply dp.same|apply dp.row)) ?_
 intro i hi
 simp only [↓wR,RA,simprocAttr,TF,ae]
 rw [bj];refine ⟨fun h=>?_,fun h=>?_⟩
 ·obtain ⟨c,hc,hd1,hlt⟩:=gm (decide_eq_true h)
  have hcm:=List.mem_of_getElem? hc
  have hcs:=hz.set c hcm
  have hce:=hgood c hcm
  have hnx:=ama hc
  have hp:=Sq (l:=z.an) i
  have hp2:=Sq (l:=z.an) (i+1)
  rw [hnx,List.length_append] at hp2
  have hlim:((g9 (z.an.take i)).length * 8+(mz c).length * 8) * 160≤140737488355328:=by omega
  simp only [↓wR,RA,simprocAttr,TF,ae,h,hc,xy,hcs,hce,hlim];repeat (simp (disch:=omega) only [ah,bh,bf,bg,be];try simp only [↓wR,RA,simprocAttr,TF,ae,h,hc,xy,hcs,hce,hlim])
  refine ⟨i+1,hlt,by omega,?_⟩
  rw [hnx,List.length_append]
  refine ⟨by (first|rfl|trivial|omega|((try (simp (disch:=omega) only [ah]));(try (simp only [FB]));first|done|rfl|omega)),?_⟩
  unfold cellsOf
  rw [List.flatMap_append]
 ·have hin:i=z.an.length:=by omega
  subst hin
  rw [List.take_length]
  simp only [↓wR,RA,simprocAttr,TF,ae,h,gn,fy,fp]
noncomputable instance (q:List ff):Decidable (wo q):=Classical.propDecidable _
noncomputable def Em (n:Name) (l:List ff):cw × Int:=if (fo l []).2=0 then Gp n (fo l []).1 else (F9 [] [],(fo l []).2)
theorem apk (n:Name) (l:List ff) (hg:wo l) (hn:cp n) (hw:bt n+di nn l+260 * l.length≤16777216):wl PP [azy,azt] 0 (Tryz.f9.body.getD .skip) (du PP Tryz.f9.results.toList (fun r st=>(r2 eg (bc .i64)).get true st.h r=some (Em n l))) (cg 0 [az.val false n,(cd dr).val false l]) (bb []):=by
 have hq:∀ a b c d,c0 a b c=d→c0 a b c=d:=fun _ _ _ _ h=>h
 obtain ⟨a,ha⟩:∃ a,a=fo l []:=⟨_,rfl⟩
 unfold Tryz.f9
 simp only [dt,px]
 unfold Em
 rw [← ha]
 simp only [↓wR,RA,simprocAttr,TF,ae,Lp,if_pos hg,← ha]
 rw [ed];refine ⟨fun ⟨h2,e2⟩=>?_,fun ⟨h2,e2⟩=>?_⟩
 ·rw [if_neg e2]
  simp only [↓wR,RA,simprocAttr,TF,ae,h2]
 rw [if_pos (by omega)]
 have ha2:fo l []=(a.1,0):=by rw [← ha];exact Prod.ext rfl (by omega)
 have ht:=z9 l [] a.1 ha2
 obtain ⟨q1,q2⟩:=Bc (W:=di nn l) (N:=l.length) l [] a.1 (fun s hs=>(by cases hs)) (Nat.le_refl _) (Nat.le_refl _) ha2
 have h0:di lh ([]:List aw)=0:=rfl
 have hlen:=hg.len
 simp only [List.length_nil,Nat.zero_add] at q1
 have c1:bt n+di lh a.1≤16777216:=by omega
 have c2:a.1.length≤1048576:=by omega
 have c3:∀ s ∈ a.1,s.data.length≤1048576:=fun s hs=>by have:=(q2 s hs).2;omega
 simp only [↓wR,RA,simprocAttr,TF,ae,h2,Lu,c1,c2,eq_true c3,Ka]
noncomputable def Es (x:Name × List ff × Unit):Option AV:=if wo x.2.1∧cp x.1∧bt x.1+di nn x.2.1+260 * x.2.1.length≤16777216 then some ((r2 eg (bc .i64)).E true (Em x.1 x.2.1)) else none
set_option maxRecDepth 2000000 in
theorem ah0 (x:Name × List ff × Unit) (r:AV) (h:Es x=some r):bu PP 9 ((aC az (aC (cd dr) a0)).E x) r:=by
 by_cases hc:wo x.2.1∧cp x.1∧bt x.1+di nn x.2.1+260 * x.2.1.length≤16777216
 case neg=>simp only [Es,if_neg hc] at h;cases h
 simp only [Es,if_pos hc] at h
 cases h
 exact bk (aq.cons (ar ako) (aq.cons (ar ak1) (aq.nil PP))) Tryz.func9 (by kernel_rfl) (by kernel_rfl) (by kernel_rfl) (Nat.le_of_ble_eq_true (by kernel_rfl)) (r2 eg (bc .i64)) true (Em x.1 x.2.1) (apk x.1 x.2.1 hc.1 hc.2.1 hc.2.2)
noncomputable abbrev ano:Nat × Bool × (List AV→M AV):=(9,true,dq (aC az (aC (cd dr) a0)) Es)
theorem akp {z:cw} (hz:dw z) (hw:di lh z.an≤8388608) (hl:(g9 z.an).length≤1048576):wo (g9 z.an)∧di nn (g9 z.an)≤di lh z.an:=by
 have hwt:∀ l:List aw,di nn (g9 l)≤di lh l:=fun l=>by
  induction l with
  |nil=>exact Nat.le_refl _
  |cons s l ih=>
   have h1:g9 (s::l)=mz s++g9 l:=by unfold g9;rw [List.flatMap_cons]
   have h2:∀ (m:List bn),di nn (m.map fun d=>mkR s.owner s.type s.cls s.b7 d)=di lf m:=fun m=>by
    induction m with
    |nil=>rfl
    |cons d m ih=>
     simp only [di,List.map_cons,List.foldr_cons] at ih ⊢
     rw [ih];rfl
   rw [h1,ads nn]
   unfold mz
   rw [h2]
   simp only [di,List.foldr_cons,lh] at ih ⊢
   omega
 have h1:=hwt z.an
 refine ⟨⟨fun r hr=>?_,by omega,hl⟩,by omega⟩
 obtain ⟨s,hs,d,hd,rfl⟩:=tk.1 hr
 exact (hz.set s hs).owner
set_option maxHeartbeats 4000000 in
theorem anp (z:cw) (ts:List Int) (hw:N5 z≤8388608) (hts:ts.length≤1048576):wl PP [aju,axs,Ux,aul,ano,Zz] 0 (Tryz.f3.body.getD .skip) (du PP Tryz.f3.results.toList (fun r st=>(r1 bw).get true st.h r=some true)) (cg 0 [eg.val false z,(cd (bc .i64)).val false ts]) (bb []):=by
 have hq:∀ a b c d,c0 a b c=d→c0 a b c=d:=fun _ _ _ _ h=>h
 have hz:dw z:=by unfold dw;omega
 have hwz:bt z.origin+di lh z.an=N5 z:=rfl
 unfold Tryz.f3
 simp only [p0,px]
 simp only [↓wR,RA,simprocAttr,TF,ae,S1,hz]
 rw [dm];refine ⟨fun h1=>?_,fun h1=>?_⟩
 ·have h1':N4 z=false:=by simpa only [Bool.not_eq_true'] using h1
  simp only [↓wR,RA,simprocAttr,TF,ae,h1,h1']
 have h1':N4 z=true:=by simpa only [Bool.not_eq_false'] using h1
 simp only [↓wR,RA,simprocAttr,TF,ae,h1,h1',B2,hz]
 rw [dm];refine ⟨fun h3=>?_,fun h3=>?_⟩
 ·simp only [↓wR,RA,simprocAttr,TF,ae,h3]
 have hze:kf z=0:=by simpa using h3
 have hfl:z.an.length≤40∧∀ x ∈ z.an,x.data.length≤20:=by
  unfold N4 Xj at h1'
  rw [Bool.and_eq_true,List.all_eq_true] at h1'
  exact ⟨by have:=of_decide_eq_true h1'.2;omega,fun x hx=>by have:=h1'.1 x hx;simp at this;omega⟩
 obtain ⟨R,hR⟩:∃ R,R=g9 z.an:=⟨_,rfl⟩
 have hRl:R.length≤800:=by
  have:∀ l:List aw,(∀ x ∈ l,x.data.length≤20)→(g9 l).length≤20 * l.length:=fun l=>by
   induction l with
   |nil=>intro _;exact Nat.le_refl _
   |cons s l ih=>
    intro h
    have h1:g9 (s::l)=mz s++g9 l:=by unfold g9;rw [List.flatMap_cons]
    have h2:=ih (fun x hx=>h x (List.mem_cons_of_mem _ hx))
    have h4:=h s List.mem_cons_self
    have h5:(mz s).length=s.data.length:=by unfold mz;rw [List.length_map]
    rw [h1,List.length_append,List.length_cons,h5]
    omega
  have:=this z.an hfl.2
  rw [hR];omega
 obtain ⟨hg,hwr⟩:=akp hz (by omega) (by rw [← hR];omega)
 have hcall:=amm z hz (by omega) hze
 rw [← hR] at hg hwr hcall
 simp only [↓wR,RA,simprocAttr,TF,ae,h3]
 refine rk [] hcall (by decide) (by simp only [↓wR,RA,simprocAttr,TF,ae]) (by simp only [↓wR,RA,simprocAttr,TF,ae]) (Nat.le_of_ble_eq_true rfl) (by simp only [↓wR,RA,simprocAttr,TF,ae]) (by simp only [↓wR,RA,simprocAttr,TF,ae]) ⟨Nat.le_of_ble_eq_true rfl,Nat.le_of_ble_eq_true rfl⟩ ?_
 simp only [↓wR,RA,simprocAttr,TF,ae,cx,lq,oo,ph,yh]
 refine c8 [1,2,5,6,7,8] (fun (x:Nat × List ff)=>[.vl false 1 (ts.map ((bc .i64).val false)),.ptr 0 0,.sc (.bool true),.sl 1 0 R.length 8,.sc (.int .i64 0),.sc (.int .i64 (x.1))]) (fun x=>[some (.row [.vl false 1 (z.origin.map (ai.val false)),.vl false 5 (z.an.map (aj.val false))] 0 2 26),some (.row (cellsOf dr true (x.2)) 0 0 46)]) (fun x=>x.1≤200∧x.2.Perm R) (fun x=>200 - x.1) (0,R) ⟨Nat.zero_le _,.refl _⟩ (by simp only [↓wR,RA,simprocAttr,TF,ae]<;>rfl) (by simp only [↓wR,RA,simprocAttr,TF,ae]<;>rfl) ?_
 rintro ⟨i,m⟩ ⟨hi,hm⟩
 have hml:=hm.length_eq
 simp only [↓wR,RA,simprocAttr,TF,ae]
 rw [bj];refine ⟨fun h3=>?_,fun h3=>?_⟩
 simp only [↓wR,RA,simprocAttr,TF,ae,h3]
 rw [bj];refine ⟨fun h4=>?_,fun h4=>?_⟩
 simp only [↓wR,RA,simprocAttr,TF,ae,h4]
 rw [bj];refine ⟨fun h5=>?_,fun h5=>?_⟩
 ·have hil:i<ts.length:=by omega
  have hl0 : 0<R.length:=by omega
  have hln0:(R.length:Int)≠0:=by omega
  obtain ⟨t,ht⟩:∃ t,ts[i]? = some t:=⟨_,List.getElem?_eq_getElem hil⟩
  have her:=anw (P:=PP) (t:=3) .i64 i R.length hln0
  have hb:(R.length:Int)<4611686018427387904:=by omega
  obtain ⟨p1,p2⟩:=ash t (n:=(R.length:Int)) (by omega)
  obtain ⟨y0,hy0⟩:∃ y0:Nat,Cj t R.length=(y0:Int):=⟨(Cj t R.length).toNat,by omega⟩
  obtain ⟨x0,hx0⟩:∃ x0:Nat,x0=i % R.length:=⟨_,rfl⟩
  have htm:Int.tmod (i:Int) (R.length:Int)=(x0:Int):=by rw [hx0];rfl
  have hxl:x0<R.length:=by rw [hx0];exact Nat.mod_lt _ hl0
  have hyl:y0<R.length:=by omega
  have hml':m.length=R.length:=hml
  obtain ⟨rx,hrx⟩:∃ rx,m[x0]? = some rx:=⟨_,List.getElem?_eq_getElem (by omega)⟩
  obtain ⟨ry,hry⟩:∃ ry,m[y0]? = some ry:=⟨_,List.getElem?_eq_getElem (by omega)⟩
  have l1:=fun k st et=>acj (xs:=m) k st et hrx
  have l2:=fun k st et=>acj (xs:=m) k st et hry
  have s1:=fun k et id=>Zo (xs:=m) ry k et id hrx
  have hry2:∃ z,(m.set x0 ry)[y0]? = some z:=⟨_,List.getElem?_eq_getElem (by simp;omega)⟩
  obtain ⟨z',hz'⟩:=hry2
  have s2:=fun k et id=>Zo (xs:=m.set x0 ry) rx k et id hz'
  have hperm:((m.set x0 ry).set y0 rx).Perm R:=by
   have:=ao3 m x0 y0 (by omega) (by omega)
   obtain ⟨q1,q2⟩:=List.getElem?_eq_some_iff.1 hrx
   obtain ⟨q3,q4⟩:=List.getElem?_eq_some_iff.1 hry
   rw [q2,q4] at this
   exact this.trans hm
  simp only [↓wR,RA,simprocAttr,TF,ae,h5]
  refine ⟨by kernel_rfl,.inl ?_⟩
  simp only [↓wR,RA,simprocAttr,TF,ae,her,htm,ht,Li,hb,hy0]
  refine ⟨by apply hq;kernel_rfl,?_⟩
  refine ⟨by kernel_rfl,.inl ?_⟩
  simp only [↓wR,RA,simprocAttr,TF,ae,hxl,hyl,↓l1,↓l2,↓s1,↓s2,D6];repeat (simp (disch:=omega) only [ah,bh,bf,bg,be];try simp only [↓wR,RA,simprocAttr,TF,ae,hxl,hyl,↓l1,↓l2,↓s1,↓s2,D6])
  refine ⟨by apply hq;kernel_rfl,(i+1,(m.set x0 ry).set y0 rx),⟨?_,hperm⟩,?_,by (first|rfl|trivial|omega|((try (simp (disch:=omega) only [ah]));(try (simp only [FB]));first|done|rfl|omega)),rfl⟩
  ·show i+1≤200;omega
  ·show 200 - (i+1)<200 - i;omega
 simp only [↓wR,RA,simprocAttr,TF,ae,h5]
 rotate_left
 simp only [↓wR,RA,simprocAttr,TF,ae,h4]
 rotate_left
 simp only [↓wR,RA,simprocAttr,TF,ae,h3]
 rotate_left
 all_goals
  have hml':m.length=R.length:=hml
  have hgm:wo m:=an3 hm hg
  have hm':m.Perm (g9 z.an):=by rw [← hR];exact hm
  obtain ⟨b,hbm⟩:=av0 hze hm'
  have hmb:=aom hz hze hm' hbm
  have hv:Em z.origin m=(z,0):=by unfold Em;rw [hbm,if_pos rfl];exact hmb
  have hdec:∀ fr h kk st et,mf dr fr h 0 R.length (.row (cellsOf dr true m) kk st et)=some m:=fun fr h kk st et=>nh dr fr h true _ kk st et _ hml'.symm rfl
  have hno:cp z.origin:=hz.origin
  have hsz:bt z.origin+di nn m+260 * m.length≤16777216:=by rw [Je hm,hml'];omega
  have hzz:F9 z.origin z.an=z:=by cases z;rfl
  simp only [↓wR,RA,simprocAttr,TF,ae,Es,hdec,hgm,hno,hsz,hv,Z9,Ka,x8,hz,hzz,Cy];repeat (simp (disch:=omega) only [ah,bh,bf,bg,be];try simp only [↓wR,RA,simprocAttr,TF,ae,Es,hdec,hgm,hno,hsz,hv,Z9,Ka,x8,hz,hzz,Cy])
end Go.Proofs.YtifjogffkafalaaGreat
end
section
namespace Go.Proofs.YtifjogffkafalaaGreat
open Go.Vm
set_option maxRecDepth 2000000
noncomputable section
def muP {α β:Type} (μ : α→Nat) (ν : β→Nat) (p : α × β):Nat:=μ p.1 + ν p.2
def Aa {α:Type} (μ : α→Nat) (l:List α):Nat:=tr μ l+1
def Kn {α:Type} (_ : α):Nat:=1
def muI {α β:Type} (f : β → α) (μ : α→Nat) (y : β):Nat:=μ (f y)+1
def Wn (P:Program) (t:TypeId):List Field:=match P.underlying t with|some (.struct fs)=>fs.toList|_=>[]
def ax2 (l:List Field):Nat:=match l with|f::_=>f.offset | []=>0
def tyH (l:List Field):TypeId:=match l with|f::_=>f.type | []=>0
def au6 (l:List Field):Bool:=match l with|_::_=>true | []=>false
def aAm (l:List Field):Bool:=match l with | [_]=>true|_=>false
theorem Rf {P:Program} {l:List Field} {off:Nat} {t:TypeId} {α:Type} {C:c9 α} {μ : α→Nat} (hl:aAm l=true) (ho:ax2 l=off) (ht:tyH l=t) (hs:P.cellsOf t=C.sz) (h:Rd P t C μ):Yg P l off C μ:=by
 match l,hl with
 | [f],_=>subst ht;exact fun {H}=>avh ho hs h
theorem uw {P:Program} {l:List Field} {off:Nat} {t:TypeId} {α β:Type} {A:c9 α} {B:c9 β} {μ : α→Nat} {ν : β→Nat} (hl:au6 l=true) (ho:ax2 l=off) (ht:tyH l=t) (hs:P.cellsOf t=A.sz) (h:Rd P t A μ) (hr:Yg P l.tail (off+A.sz) B ν):Yg P l off (m9 A B) (muP μ ν):=by
 match l,hl with
 |f::fs,_=>subst ht;exact fun {H}=>aso ho hs h hr
theorem J6 {P:Program} {t:TypeId} {α β:Type} {C:c9 α} {μ : α→Nat} {f : β → α} {i : α → β} {h1:∀ y,i (f y)=y} {h2:∀ x,f (i x)=x} (ht:au6 (Wn P t)=true) (hc:P.cellsOf t=C.sz) (h:Yg P (Wn P t) 0 C μ):Rd P t (Dd C f i h1 h2) (muI f μ):=by
 unfold Wn at ht h
 cases hu:P.underlying t with
 |none=>rw [hu] at ht;cases ht
 |some d=>
  rw [hu] at ht h
  cases d with
  |struct fs=>exact fun {H}=>axa (anm hu hc h)
  |_=>cases ht
theorem xc {P:Program} {t e:TypeId} {α:Type} {C:c9 α} {μ : α→Nat} (ht:P.underlying t=some (.slice e)) (hsz:P.cellsOf e=C.sz) (hpos : 0<C.sz) (he:Rd P e C μ):Rd P t (cd C) (Aa μ):=avr ht hsz hpos he
def O5 (s:ByteArray):Nat:=s.size+1
theorem rdS:Rd PP 9 ai O5:=axj (by kernel_rfl)
def tj:Name→Nat:=Aa O5
theorem ad9:Rd PP 23 az tj:=xc (e:=9) (by kernel_rfl) (by kernel_rfl) (by decide) rdS
theorem av9:Rd PP 22 az tj:=xc (e:=9) (by kernel_rfl) (by kernel_rfl) (by decide) rdS
theorem awf:Rd PP 40 (cd az) (Aa tj):=xc (e:=23) (by kernel_rfl) (by kernel_rfl) (by decide) ad9
theorem ax0:Rd PP 41 (cd db) (Aa Kn):=xc (e:=39) (by kernel_rfl) (by kernel_rfl) (by decide) (aqo (by kernel_rfl))
theorem aza:Rd PP 42 (cd bp) (Aa Kn):=xc (e:=5) (by kernel_rfl) (by kernel_rfl) (by decide) (azp (by kernel_rfl))
def I1 (d:bn):Nat:=Aa tj d.names+(Aa Kn d.nums+(tj d.texts+Aa Kn d.raw))+1
theorem axh:Rd PP 44 ak I1:=
 J6 (by kernel_rfl) (by kernel_rfl) (uw (by kernel_rfl) (by kernel_rfl) (by kernel_rfl) (by kernel_rfl) awf (uw (by kernel_rfl) (by kernel_rfl) (by kernel_rfl) (by kernel_rfl) ax0 (uw (by kernel_rfl) (by kernel_rfl) (by kernel_rfl) (by kernel_rfl) av9 (Rf (by kernel_rfl) (by kernel_rfl) (by kernel_rfl) (by kernel_rfl) aza))))
theorem aw1:Rd PP 56 (cd ak) (Aa I1):=xc (e:=44) (by kernel_rfl) (by kernel_rfl) (by decide) axh
theorem ayv:Rd PP 37 cz Kn:=ap0 (by kernel_rfl)
theorem aww:Rd PP 38 cz Kn:=ap0 (by kernel_rfl)
theorem azf:Rd PP 39 db Kn:=aqo (by kernel_rfl)
def Oe (s:aw):Nat:=tj s.owner+(1+(1+(1+Aa I1 s.data)))+1
theorem azx:Rd PP 58 aj Oe:=
 J6 (by kernel_rfl) (by kernel_rfl) (uw (by kernel_rfl) (by kernel_rfl) (by kernel_rfl) (by kernel_rfl) ad9 (uw (by kernel_rfl) (by kernel_rfl) (by kernel_rfl) (by kernel_rfl) ayv (uw (by kernel_rfl) (by kernel_rfl) (by kernel_rfl) (by kernel_rfl) aww (uw (by kernel_rfl) (by kernel_rfl) (by kernel_rfl) (by kernel_rfl) azf (Rf (by kernel_rfl) (by kernel_rfl) (by kernel_rfl) (by kernel_rfl) aw1)))))
theorem ayp:Rd PP 24 (cd aj) (Aa Oe):=xc (e:=58) (by kernel_rfl) (by kernel_rfl) (by decide) azx
def Vu (z:cw):Nat:=tj z.origin+Aa Oe z.an+1
theorem ayw:Rd PP 26 eg Vu:=
 J6 (by kernel_rfl) (by kernel_rfl) (uw (by kernel_rfl) (by kernel_rfl) (by kernel_rfl) (by kernel_rfl) ad9 (Rf (by kernel_rfl) (by kernel_rfl) (by kernel_rfl) (by kernel_rfl) ayp))
theorem Wj (n:Name):bt n=tj n:=by
 suffices h:∀ (n:Name) (k:Nat),n.foldl (fun k s=>k+(s.size+1)) k=k+tr O5 n by
  have:=h n 1;simp only [bt,tj,Aa];omega
 intro n
 induction n with
 |nil=>intro k;rfl
 |cons a n ih=>intro k;rw [List.foldl_cons,ih];simp only [tr,O5];omega
theorem Pc {α:Type} {f μ : α→Nat} {c:Nat} {l:List α} (h:∀ x,f x+1≤c * μ x):di f l≤c * tr μ l:=by
 induction l with
 |nil=>simp [di,tr]
 |cons a l ih=>
  have:=h a
  simp only [di,List.foldr_cons,tr,Nat.mul_add] at ih ⊢
  omega
theorem Xb {α:Type} (l:List α):tr Kn l=l.length:=by
 induction l with
 |nil=>rfl
 |cons a l ih=>simp only [tr,ih,Kn,List.length_cons];omega
theorem awy (d:bn):lf d+1≤3 * I1 d:=by
 have h1:=Pc (f:=bt) (μ:=tj) (c:=2) (l:=d.names) (fun n=>by rw [Wj];simp only [tj,Aa];omega)
 have h2:=Pc (f:=ByteArray.size) (μ:=O5) (c:=1) (l:=d.texts) (fun n=>by unfold O5;omega)
 have h3:=Xb d.nums
 have h4:=Xb d.raw
 simp only [lf,I1,tj,Aa] at *
 omega
theorem axy (s:aw):lh s+1≤4 * Oe s:=by
 have h1:=Pc (f:=lf) (μ:=I1) (c:=3) (l:=s.data) awy
 have h2:=Wj s.owner
 simp only [lh,Oe,tj,Aa] at *
 omega
theorem av2 (z:cw):N5 z≤4 * Vu z:=by
 have h1:=Pc (f:=lh) (μ:=Oe) (c:=4) (l:=z.an) axy
 have h2:=Wj z.origin
 simp only [N5,Vu,tj,Aa] at *
 omega
theorem axx {P:Program} {t:TypeId} (ht:P.underlying t=some (.int .i64)):Rd P t (bc .i64) (fun _=>1):=by
 intro H enc W b0 fuel cs x h
 obtain ⟨n,rfl,rfl,hw⟩:=DataW.trod_int ht h
 exact ⟨n,bo.one (.sc _),by simp [mq]⟩
theorem axe:Rd PP 27 (cd (bc .i64)) (Aa Kn):=xc (e:=3) (by kernel_rfl) (by kernel_rfl) (by decide) (axx (by kernel_rfl))
abbrev aja:c9 (List Int):=cd (bc .i64)
abbrev aq6:List Int→Nat:=Aa Kn
theorem atz (l:List Int):aq6 l=l.length+1:=by show tr Kn l+1=_;rw [Xb]
end
end Go.Proofs.YtifjogffkafalaaGreat
end
section
namespace Go.Proofs.YtifjogffkafalaaGreat
open Go.Vm
set_option maxRecDepth 2000000
namespace aw16
noncomputable def base:ij:=y9 [(103,true,xw),(87,true,j5)]
theorem aq4:yw PP base∧kz base:=
 Pp (fun args=>Xw (fn:=(PP.funcs[103]?).getD default) (by kernel_rfl) (by kernel_rfl) (by kernel_rfl) (by kernel_rfl) (by kernel_rfl) args) (fun args=>ad4 args) (Pp (fun args=>Bd (fn:=(PP.funcs[87]?).getD default) (by kernel_rfl) (by kernel_rfl) (by kernel_rfl) (by kernel_rfl) (by kernel_rfl) args) (fun args=>U9 args) (am5))
noncomputable def look:ij:=S6 PP base 100000 60
theorem axc:yw PP look:=(as7 aq4.1 aq4.2 mixed 100000 60).1
noncomputable def alb (r:Option (AV × St)):Bool:=match r with|some p=>(match p.1 with|.sc v=>(match v with|.bool b=>b|_=>false)|_=>false)|none=>false
noncomputable def au9 (f:Nat):Option (AV × St):=match look f with|some p=>p.2 [] (bb [])|none=>none
theorem runs:alb (au9 4)=true:=by kernel_rfl
theorem am3 {r:Option (AV × St)} (h:alb r=true):∃ st,r=some (.sc (.bool true),st):=by
 unfold alb at h
 split at h
 ·rename_i p
  obtain ⟨a,st⟩:=p
  dsimp only at h
  split at h
  ·split at h
   ·subst h;exact ⟨st,rfl⟩
   ·cases h
  ·cases h
 ·cases h
end aw16
theorem aer:bu PP 4 [] (.sc (.bool true)):=by
 obtain ⟨st,h⟩:=aw16.am3 aw16.runs
 unfold aw16.au9 at h
 cases hp:aw16.look 4 with
 |none=>rw [hp] at h;cases h
 |some p=>
  rw [hp] at h
  exact U6 aw16.axc hp (by kernel_rfl) (r1 bw) true true h rfl
end Go.Proofs.YtifjogffkafalaaGreat
end
section
namespace Go.Proofs.YtifjogffkafalaaGreat
open Go.Vm Go.ChangeShapes Go.WideShapes Go.ChangeAt
mutual
theorem Uv {H:Type}:∀ d:DataW H,Rows.uptoBulk d=mq d
 |.lit l=>by cases l<;>simp only [Rows.uptoBulk,mq]
 |.nil=>by simp only [Rows.uptoBulk,mq]
 |.ptr d=>by simp only [Rows.uptoBulk,mq,Uv d]
 |.slice a b=>by simp only [Rows.uptoBulk,mq,N9 a,N9 b]
 |.agg a=>by simp only [Rows.uptoBulk,mq,N9 a]
 |.iface _ d=>by simp only [Rows.uptoBulk,mq,Uv d]
 |.map e=>by simp only [Rows.uptoBulk,mq,aql e]
 |.held _=>by simp only [Rows.uptoBulk,mq]
theorem N9 {H:Type}:∀ l:List (DataW H),Rows.uptoBulkAll l=oq l
 | []=>by simp only [Rows.uptoBulkAll,oq]
 |d::r=>by simp only [Rows.uptoBulkAll,oq,Uv d,N9 r]
theorem aql {H:Type}:∀ l:List (Lit × DataW H),Rows.uptoBulkEntries l=V7 l
 | []=>by simp only [Rows.uptoBulkEntries,V7]
 |x::r=>by simp only [Rows.uptoBulkEntries,V7,ayk x,aql r]
theorem ayk {H:Type}:∀ x:Lit × DataW H,Rows.uptoBulkEntry x=alj x
 |(l,d)=>by cases l<;>simp only [Rows.uptoBulkEntry,alj,Uv d]
end
theorem aru {H:Type} {l:List (DataW H)} (h:Rows.uptoSmall H l=true):oq l≤1048576:=by
 have:=of_decide_eq_true h
 rwa [N9] at this
theorem aku {H:Type} {enc:TypeId × Value→H} {C:Checked} {os:Os} {f:FuncId} {fn:Func} {s:OpenSpec} {k:(H:Type)→List (DataW H)→Bool} (hk:s.cond=some k) {conds:List PathCond} {apart:Bool} (modest:Bool) (i:Input) (fuel:Nat)
 (hv:(World.plainHolding C.prog os i).variablesB C.prog=true)
 (hr:((World.plainHolding C.prog os i).heap.toList.drop C.prog.globals.size).take ((begin C.prog (fun _ _=>0) default).world.heap.size - C.prog.globals.size) =
  (begin C.prog (fun _ _=>0) default).world.heap.toList.drop C.prog.globals.size)
 (hok:Input.okWideB C.prog (World.plainHolding C.prog os i) f ⟨#[],i.args,[]⟩=true)
 (hx:(match DataW.whole enc C.prog (World.plainHolding C.prog os i).memory fn.params.toList s.vars apart i.args.toList fuel with
  |some x=>conds.all (PathCond.test C.prog ⟨fn.params.toList,x.1,s.bare.plain.varTypes C.prog,x.2.1⟩) && k H (x.1++x.2.1)
  |none=>false)=true)
 (hsz:s.bare.sizedB enc C.prog fn apart (World.plainHolding C.prog os i).memory i.args fuel=true) :
 ∃ (w:World) (tape:Tape) (i:Input),w.os=os∧(w.forCall tape i).Shaped C.prog∧i.vars=[]∧Input.okWide C.prog (w.forCall tape i) .any w.heap.size f i ∧
  s.pre6 enc C.prog fn conds apart (w.forCall tape i).memory i.args∧({ modest:=modest }:Assume).holds C.prog (lone (Frame.enter C.prog f i.args .normal) [] (w.forCall tape i)):=by
 cases hd:DataW.whole enc C.prog (World.plainHolding C.prog os i).memory fn.params.toList s.vars apart i.args.toList fuel with
 |none=>rw [hd] at hx;cases hx
 |some x=>
  rw [hd] at hx
  simp only [Bool.and_eq_true] at hx
  exact OpenSpec.witness hk modest i fuel hv hr hok hd hx.1 hx.2 hsz
end Go.Proofs.YtifjogffkafalaaGreat
end
section
set_option maxRecDepth 2000000
namespace Go.Proofs.YtifjogffkafalaaGreat.zoneBack
open Go.Vm Go.ChangeShapes Go.WideShapes Go.ChangeAt
theorem ay6:aq PP [aju,axs,Ux,aul,ano,Zz]:=(aq.cons (ar (fun x r h=>by cases h;exact aer)) (aq.cons (ar aoq) (aq.cons (ar Hu) (aq.cons (ar al5) (aq.cons (ar ah0) (aq.cons (ar W0) (aq.nil PP)))))))
theorem asd (x:cw × List Int × Unit) (h:(Vu x.1+(aq6 x.2.1+0))≤1048576):bu PP 3 ((aC eg (aC aja a0)).E x) (.sc (.bool true)):=
 bk ay6 Tryz.func3 (by kernel_rfl) (by kernel_rfl) (by kernel_rfl) (Nat.le_of_ble_eq_true (by kernel_rfl)) (r1 bw) true true (anp x.1 x.2.1 (by have h1:=av2 x.1;omega) (by have h2:=atz x.2.1;omega))
theorem own:ownKnob PP.godebug=none:=by kernel_rfl
theorem awq:PP.underlying 4=some .bool:=by kernel_rfl
theorem lifted (os:Os) (started:os.Started) (H:Type) (enc:TypeId × Value→H) (F:Stop.Interp) :
 ReturnsInHanded {} Tryz.checked os 3 .any ((Rows.OpenSpec.upto Rows.zoneBackSpec).pre6 enc Tryz.prog Tryz.f3 Rows.zoneBackUptoRow.domain false) (((Rows.OpenSpec.upto Rows.zoneBackSpec).at F).post enc Tryz.prog Tryz.f3 false true false false):=by
 refine returnsInHanded_of_cond (C:=Tryz.checked) (k:=Rows.uptoSmall) rfl own started (by kernel_rfl) Tryz.func3
  (aku (enc:=enc) (C:=Tryz.checked) rfl false ⟨#[],Tryz.f3.params.map fun t=>((PP.info? t).bind (·.zero)).getD undef,[]⟩ 8 (by kernel_rfl) (by kernel_rfl) (by kernel_rfl) (by kernel_rfl) (by kernel_rfl)) ?_
 intro W base args ds gs before hval hW _ hk _
 exact ar8 (by kernel_rfl) (by kernel_rfl) (aa6 (by kernel_rfl)) (tb:=4) (by kernel_rfl) rfl (by kernel_rfl) awq (ak8 (by kernel_rfl))
  (fun H ds hl=>by match ds,(show ds.length=2 from hl) with | [_,_],_=>rfl) (A:=(aC eg (aC aja a0))) (aeq (by kernel_rfl) ayw (aeq (by kernel_rfl) axe (avg PP))) (N:=some 1048576) (fun x hx=>asd x (hx _ rfl)) enc W base args ds gs before hval hW (fun n hn=>by cases hn;exact aru hk)
theorem over:Rows.zoneBackUptoRow.holds Tryz.pinned (Rows.OpenSpec.upto Rows.zoneBackSpec):=
 OpenClaim.holds_of_cond 3 Tryz.f3 rfl rfl rfl rfl rfl rfl rfl ⟨rfl,rfl,rfl,rfl,rfl⟩ rfl rfl rfl rfl rfl (by kernel_rfl) Tryz.func3 (by kernel_rfl)
  (of_decide_eq_true (by kernel_rfl)) (by unfold Func.isWrapper;first|(rw [if_pos (by decide +kernel)];kernel_rfl)|(rw [if_neg (by decide +kernel)];exact ⟨rfl,rfl⟩))
  (fun os started H enc _ F=>lifted os started H enc F)
theorem proved : Rows.ZoneBackUptoSaid := over
end Go.Proofs.YtifjogffkafalaaGreat.zoneBack
end
