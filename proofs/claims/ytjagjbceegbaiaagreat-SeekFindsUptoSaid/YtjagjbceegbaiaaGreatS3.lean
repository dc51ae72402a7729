/- A piece of the proof. Proved: where the arguments are together of bulk at most 1048576, the law SeekFinds returns true (where a name is in a zone), and what it was given reads afterwards as it did before. No other conditions. -/
import Derived.WalkKit
import Derived.CallsIn
import Derived.RangeFuncIn
import Derived.RangeFuncLeaves
import Derived.Orders
import Derived.OrdersIn
import Derived.Scope
import Derived.RangeFuncOwn
import Derived.Stop.SameAnswer
import Derived.Laws.Externs
import Derived.Lib.Bytealg
import Derived.ProofKit
import Derived.OpenShut
import Derived.ReadAgain
import Derived.Deep.Slices
import Derived.ChangeSame
import Derived.Test.YtjagjbceegbaiaaGreatProg
import Derived.KernelRfl
import Derived.Test.YtjagjbceegbaiaaGreatRows
import Derived.Maps.RangeRun
import Derived.Deep.RegionHeld3
import Derived.JoinedCond
import Derived.Test.YtjagjbceegbaiaaGreatS2
set_option linter.unusedSimpArgs false
set_option linter.unusedVariables false
set_option linter.unusedSectionVars false
section
namespace Go.Proofs.YtjagjbceegbaiaaGreat
open Go.Vm
noncomputable abbrev PP:=Tryz.prog
theorem mixed:PP.follows .mixedOrders=true:=by kernel_rfl
theorem ar {T:dv} (hT:an PP T) {f:Nat} {fn:Func} (hf:PP.funcs[f]? = some fn) (hb:fn.body.isSome=true) (he:l8 PP f=true) (hs:dt fn.ntmps (fn.body.getD .skip)=true)
 {args:List AV} (hl:args.length≤fn.ntmps) {ρ:Type} (R:RC ρ) (fr:Bool) (x : ρ)
 (h:wl PP T 0 (fn.body.getD .skip) (ct PP fn.results.toList (fun r st=>R.get fr st.h r=some x)) (bp 0 args) (bf [])):bb PP f args (R.E fr x):=
 U6 (body:=fn.body.getD .skip) hT mixed hf (by cases hq:fn.body with|none=>rw [hq] at hb;cases hb|some b=>rfl) he hs hl R fr x h
def ij (s:ByteArray):Int:=if s.size<1∨63<s.size then 4 else 0
theorem Zi (s:ByteArray):wl PP [] 0 (Tryz.f128.body.getD .skip) (ct PP Tryz.f128.results.toList (fun r st=>(r1 (au .i64)).get true st.h r=some (ij s))) (bp 0 [ag.val false s]) (bf []):=by
 unfold Tryz.f128
 simp only [↓wR,RA,simprocAttr,TF]
 rw [ca]
 refine ⟨fun h=>?_,fun h=>?_⟩
 ·have h1:s.size<1:=by simp at h;omega
  simp only [↓wR,RA,simprocAttr,TF,ij,h,h1,true_or]
 ·have h1:¬ s.size<1:=by simp at h;omega
  simp only [↓wR,RA,simprocAttr,TF,h]
  rw [ca]
  refine ⟨fun h=>?_,fun h=>?_⟩
  ·have h2 : 63<s.size:=by simp at h;omega
   simp only [↓wR,RA,simprocAttr,TF,ij,h2,or_true]
  ·have h2:¬ 63<s.size:=by simp at h;omega
   simp only [↓wR,RA,simprocAttr,TF,ij,h1,h2,or_self]
noncomputable def Gt (x:ByteArray × Unit):Option AV:=some ((r1 (au .i64)).E true (ij x.1))
set_option maxRecDepth 2000000 in
theorem Q5 (x:ByteArray × Unit) (r:AV) (h:Gt x=some r):bb PP 128 ((aC ag a0).E x) r:=by
 cases h
 exact ar (an.nil PP) Tryz.func128 (by kernel_rfl) (by kernel_rfl) (by kernel_rfl) (Nat.le_of_ble_eq_true (by kernel_rfl)) (r1 (au .i64)) true (ij x.1) (Zi x.1)
noncomputable abbrev aj2:Nat × Bool × (List AV→M AV):=(128,true,cg (aC ag a0) Gt)
def bq (n:Name):Nat:=n.foldl (fun k s=>k+(s.size+1)) 1
theorem Za (l:Name) (c:ByteArray):bq (l++[c])=bq l+(c.size+1):=by simp [bq]
theorem C4 (n:Name) (i:Nat) (c:ByteArray) (h:n[i]? = some c):bq (n.take (i+1))=bq (n.take i)+(c.size+1):=by
 obtain ⟨hk,rfl⟩:=List.getElem?_eq_some_iff.1 h
 rw [List.take_succ_eq_append_getElem hk,Za]
theorem Cy (l:Name):∀ k,l.foldl (fun k s=>k+(s.size+1)) k=k+l.foldl (fun k s=>k+(s.size+1)) 0:=by
 induction l with
 |nil=>intro k;simp
 |cons a l ih=>intro k;simp only [List.foldl_cons];rw [ih,ih (0+_)];omega
theorem lj (a b:Name):bq (a++b)+1=bq a+bq b:=by
 simp only [bq,List.foldl_append]
 rw [Cy b,Cy b 1];omega
theorem iq (n:Name) (i:Nat):bq (n.take i)≤bq n∧n.length<bq n:=by
 constructor
 ·have:=lj (n.take i) (n.drop i)
  rw [List.take_append_drop] at this
  have h1 : 1≤bq (n.drop i):=by simp only [bq];rw [Cy];omega
  omega
 ·induction n with
  |nil=>simp [bq]
  |cons a l ih=>
   have:=lj [a] l
   simp only [List.singleton_append] at this
   have h1:bq [a]=a.size+2:=by simp [bq];omega
   simp only [List.length_cons]
   omega
theorem wrap_i64 (x:Int) (h0 : -9223372036854775808≤x) (h1:x<9223372036854775808):IntKind.i64.wrap x=x:=by
 simp [IntKind.wrap,IntKind.bits,IntKind.signed];omega
theorem ag1 (n:Name) (hn:bq n<17592186044416):wl PP [] 0 (Tryz.f129.body.getD .skip) (ct PP Tryz.f129.results.toList (fun r st=>(r1 (au .i64)).get true st.h r=some (bq n:Int))) (bp 0 [ai.val false n]) (bf []):=by
 unfold Tryz.f129
 rw [bn]
 simp only [↓wR,RA,simprocAttr,TF]
 refine dg [3,6,7,8] (fun (x:Nat)=>[.sc (.int .i64 (bq (n.take x))),.vl false 1 (n.map (ag.val false)),.sc (.int .i64 n.length),.sc (.int .i64 x)]) (fun _=>[]) (fun x=>x≤n.length) (fun x=>n.length - x) 0 (Nat.zero_le _) ?_ ?_ ?_
 ·simp only [↓wR,RA,simprocAttr,TF]<;>rfl
 ·simp only [↓wR,RA,simprocAttr,TF]
 ·intro i hi
  have h1:=iq n i
  simp only [↓wR,RA,simprocAttr,TF]
  rw [ca]
  refine ⟨fun h=>?_,fun h=>?_⟩
  ·have h4:i<n.length:=by simp at h;omega
   obtain ⟨c,hc⟩:∃ c,n[i]? = some c:=⟨n[i],by simp [h4]⟩
   have h2:=C4 n i c hc
   have h3:=(iq n (i+1)).1
   simp only [↓wR,RA,simprocAttr,TF,hc]
   refine ⟨i+1,by omega,by omega,?_⟩
   rw [h2]
   simp only [List.cons.injEq,and_true,true_and,AV.sc.injEq,Value.int.injEq]
   refine ⟨?_,?_⟩
   ·rw [wrap_i64 ((c.size:Int)+1) (by omega) (by omega),wrap_i64 _ (by omega) (by omega)];omega
   ·rw [wrap_i64 _ (by omega) (by omega)];omega
  ·have h4:i=n.length:=by simp at h;omega
   subst h4
   simp only [↓wR,RA,simprocAttr,TF,List.take_length]
noncomputable def zz (x:Name × Unit):Option AV:=if bq x.1<17592186044416 then some ((r1 (au .i64)).E true ((bq x.1:Int))) else none
set_option maxRecDepth 2000000 in
theorem Wk (x:Name × Unit) (r:AV) (h:zz x=some r):bb PP 129 ((aC ai a0).E x) r:=by
 by_cases hc:bq x.1<17592186044416
 case neg=>simp only [zz,if_neg hc] at h;cases h
 simp only [zz,if_pos hc] at h
 cases h
 exact ar (an.nil PP) Tryz.func129 (by kernel_rfl) (by kernel_rfl) (by kernel_rfl) (Nat.le_of_ble_eq_true (by kernel_rfl)) (r1 (au .i64)) true ((bq x.1:Int)) (ag1 x.1 hc)
noncomputable abbrev an3:Nat × Bool × (List AV→M AV):=(129,true,cg (aC ai a0) zz)
def ql (n:Name):Bool:=n.any fun s=>decide (ij s≠0)
def da (n:Name):Int:=if ql n then 4 else if 255<bq n then 5 else 0
theorem Mf (n:Name) (i:Nat) (c:ByteArray) (h:n[i]? = some c):ql (n.take (i+1))=(ql (n.take i) || decide (ij c≠0)):=by
 obtain ⟨hk,rfl⟩:=List.getElem?_eq_some_iff.1 h
 rw [List.take_succ_eq_append_getElem hk]
 simp only [ql,List.any_append,List.any_cons,List.any_nil,Bool.or_false]
theorem K0 (n:Name) (i:Nat) (c:ByteArray) (h:n[i]? = some c) (hc:ij c≠0):ql n=true:=by
 simp only [ql,List.any_eq_true]
 exact ⟨c,List.mem_of_getElem? h,by simp [hc]⟩
theorem acd (s:ByteArray):ij s=0∨ij s=4:=by unfold ij;split<;>simp
theorem afb (n:Name) (hn:bq n<17592186044416):wl PP [aj2,an3] 0 (Tryz.f76.body.getD .skip) (ct PP Tryz.f76.results.toList (fun r st=>(r1 (au .i64)).get true st.h r=some (da n))) (bp 0 [ai.val false n]) (bf []):=by
 unfold Tryz.f76
 rw [bn]
 simp only [↓wR,RA,simprocAttr,TF]
 refine dg [0,6,7,8] (fun (x:Nat)=>[.vl false 1 (n.map (ag.val false)),.vl false 1 (n.map (ag.val false)),.sc (.int .i64 n.length),.sc (.int .i64 x)]) (fun _=>[]) (fun x=>x≤n.length∧ql (n.take x)=false) (fun x=>n.length - x) 0 ⟨Nat.zero_le _,by simp [ql]⟩ ?_ ?_ ?_
 ·simp only [↓wR,RA,simprocAttr,TF]<;>rfl
 ·simp only [↓wR,RA,simprocAttr,TF]
 ·rintro i ⟨hi,hb⟩
  have h1:=iq n i
  simp only [↓wR,RA,simprocAttr,TF]
  rw [ca]
  refine ⟨fun h=>?_,fun h=>?_⟩
  ·have h4:i<n.length:=by simp at h;omega
   obtain ⟨c,hc⟩:∃ c,n[i]? = some c:=⟨n[i],by simp [h4]⟩
   simp only [↓wR,RA,simprocAttr,TF,hc,Gt]
   rw [ca]
   refine ⟨fun h=>?_,fun h=>?_⟩
   ·have h5:ij c≠0:=by simpa using h
    have h6:ij c=4:=(acd c).resolve_left h5
    simp only [↓wR,RA,simprocAttr,TF,da,K0 n i c hc h5,h6]
   ·have h5:ij c=0:=by simpa using h
    simp only [↓wR,RA,simprocAttr,TF]
    refine ⟨i+1,⟨by omega,by rw [Mf n i c hc,hb];simp [h5]⟩,by omega,?_⟩
    simp only [List.cons.injEq,and_true,true_and,AV.sc.injEq,Value.int.injEq]
    rw [wrap_i64 _ (by omega) (by omega)];omega
  ·have h4:i=n.length:=by simp at h;omega
   subst h4
   rw [List.take_length] at hb
   simp only [↓wR,RA,simprocAttr,TF,zz,hn]
   rw [ca]
   refine ⟨fun h=>?_,fun h=>?_⟩
   ·have h5 : 255<bq n:=by simp at h;omega
    simp only [↓wR,RA,simprocAttr,TF,da,hb,h5]
   ·have h5:¬ 255<bq n:=by simp at h;omega
    simp only [↓wR,RA,simprocAttr,TF,da,hb,h5]
noncomputable def o0 (x:Name × Unit):Option AV:=if bq x.1<17592186044416 then some ((r1 (au .i64)).E true (da x.1)) else none
set_option maxRecDepth 2000000 in
theorem pj (x:Name × Unit) (r:AV) (h:o0 x=some r):bb PP 76 ((aC ai a0).E x) r:=by
 by_cases hc:bq x.1<17592186044416
 case neg=>simp only [o0,if_neg hc] at h;cases h
 simp only [o0,if_pos hc] at h
 cases h
 exact ar (an.cons (ak Q5) (an.cons (ak Wk) (an.nil PP))) Tryz.func76 (by kernel_rfl) (by kernel_rfl) (by kernel_rfl) (Nat.le_of_ble_eq_true (by kernel_rfl)) (r1 (au .i64)) true (da x.1) (afb x.1 hc)
noncomputable abbrev eu:Nat × Bool × (List AV→M AV):=(76,true,cg (aC ai a0) o0)
def low (c:UInt8):UInt8:=if 65≤c∧c≤90 then c+32 else c
def fold (s:ByteArray):ByteArray:=⟨(s.data.toList.map low).toArray⟩
def m9 (l:List UInt8) (i:Nat):List UInt8:=(l.take i).map low++l.drop i
theorem anf (l:List UInt8) (i:Nat):(m9 l i).length=l.length:=by simp [m9];omega
theorem Wt (l:List UInt8) (i:Nat) (h:i<l.length):(m9 l i)[i]? = l[i]? := by
 simp [m9,List.getElem?_append,Nat.min_eq_left (Nat.le_of_lt h)]
theorem Xx (l:List UInt8) (i:Nat) (h:i<l.length):(m9 l i).take i++[low l[i]]++(m9 l i).drop (i+1)=m9 l (i+1):=by
 have h1:((l.take i).map low).length=i:=by simp;omega
 have h2:(m9 l i).take i=(l.take i).map low:=by rw [m9,List.take_append_of_le_length (by omega),List.take_of_length_le (by omega)]
 have h3:(m9 l i).drop (i+1)=l.drop (i+1):=by
  rw [m9,List.drop_append,List.drop_eq_nil_of_le (by omega),h1]
  simp
 rw [h2,h3,m9,List.take_succ_eq_append_getElem h,List.map_append]
 rfl
theorem Ui (l:List UInt8) (i:Nat) (h:i<l.length) (hk:low l[i]=l[i]):m9 l i=m9 l (i+1):=by
 rw [← Xx l i h,hk]
 have:(m9 l i)[i]? = some l[i]:=by rw [Wt l i h];simp [h]
 obtain ⟨hlt,e⟩:=List.getElem?_eq_some_iff.1 this
 rw [← e,← List.take_succ_eq_append_getElem hlt,List.take_append_drop]
set_option maxRecDepth 20000 in
theorem aao (s:ByteArray) (hs:s.size≤16777216):wl PP [] 0 (Tryz.f191.body.getD .skip) (ct PP Tryz.f191.results.toList (fun r st=>(r1 ag).get true st.h r=some (fold s))) (bp 0 [ag.val false s]) (bf []):=by
 unfold Tryz.f191
 have hl:s.data.toList.length=s.size:=by simp
 simp only [↓wR,RA,simprocAttr,TF,hs]
 refine dg [3,8,9,10] (fun (x:Nat)=>[.sl 0 0 s.size 1,.sl 0 0 s.size 1,.sc (.int .i64 s.size),.sc (.int .i64 x)]) (fun x=>[some (.row ((m9 s.data.toList x).map (bk.val false)) 0 1 5)]) (fun x=>x≤s.size) (fun x=>s.size - x) 0 (Nat.zero_le _) ?_ ?_ ?_
 ·simp only [↓wR,RA,simprocAttr,TF]<;>rfl
 ·simp only [↓wR,RA,simprocAttr,TF]<;>rfl
 ·intro i hi
  simp only [↓wR,RA,simprocAttr,TF]
  rw [ca]
  refine ⟨fun h=>?_,fun h=>?_⟩
  ·have h4:i<s.size:=by simp at h;omega
   have h6:i<s.data.toList.length:=by omega
   have h5:(m9 s.data.toList i)[i]? = some s.data.toList[i]:=by rw [Wt s.data.toList i h6];simp [h6]
   obtain ⟨c,hc⟩:∃ c,s.data.toList[i]=c:=⟨_,rfl⟩
   have hcl:=c.toNat_lt
   rw [hc] at h5
   simp only [↓wR,RA,simprocAttr,TF,h4,h5]
   rw [ca]
   refine ⟨fun h1=>?_,fun h1=>?_⟩
   ·simp only [↓wR,RA,simprocAttr,TF,h1]
    rw [ca]
    refine ⟨fun h2=>?_,fun h2=>?_⟩
    ·have h7:i+1≤s.size:=by omega
     have hlow:low c=c+32:=by
      simp at h1 h2
      have a1 : 65≤c:=by rw [UInt8.le_iff_toNat_le];simp;omega
      have a2:c≤90:=by rw [UInt8.le_iff_toNat_le];simp;omega
      simp [low,a1,a2]
     have hw:IntKind.u8.wrap (IntKind.u8.wrap ((c.toNat:Int)+97) - 65)=((low c).toNat:Int):=by
      simp at h1 h2
      rw [hlow]
      simp [IntKind.wrap,IntKind.bits,IntKind.signed,UInt8.toNat_add]
      omega
     have hst:List.map (bk.val false) (List.take i (m9 s.data.toList i))++[AV.sc (Value.int IntKind.u8 ((low c).toNat:Int))]++List.map (bk.val false) (List.drop (i+1) (m9 s.data.toList i))=List.map (bk.val false) (m9 s.data.toList (i+1)):=by
      rw [← Xx s.data.toList i h6,hc,List.map_append,List.map_append];rfl
     simp only [↓wR,RA,simprocAttr,TF,h4,h7,anf,hl,hw,hst]
     refine ⟨i+1,h7,by omega,?_,rfl⟩
     rw [wrap_i64 _ (by omega) (by omega)];rfl
    ·simp only [↓wR,RA,simprocAttr,TF]
     have hk:low c=c:=by
      simp at h2
      have a2:¬ c≤90:=by rw [UInt8.le_iff_toNat_le];simp;omega
      simp [low,a2]
     refine ⟨i+1,by omega,by omega,?_,?_⟩
     ·rw [wrap_i64 _ (by omega) (by omega)];rfl
     ·rw [Ui s.data.toList i h6 (by rw [hc];exact hk)]
   ·simp only [↓wR,RA,simprocAttr,TF,h1]
    have hk:low c=c:=by
     simp at h1
     have a2:¬ 65≤c:=by rw [UInt8.le_iff_toNat_le];simp;omega
     simp [low,a2]
    refine ⟨i+1,by omega,by omega,?_,?_⟩
    ·rw [wrap_i64 _ (by omega) (by omega)];rfl
    ·rw [Ui s.data.toList i h6 (by rw [hc];exact hk)]
  ·have h4:i=s.size:=by simp at h;omega
   subst h4
   have:∃ m,List.map low s.data.toList=m:=⟨_,rfl⟩
   obtain ⟨m,hm⟩:=this
   have h5:m9 s.data.toList s.size=m:=by rw [m9,List.take_of_length_le (Nat.le_of_eq hl),List.drop_eq_nil_of_le (Nat.le_of_eq hl),List.append_nil,hm]
   have hlm:m.length=s.size:=by rw [← hm,List.length_map,hl]
   have h6:List.take s.size (List.map (bk.val false) m)=List.map (bk.val false) m:=List.take_of_length_le (by rw [List.length_map,hlm];exact Nat.le_refl _)
   have hf:fold s=⟨m.toArray⟩:=by rw [fold,hm]
   rw [h5,hf]
   simp only [↓wR,RA,simprocAttr,TF,hlm,h6]
noncomputable def tc (x:ByteArray × Unit):Option AV:=if x.1.size≤16777216 then some ((r1 ag).E true (fold x.1)) else none
set_option maxRecDepth 2000000 in
theorem As (x:ByteArray × Unit) (r:AV) (h:tc x=some r):bb PP 191 ((aC ag a0).E x) r:=by
 by_cases hc:x.1.size≤16777216
 case neg=>simp only [tc,if_neg hc] at h;cases h
 simp only [tc,if_pos hc] at h
 cases h
 exact ar (an.nil PP) Tryz.func191 (by kernel_rfl) (by kernel_rfl) (by kernel_rfl) (Nat.le_of_ble_eq_true (by kernel_rfl)) (r1 ag) true (fold x.1) (aao x.1 hc)
noncomputable abbrev Mo:Nat × Bool × (List AV→M AV):=(191,true,cg (aC ag a0) tc)
theorem ab4 (a b:ByteArray) (ha:a.size≤16777216) (hb:b.size≤16777216):wl PP [Mo] 0 (Tryz.f177.body.getD .skip) (ct PP Tryz.f177.results.toList (fun r st=>(r1 bd).get true st.h r=some (decide (fold a=fold b)))) (bp 0 [ag.val false a,ag.val false b]) (bf []):=by
 unfold Tryz.f177
 simp only [↓wR,RA,simprocAttr,TF,tc,ha,hb]
noncomputable def zr (x:ByteArray × ByteArray × Unit):Option AV:=if x.1.size≤16777216∧x.2.1.size≤16777216 then some ((r1 bd).E true (decide (fold x.1=fold x.2.1))) else none
set_option maxRecDepth 2000000 in
theorem Vp (x:ByteArray × ByteArray × Unit) (r:AV) (h:zr x=some r):bb PP 177 ((aC ag (aC ag a0)).E x) r:=by
 by_cases hc:x.1.size≤16777216∧x.2.1.size≤16777216
 case neg=>simp only [zr,if_neg hc] at h;cases h
 simp only [zr,if_pos hc] at h
 cases h
 exact ar (an.cons (ak As) (an.nil PP)) Tryz.func177 (by kernel_rfl) (by kernel_rfl) (by kernel_rfl) (Nat.le_of_ble_eq_true (by kernel_rfl)) (r1 bd) true (decide (fold x.1=fold x.2.1)) (ab4 x.1 x.2.1 hc.1 hc.2)
noncomputable abbrev am8:Nat × Bool × (List AV→M AV):=(177,true,cg (aC ag (aC ag a0)) zr)
end Go.Proofs.YtjagjbceegbaiaaGreat
end
section
namespace Go.Proofs.YtjagjbceegbaiaaGreat
open Go.Vm Go.RowKit
theorem axo {x:Value} (h:sv x = .str):∃ s,x = .string s:=by cases x<;>first|exact ⟨_,rfl⟩|cases h
theorem Md:Tryz.f17.ntmps=22:=rfl
set_option maxHeartbeats 1600000 in
set_option maxRecDepth 1000000 in
theorem Cz {S:Nat→Prop} {M:Nat} {v:Value} {w:World} (hM:M<9223372036854775807) (hv:qf S M w .str v) :
 Calls PP 17 #[v] w (fun e w'=>∃ r,e = .returned r∧u6 S 1 false w w'):=by
 rcases hv with ⟨a,rfl⟩|⟨b,off,n,cap,cs,e,rfl,h1,⟨h2,hcm⟩,h3,h4,h5,h6⟩
 ·go_enter Tryz.func17,Md
  cases a with
  |none=>
   go_wp2
   refine wp_loop_rounds 1 ?_
   rw [rounds_succ]
   go_wp2
   go_end0
   exact ⟨_,rfl,.refl _ _ _ _⟩
  |some a=>
   go_wp2
   refine wp_loop_rounds 1 ?_
   rw [rounds_succ]
   go_wp2
   go_end0
   exact ⟨_,rfl,.refl _ _ _ _⟩
 unfold maxLen at hcm
 go_enter Tryz.func17,Md
 go_wp2
 go_loopw [3] (fun i wr=>∃ k:Nat,k≤cap∧i = .int .i64 k∧Lp w b cs e off 1 k wr)
  (fun i _=>cap - (RowKit.intOf i).toNat)
 case atStart=>exact ⟨0,Nat.zero_le _,rfl,.start h3⟩
 case round=>
  obtain ⟨k,hk,rfl,hl⟩:=hrel
  by_cases hkc:k<cap
  ·have hlt:off+k<cs.size:=by omega
   obtain ⟨x,hx⟩:∃ x,cs[off+k]? = some x:=⟨_,Array.getElem?_eq_getElem hlt⟩
   obtain ⟨q1,q2⟩:=h6 k x hkc hx
   obtain ⟨s,rfl⟩:=axo q1
   have hs:=hl.cell hx
   have hfz:=hl.frozen (off+k)
   have hsM:s.size+1≤9223372036854775807:=by have:=q2 s rfl;omega
   go_wp2
   go_roundw
   case rel=>exact ⟨k+1,by omega,by simp,hl.step hx (by simp [sv]) rfl (fun s' e=>by cases e;exact ⟨s,rfl,by rw [ByteArray.size_append];exact Nat.le_refl _⟩)⟩
   case measure=>simp [RowKit.intOf];omega
  ·go_wp2
   go_end0
   exact ⟨_,rfl,hl.vz h3 h1⟩
end Go.Proofs.YtjagjbceegbaiaaGreat
end
section
namespace Go.Proofs.YtjagjbceegbaiaaGreat
open Go.Vm
def jz:List ByteArray→List ByteArray→Nat
 |a::r,b::q=>if fold a=fold b then jz r q+1 else 0
 |_,_=>0
theorem Pw (l:List ByteArray):jz l []=0:=by cases l<;>rfl
def common (a b:Name):Nat:=jz a.reverse b.reverse
theorem I0 {l:List ByteArray} {x:Nat} {c:ByteArray} (h:x<l.length) (hc:l[l.length - 1 - x]? = some c):l.reverse.drop x=c::l.reverse.drop (x+1):=by
 have h1:l.reverse[x]? = some c:=by rw [List.getElem?_reverse h];exact hc
 obtain ⟨h2,h3⟩:=List.getElem?_eq_some_iff.1 h1
 rw [← h3];exact List.drop_eq_getElem_cons h2
set_option maxRecDepth 20000 in
theorem Y3 (a b:Name) (ha:∀ s ∈ a,s.size≤16777216) (hb:∀ s ∈ b,s.size≤16777216) (hla:a.length<17592186044416) (hlb:b.length<17592186044416):wl PP [am8] 0 (Tryz.f130.body.getD .skip) (ct PP Tryz.f130.results.toList (fun r st=>(r1 (au .i64)).get true st.h r=some (common a b:Int))) (bp 0 [ai.val false a,ai.val false b]) (bf []):=by
 unfold Tryz.f130
 simp only [bn]
 simp only [↓wR,RA,simprocAttr,TF]
 refine cz (T:=[]) (an.nil PP) mixed Tryz.func176 rfl (by kernel_rfl) (by kernel_rfl) (by kernel_rfl) (by kernel_rfl) ?_;unfold Tryz.f176
 simp only [↓wR,RA,simprocAttr,TF]
 refine ⟨[2,3,4,5,10],?_⟩
 have hib:Br PP 201=some (Tryz.f201.ntmps,Tryz.f201.body.getD .skip):=by kernel_rfl
 simp only [↓wR,RA,simprocAttr,TF,hib]
 refine ⟨by kernel_rfl,fun l=>?_⟩
 unfold Tryz.f201
 simp only [↓wR,RA,simprocAttr,TF]
 refine Fl [0,1,3] (fun (x:Nat)=>[.sc (.func (.yield l) #[] #[]),.ptr 4 0,.sc (.int .i64 ((a.length:Int) - 1 - x))]) (fun x=>[some (.row [.vl false 1 (a.map (ag.val false))] 0 2 23),some (.row [.vl false 1 (b.map (ag.val false))] 0 2 23),some (.row [.sc (.int .i64 0)] 0 2 3),some (.row [.sc (.int .i64 x)] 0 2 3),some (.row [.vl false 1 (a.map (ag.val false))] 0 2 23)]) (fun x=>x≤a.length∧common a b=x+jz (a.reverse.drop x) (b.reverse.drop x)) (fun x=>a.length - x) 0 ⟨Nat.zero_le _,by simp [common]⟩ ?_ ?_ ?_
 ·simp only [↓wR,RA,simprocAttr,TF];simp;rw [wrap_i64 _ (by omega) (by omega)]
 ·simp only [↓wR,RA,simprocAttr,TF]<;>rfl
 rintro x ⟨hx,hR⟩
 simp only [↓wR,RA,simprocAttr,TF]
 rw [vq];refine ⟨fun h=>?_,fun h=>?_⟩
 ·have hx':x<a.length:=by simp at h;omega
  obtain ⟨c,hc⟩:∃ c,a[a.length - 1 - x]? = some c:=⟨_,List.getElem?_eq_getElem (by omega)⟩
  have e:((a.length:Int) - 1 - x).toNat=a.length - 1 - x:=by omega
  have e2:(0:Int)≤(a.length:Int) - 1 - x:=by omega
  simp only [↓wR,RA,simprocAttr,TF,e,hc,e2]
  refine z9 [0,1,3,12,16] ?_
  simp only [↓wR,RA,simprocAttr,TF,zf,nb,hc]
  simp (disch:=omega) only [ah,bw,bz,bu,bt]
  rw [ca];refine ⟨fun h1=>?_,fun h1=>?_⟩
  ·have hb0:b.length≤x:=by simp at h1;omega
   have hb1:b.reverse.drop x=[]:=List.drop_eq_nil_of_le (by simpa using hb0)
   rw [hb1,Pw] at hR
   simp only [↓wR,RA,simprocAttr,TF,h1]
   rw [hR,Nat.add_zero]
  ·have hb0:x<b.length:=by simp at h1;omega
   obtain ⟨d,hd⟩:∃ d,b[b.length - 1 - x]? = some d:=⟨_,List.getElem?_eq_getElem (by omega)⟩
   have e4:((b.length:Int) - ((a.length:Int) - ((a.length:Int) - 1 - x))).toNat=b.length - 1 - x:=by omega
   have e5:(0:Int)≤(b.length:Int) - ((a.length:Int) - ((a.length:Int) - 1 - x)):=by omega
   simp only [↓wR,RA,simprocAttr,TF,h1,hd,e4,e5,zr,ha c (List.mem_of_getElem? hc),hb d (List.mem_of_getElem? hd)]
   rw [I0 hx' hc,I0 hb0 hd,jz] at hR
   rw [ca];refine ⟨fun h2=>?_,fun h2=>?_⟩
   ·have h3:¬ fold c=fold d:=by simpa using h2
    rw [if_neg h3] at hR
    simp only [↓wR,RA,simprocAttr,TF,h2]
    rw [hR,Nat.add_zero]
   ·have h3:fold c=fold d:=by simpa using h2
    rw [if_pos h3] at hR
    simp only [↓wR,RA,simprocAttr,TF,h2]
    refine ⟨x+1,⟨by omega,by omega⟩,by omega,?_,?_⟩
    ·simp only [List.cons.injEq,and_true,true_and,AV.sc.injEq,Value.int.injEq]
     simp (disch:=omega) only [ah,bw,bz,bu,bt]
     omega
    ·simp (disch:=omega) only [ah,bw,bz,bu,bt]
     rfl
 ·have h4:x=a.length:=by simp at h;omega
  have h5:a.reverse.drop x=[]:=List.drop_eq_nil_of_le (by simp;omega)
  rw [h5,jz] at hR
  simp only [↓wR,RA,simprocAttr,TF,h]
  rw [hR,Nat.add_zero]
  all_goals simp
theorem af6 (args:List AV):De PP 218 args (Cx.kl args):=
 Cx.D4 (fn:=(PP.funcs[218]?).getD default) (by kernel_rfl) (by kernel_rfl) (by kernel_rfl) (by kernel_rfl) (by kernel_rfl) args
noncomputable abbrev an7:Nat × Bool × (List AV→M AV):=(218,true,Cx.kl)
theorem ant:an PP [an7]:=an.cons af6 (an.nil PP)
noncomputable def yn (a b:ByteArray):Int:=Lib.compareBytes a.data.toList b.data.toList
theorem N0 (a b:ByteArray):wl PP [] 0 (Tryz.f211.body.getD .skip) (ct PP Tryz.f211.results.toList (fun r st=>(r1 (au .i64)).get true st.h r=some (yn a b))) (bp 0 [ag.val false a,ag.val false b]) (bf []):=by
 unfold Tryz.f211
 simp only [↓wR,RA,simprocAttr,TF]
 refine cz (T:=[an7]) ant mixed Tryz.func215 rfl (by kernel_rfl) (by kernel_rfl) (by kernel_rfl) (by kernel_rfl) ?_;unfold Tryz.f215
 simp only [↓wR,RA,simprocAttr,TF,yn]
noncomputable def y6 (x:ByteArray × ByteArray × Unit):Option AV:=some ((r1 (au .i64)).E true (yn x.1 x.2.1))
set_option maxRecDepth 2000000 in
theorem J1 (x:ByteArray × ByteArray × Unit) (r:AV) (h:y6 x=some r):bb PP 211 ((aC ag (aC ag a0)).E x) r:=by
 cases h
 exact ar (an.nil PP) Tryz.func211 (by kernel_rfl) (by kernel_rfl) (by kernel_rfl) (Nat.le_of_ble_eq_true (by kernel_rfl)) (r1 (au .i64)) true (yn x.1 x.2.1) (N0 x.1 x.2.1)
noncomputable abbrev Ve:Nat × Bool × (List AV→M AV):=(211,true,cg (aC ag (aC ag a0)) y6)
theorem Tv (a b:ByteArray) (ha:a.size≤16777216) (hb:b.size≤16777216):wl PP [Mo,Ve] 0 (Tryz.f195.body.getD .skip) (ct PP Tryz.f195.results.toList (fun r st=>(r1 (au .i64)).get true st.h r=some (yn (fold a) (fold b)))) (bp 0 [ag.val false a,ag.val false b]) (bf []):=by
 unfold Tryz.f195
 simp only [↓wR,RA,simprocAttr,TF,tc,y6,ha,hb]
noncomputable def tr (x:ByteArray × ByteArray × Unit):Option AV:=if x.1.size≤16777216∧x.2.1.size≤16777216 then some ((r1 (au .i64)).E true (yn (fold x.1) (fold x.2.1))) else none
set_option maxRecDepth 2000000 in
theorem Nx (x:ByteArray × ByteArray × Unit) (r:AV) (h:tr x=some r):bb PP 195 ((aC ag (aC ag a0)).E x) r:=by
 by_cases hc:x.1.size≤16777216∧x.2.1.size≤16777216
 case neg=>simp only [tr,if_neg hc] at h;cases h
 simp only [tr,if_pos hc] at h
 cases h
 exact ar (an.cons (ak As) (an.cons (ak J1) (an.nil PP))) Tryz.func195 (by kernel_rfl) (by kernel_rfl) (by kernel_rfl) (Nat.le_of_ble_eq_true (by kernel_rfl)) (r1 (au .i64)) true (yn (fold x.1) (fold x.2.1)) (Tv x.1 x.2.1 hc.1 hc.2)
noncomputable abbrev aem:Nat × Bool × (List AV→M AV):=(195,true,cg (aC ag (aC ag a0)) tr)
def dz (n:Name):List ByteArray:=n.map fold
def aw (n:Name):Prop:=bq n≤16777216
instance (n:Name):Decidable (aw n):=inferInstanceAs (Decidable (_≤_))
theorem adq {n:Name} {s:ByteArray} (h:s ∈ n):s.size<bq n:=by
 obtain ⟨a,b,rfl⟩:=List.append_of_mem h
 have h1:=lj a ([s]++b)
 have h2:=lj [s] b
 have h3:bq [s]=s.size+2:=by simp [bq];omega
 have h4:∀ l:Name,1≤bq l:=fun l=>by have:=(iq l 0).2;omega
 have:=h4 a;have:=h4 b
 simp only [List.singleton_append] at h1 h2
 omega
theorem aw.label {n:Name} (h:aw n):∀ s ∈ n,s.size≤16777216:=fun s hs=>by have:=adq hs;unfold aw at h;omega
theorem aw.len {n:Name} (h:aw n):n.length<17592186044416:=by have:=(iq n 0).2;unfold aw at h;omega
theorem Is:∀ r q:List ByteArray,jz r q≤q.length
 | [],q=>by simp [jz]
 |a::r,[]=>by simp [jz]
 |a::r,b::q=>by
  have:=Is r q
  simp only [jz,List.length_cons]
  split<;>omega
theorem En:∀ r q:List ByteArray,jz r q≤r.length
 | [],q=>by simp [jz]
 |a::r,[]=>by simp [jz]
 |a::r,b::q=>by
  have:=En r q
  simp only [jz,List.length_cons]
  split<;>omega
theorem O1:∀ r q:List ByteArray,jz r q=q.length↔q.map fold <+: r.map fold
 | [],[]=>by simp [jz]
 |a::r,[]=>by simp [jz]
 | [],b::q=>by simp [jz]
 |a::r,b::q=>by
  have:=O1 r q
  simp only [jz,List.length_cons,List.map_cons,List.cons_prefix_cons]
  by_cases h:fold a=fold b
  ·rw [if_pos h]
   constructor
   ·intro h1;exact ⟨h.symm,this.1 (by omega)⟩
   ·intro h1;have:=this.2 h1.2;omega
  ·rw [if_neg h]
   constructor
   ·intro h1;omega
   ·intro h1;exact (h h1.1.symm).elim
theorem z0 (n top:Name):common n top=top.length↔dz top <:+ dz n:=by
 unfold common dz
 rw [← List.length_reverse,O1,List.map_reverse,List.map_reverse,List.reverse_prefix]
theorem Bt (a b:Name):(a.length=b.length∧common a b=a.length)↔dz a=dz b:=by
 constructor
 ·rintro ⟨h1,h2⟩
  rw [h1] at h2
  have:=(z0 a b).1 h2
  exact (this.eq_of_length (by simp [dz,h1])).symm
 ·intro h
  have hl:a.length=b.length:=by have:=congrArg List.length h;simpa [dz] using this
  refine ⟨hl,?_⟩
  rw [hl]
  exact (z0 a b).2 (by rw [h];exact List.suffix_refl _)
def eg (a b:Name):Bool:=decide (dz a=dz b)
def c7 (n top:Name):Bool:=decide (dz top <:+ dz n)
noncomputable def pg (x:Name × Name × Unit):Option AV:=if aw x.1∧aw x.2.1 then some ((r1 (au .i64)).E true ((common x.1 x.2.1:Int))) else none
set_option maxRecDepth 2000000 in
theorem yv (x:Name × Name × Unit) (r:AV) (h:pg x=some r):bb PP 130 ((aC ai (aC ai a0)).E x) r:=by
 by_cases hc:aw x.1∧aw x.2.1
 case neg=>simp only [pg,if_neg hc] at h;cases h
 simp only [pg,if_pos hc] at h
 cases h
 exact ar (an.cons (ak Vp) (an.nil PP)) Tryz.func130 (by kernel_rfl) (by kernel_rfl) (by kernel_rfl) (Nat.le_of_ble_eq_true (by kernel_rfl)) (r1 (au .i64)) true ((common x.1 x.2.1:Int)) (Y3 x.1 x.2.1 hc.1.label hc.2.label hc.1.len hc.2.len)
noncomputable abbrev H9:Nat × Bool × (List AV→M AV):=(130,true,cg (aC ai (aC ai a0)) pg)
theorem abo (n top:Name) (hn:aw n) (ht:aw top):wl PP [H9] 0 (Tryz.f77.body.getD .skip) (ct PP Tryz.f77.results.toList (fun r st=>(r1 bd).get true st.h r=some (c7 n top))) (bp 0 [ai.val false n,ai.val false top]) (bf []):=by
 unfold Tryz.f77
 simp only [bn]
 simp only [↓wR,RA,simprocAttr,TF,pg,hn,ht]
 congr 1
 unfold c7
 have:=z0 n top
 rw [Bool.eq_iff_iff];simp [← this];omega
noncomputable def nn (x:Name × Name × Unit):Option AV:=if aw x.1∧aw x.2.1 then some ((r1 bd).E true (c7 x.1 x.2.1)) else none
set_option maxRecDepth 2000000 in
theorem pn (x:Name × Name × Unit) (r:AV) (h:nn x=some r):bb PP 77 ((aC ai (aC ai a0)).E x) r:=by
 by_cases hc:aw x.1∧aw x.2.1
 case neg=>simp only [nn,if_neg hc] at h;cases h
 simp only [nn,if_pos hc] at h
 cases h
 exact ar (an.cons (ak yv) (an.nil PP)) Tryz.func77 (by kernel_rfl) (by kernel_rfl) (by kernel_rfl) (Nat.le_of_ble_eq_true (by kernel_rfl)) (r1 bd) true (c7 x.1 x.2.1) (abo x.1 x.2.1 hc.1 hc.2)
noncomputable abbrev yg:Nat × Bool × (List AV→M AV):=(77,true,cg (aC ai (aC ai a0)) nn)
theorem agd (n top:Name) (hn:aw n) (ht:aw top):wl PP [H9] 0 (Tryz.f80.body.getD .skip) (ct PP Tryz.f80.results.toList (fun r st=>(r1 bd).get true st.h r=some (eg n top))) (bp 0 [ai.val false n,ai.val false top]) (bf []):=by
 unfold Tryz.f80
 simp only [bn]
 simp only [↓wR,RA,simprocAttr,TF,pg,hn,ht]
 rw [ca];refine ⟨fun h=>?_,fun h=>?_⟩
 ·have hl:n.length=top.length:=by simp at h;omega
  simp only [↓wR,RA,simprocAttr,TF,h,pg,hn,ht]
  congr 1
  unfold eg
  have:=Bt n top
  rw [Bool.eq_iff_iff];simp [← this,hl];omega
 ·have hl:¬ n.length=top.length:=by simp at h;omega
  simp only [↓wR,RA,simprocAttr,TF,h]
  have:=Bt n top
  simp [eg,← this,hl]
noncomputable def lh (x:Name × Name × Unit):Option AV:=if aw x.1∧aw x.2.1 then some ((r1 bd).E true (eg x.1 x.2.1)) else none
set_option maxRecDepth 2000000 in
theorem om (x:Name × Name × Unit) (r:AV) (h:lh x=some r):bb PP 80 ((aC ai (aC ai a0)).E x) r:=by
 by_cases hc:aw x.1∧aw x.2.1
 case neg=>simp only [lh,if_neg hc] at h;cases h
 simp only [lh,if_pos hc] at h
 cases h
 exact ar (an.cons (ak yv) (an.nil PP)) Tryz.func80 (by kernel_rfl) (by kernel_rfl) (by kernel_rfl) (Nat.le_of_ble_eq_true (by kernel_rfl)) (r1 bd) true (eg x.1 x.2.1) (agd x.1 x.2.1 hc.1 hc.2)
noncomputable abbrev fi:Nat × Bool × (List AV→M AV):=(80,true,cg (aC ai (aC ai a0)) lh)
noncomputable def al7 (a b:Name) (k:Nat):Int:=
 match a[a.length - 1 - k]?,b[b.length - 1 - k]? with
 |some x,some y=>yn (fold x) (fold y)
 |_,_=>0
noncomputable def Ij (a b:Name):Int:=
 if common a b=a.length∧common a b=b.length then 0 else if common a b=a.length then -1 else if common a b=b.length then 1 else al7 a b (common a b)
theorem Vg (a b:Name) (ha:aw a) (hb:aw b):wl PP [H9,aem] 0 (Tryz.f166.body.getD .skip) (ct PP Tryz.f166.results.toList (fun r st=>(r1 (au .i64)).get true st.h r=some (Ij a b))) (bp 0 [ai.val false a,ai.val false b]) (bf []):=by
 unfold Tryz.f166
 simp only [bn]
 simp only [↓wR,RA,simprocAttr,TF,pg,ha,hb]
 have h1:=En a.reverse b.reverse
 have h2:=Is a.reverse b.reverse
 rw [List.length_reverse] at h1 h2
 change common a b≤a.length at h1
 change common a b≤b.length at h2
 obtain ⟨k,hk⟩:∃ k,common a b=k:=⟨_,rfl⟩
 rw [hk] at h1 h2
 unfold Ij
 rw [hk]
 rw [ca];refine ⟨fun h=>?_,fun h=>?_⟩
 ·simp only [↓wR,RA,simprocAttr,TF,h]
  have hka:k=a.length:=by simp at h;omega
  rw [ca];refine ⟨fun h3=>?_,fun h3=>?_⟩
  ·have hkb:k=b.length:=by simp at h3;omega
   simp only [↓wR,RA,simprocAttr,TF,h3]
   rw [if_pos ⟨hka,hkb⟩]
  ·have hkb:¬ k=b.length:=by simp at h3;omega
   simp only [↓wR,RA,simprocAttr,TF,h3,h]
   rw [if_neg (fun e=>hkb e.2),if_pos hka]
 ·simp only [↓wR,RA,simprocAttr,TF,h]
  have hka:¬ k=a.length:=by simp at h;omega
  rw [ca];refine ⟨fun h3=>?_,fun h3=>?_⟩
  ·have hkb:k=b.length:=by simp at h3;omega
   simp only [↓wR,RA,simprocAttr,TF,h3]
   rw [if_neg (fun e=>hka e.1),if_neg hka,if_pos hkb]
  ·have hkb:¬ k=b.length:=by simp at h3;omega
   rw [if_neg (fun e=>hka e.1),if_neg hka,if_neg hkb]
   obtain ⟨x,hx⟩:∃ x,a[a.length - 1 - k]? = some x:=⟨_,List.getElem?_eq_getElem (by omega)⟩
   obtain ⟨y,hy⟩:∃ y,b[b.length - 1 - k]? = some y:=⟨_,List.getElem?_eq_getElem (by omega)⟩
   simp only [↓wR,RA,simprocAttr,TF,h3]
   refine ⟨by kernel_rfl,.inl ?_⟩
   have la:=ha.len
   have lb:=hb.len
   simp (disch:=omega) only [ah,bw,bz,bu,bt]
   have e1:(((a.length:Int) - 1) - k).toNat=a.length - 1 - k:=by omega
   have e2:(0:Int)≤((a.length:Int) - 1) - k:=by omega
   have e3:(((b.length:Int) - 1) - k).toNat=b.length - 1 - k:=by omega
   have e4:(0:Int)≤((b.length:Int) - 1) - k:=by omega
   simp only [↓wR,RA,simprocAttr,TF,hx,e1,e2]
   simp (disch:=omega) only [ah,bw,bz,bu,bt]
   simp only [↓wR,RA,simprocAttr,TF,hy,e3,e4,tr,ha.label x (List.mem_of_getElem? hx),hb.label y (List.mem_of_getElem? hy)]
   exact ⟨by kernel_rfl,by simp [al7,hx,hy]⟩
noncomputable def u1 (x:Name × Name × Unit):Option AV:=if aw x.1∧aw x.2.1 then some ((r1 (au .i64)).E true (Ij x.1 x.2.1)) else none
set_option maxRecDepth 2000000 in
theorem Ql (x:Name × Name × Unit) (r:AV) (h:u1 x=some r):bb PP 166 ((aC ai (aC ai a0)).E x) r:=by
 by_cases hc:aw x.1∧aw x.2.1
 case neg=>simp only [u1,if_neg hc] at h;cases h
 simp only [u1,if_pos hc] at h
 cases h
 exact ar (an.cons (ak yv) (an.cons (ak Nx) (an.nil PP))) Tryz.func166 (by kernel_rfl) (by kernel_rfl) (by kernel_rfl) (Nat.le_of_ble_eq_true (by kernel_rfl)) (r1 (au .i64)) true (Ij x.1 x.2.1) (Vg x.1 x.2.1 hc.1 hc.2)
noncomputable abbrev agq:Nat × Bool × (List AV→M AV):=(166,true,cg (aC ai (aC ai a0)) u1)
theorem aw.lt {n:Name} (h:aw n):n.length<16777216:=by have:=(iq n 0).2;unfold aw at h;omega
theorem agv (n:Name) (hn:aw n):wl PP [] 0 (Tryz.f45.body.getD .skip) (ct PP Tryz.f45.results.toList (fun r st=>(r1 ai).get true st.h r=some n)) (bp 0 [ai.val false n]) (bf []):=by
 unfold Tryz.f45
 simp only [bn]
 have hlim:n.length * 16≤140737488355328:=by have:=hn.lt;omega
 simp only [↓wR,RA,simprocAttr,TF,hlim]
noncomputable def pd (x:Name × Unit):Option AV:=if aw x.1 then some ((r1 ai).E true (x.1)) else none
set_option maxRecDepth 2000000 in
theorem qj (x:Name × Unit) (r:AV) (h:pd x=some r):bb PP 45 ((aC ai a0).E x) r:=by
 by_cases hc:aw x.1
 case neg=>simp only [pd,if_neg hc] at h;cases h
 simp only [pd,if_pos hc] at h
 cases h
 exact ar (an.nil PP) Tryz.func45 (by kernel_rfl) (by kernel_rfl) (by kernel_rfl) (Nat.le_of_ble_eq_true (by kernel_rfl)) (r1 ai) true (x.1) (agv x.1 hc)
noncomputable abbrev A2:Nat × Bool × (List AV→M AV):=(45,true,cg (aC ai a0) pd)
theorem ar6 {n:Name} {i:Nat} {c:ByteArray} (hc:n[i]? = some c):dz (n.drop i)=fold c::dz (n.drop (i+1)):=by rw [Bn hc];rfl
theorem afr (n:Name) (hn:aw n):wl PP [Mo] 0 (Tryz.f153.body.getD .skip) (ct PP Tryz.f153.results.toList (fun r st=>(r1 ai).get true st.h r=some (dz n))) (bp 0 [ai.val false n]) (bf []):=by
 unfold Tryz.f153
 simp only [bn]
 have hln:=hn.lt
 simp only [↓wR,RA,simprocAttr,TF]
 refine gz [6,7,8,3] (fun (x:List ByteArray)=>[.vl false 1 (n.map (ag.val false)),.sc (.int .i64 n.length),.sc (.int .i64 x.length),.sl 0 0 x.length 1]) (fun x=>[some (.row (x.map (ag.val false)) 0 0 9)]) (fun x=>x++dz (n.drop x.length)=dz n∧x.length≤n.length) (fun x=>n.length - x.length) [] ⟨rfl,Nat.zero_le _⟩ (by simp only [↓wR,RA,simprocAttr,TF];(refine jo.lax [] (by first|exact Nat.le_of_ble_eq_true rfl|(simp [di];omega)) ?_ ?_<;>repeat' first|exact er.nil|exact cp.nil|exact ft.same _|exact ft.nil _ _ _|exact ft.oi _ _|exact cp.refl _ _|apply er.cons|apply cp.ghost|apply cp.same|apply cp.row)) ?_
 rintro x ⟨hR,hx⟩
 simp only [↓wR,RA,simprocAttr,TF]
 rw [ca];refine ⟨fun h=>?_,fun h=>?_⟩
 ·obtain ⟨c,hc,hd,hlt⟩:=dq h
  have hlim:(x.length+1) * 16≤140737488355328:=by omega
  simp only [↓wR,RA,simprocAttr,TF,hc,tc,hn.label c (List.mem_of_getElem? hc),hlim]
  refine ⟨x++[fold c],⟨?_,by simp;omega⟩,by simp;omega,by (first|rfl|trivial|omega|((try (simp (disch:=omega) only [ah]));(try (simp only [FB]));first|done|rfl|omega)),by (first|rfl|trivial|omega|((try (simp (disch:=omega) only [ah]));(try (simp only [FB]));first|done|rfl|omega))⟩
  rw [← hR,ar6 hc];simp
 ·rw [en h] at hR
  simp only [↓wR,RA,simprocAttr,TF,h]
  simpa [dz] using hR
noncomputable def B6 (x:Name × Unit):Option AV:=if aw x.1 then some ((r1 ai).E true (dz x.1)) else none
set_option maxRecDepth 2000000 in
theorem Zm (x:Name × Unit) (r:AV) (h:B6 x=some r):bb PP 153 ((aC ai a0).E x) r:=by
 by_cases hc:aw x.1
 case neg=>simp only [B6,if_neg hc] at h;cases h
 simp only [B6,if_pos hc] at h
 cases h
 exact ar (an.cons (ak As) (an.nil PP)) Tryz.func153 (by kernel_rfl) (by kernel_rfl) (by kernel_rfl) (Nat.le_of_ble_eq_true (by kernel_rfl)) (r1 ai) true (dz x.1) (afr x.1 hc)
noncomputable abbrev atn:Nat × Bool × (List AV→M AV):=(153,true,cg (aC ai a0) B6)
theorem C3 {n:Name} (h:da n=0):bq n≤255:=by
 unfold da at h
 split at h
 ·cases h
 ·split at h
  ·cases h
  ·omega
theorem aw.fit {n:Name} (h:aw n):bq n<17592186044416:=by unfold aw at h;omega
theorem aw.drop {n:Name} (h:aw n) (i:Nat):aw (n.drop i):=by
 unfold aw at *
 have:=lj (n.take i) (n.drop i)
 rw [List.take_append_drop] at this
 have h1:=(iq (n.take i) 0).2
 omega
def nm:ByteArray:=⟨#[42]⟩
def gu (s:ByteArray):List UInt8:=UInt8.ofNat s.size::s.data.toList
def nameBytes (n:Name):List UInt8:=n.flatMap gu++[0]
def kg (n:Name):List UInt8:=if da n≠0 then [] else nameBytes n
theorem A7 (s):(gu s).length=s.size+1:=by simp [gu]
theorem tt (n:Name):(n.flatMap gu).length+1=bq n:=by
 induction n with
 |nil=>rfl
 |cons a l ih=>
  have:=lj [a] l
  have h3:bq [a]=a.size+2:=by simp [bq];omega
  simp only [List.singleton_append] at this
  simp only [List.flatMap_cons,List.length_append,A7]
  omega
theorem ab6 (n:Name) (hn:aw n):wl PP [eu] 0 (Tryz.f189.body.getD .skip) (ct PP Tryz.f189.results.toList (fun r st=>(r2 (cj bk) (au .i64)).get true st.h r=some (kg n,da n))) (bp 0 [ai.val false n]) (bf []):=by
 unfold Tryz.f189
 simp only [bn]
 have hln:=hn.lt
 simp only [↓wR,RA,simprocAttr,TF,o0,hn.fit]
 rw [ca];refine ⟨fun h=>?_,fun h=>?_⟩
 ·have he:da n≠0:=by simpa using h
  have hb:kg n=[]:=if_pos he
  simp only [↓wR,RA,simprocAttr,TF,hb]
 have he:da n=0:=by simpa using h
 have hb:kg n=nameBytes n:=if_neg (by omega)
 rw [hb,he]
 simp only [↓wR,RA,simprocAttr,TF]
 refine gz [13,14,15,5] (fun (x:Nat × List UInt8)=>[.vl false 1 (n.map (ag.val false)),.sc (.int .i64 n.length),.sc (.int .i64 x.1),.sl 0 0 x.2.length 1]) (fun x=>[some (.row (x.2.map (bk.val false)) 0 0 5)]) (fun x=>x.2++(n.drop x.1).flatMap gu=n.flatMap gu∧x.1≤n.length) (fun x=>n.length - x.1) (0,[]) ⟨rfl,Nat.zero_le _⟩ (by simp only [↓wR,RA,simprocAttr,TF];(refine jo.lax [] (by first|exact Nat.le_of_ble_eq_true rfl|(simp [di];omega)) ?_ ?_<;>repeat' first|exact er.nil|exact cp.nil|exact ft.same _|exact ft.nil _ _ _|exact ft.oi _ _|exact cp.refl _ _|apply er.cons|apply cp.ghost|apply cp.same|apply cp.row)) ?_
 rintro ⟨i,x⟩ ⟨hR,hx⟩
 simp only at hR hx
 have hnb:=tt n
 have hsm:=C3 he
 simp only [↓wR,RA,simprocAttr,TF]
 rw [ca];refine ⟨fun h2=>?_,fun h2=>?_⟩
 ·obtain ⟨c,hc,hd,hlt⟩:=dq h2
  rw [hd,List.flatMap_cons] at hR
  have hl:x.length+(gu c).length≤(n.flatMap gu).length:=by rw [← hR];simp
  rw [A7] at hl
  simp only [↓wR,RA,simprocAttr,TF,hc];repeat (simp (disch:=omega) only [ah,bw,bz,bu,bt];try simp only [↓wR,RA,simprocAttr,TF,hc])
  refine ⟨(i+1,x++gu c),⟨by rw [← hR];simp,hlt⟩,by simp;omega,?_,by simp only [gu,List.map_append,List.map_cons,List.append_assoc,List.singleton_append,Cb]⟩
  simp only [List.cons.injEq,and_true,true_and,AV.sc.injEq,Value.int.injEq,AV.sl.injEq,gu,List.length_append,List.length_cons]
  refine ⟨by (try simp (disch:=omega) only [ah,bw,bz,bu,bt]);simp,by simp;omega⟩
 ·rw [en h2] at hR
  have hl:x.length<bq n:=by rw [← hnb,← hR];simp
  simp only [↓wR,RA,simprocAttr,TF,h2];repeat (simp (disch:=omega) only [ah,bw,bz,bu,bt];try simp only [↓wR,RA,simprocAttr,TF,h2])
  simp only [nameBytes,← hR];simp
noncomputable def tx (x:Name × Unit):Option AV:=if aw x.1 then some ((r2 (cj bk) (au .i64)).E true ((kg x.1,da x.1))) else none
set_option maxRecDepth 2000000 in
theorem Ug (x:Name × Unit) (r:AV) (h:tx x=some r):bb PP 189 ((aC ai a0).E x) r:=by
 by_cases hc:aw x.1
 case neg=>simp only [tx,if_neg hc] at h;cases h
 simp only [tx,if_pos hc] at h
 cases h
 exact ar (an.cons (ak pj) (an.nil PP)) Tryz.func189 (by kernel_rfl) (by kernel_rfl) (by kernel_rfl) (Nat.le_of_ble_eq_true (by kernel_rfl)) (r2 (cj bk) (au .i64)) true ((kg x.1,da x.1)) (ab6 x.1 hc)
noncomputable abbrev aja:Nat × Bool × (List AV→M AV):=(189,true,cg (aC ai a0) tx)
end Go.Proofs.YtjagjbceegbaiaaGreat
end
section
namespace Go.Proofs.YtjagjbceegbaiaaGreat
open Go.Vm
set_option maxRecDepth 2000000
theorem I4 {α:Type} {f : α→AV} {xs:List α} (h:xs≠[]) (op l sz p q):Ns op (.vl l sz (xs.map f)) (.sc (.slice none p q))=o8 op false:=by
 cases xs with
 |nil=>exact (h rfl).elim
 |cons x xs=>rfl
def Lt (v:Value):Prop:=v = .slice none 0 0∨∃ a c,v = .slice (some a) 0 c
theorem Bl {f:Nat} {r:AV} {sz:Nat} (h:∀ v,Lt v→bb PP f [.sc v] r):bb PP f [.vl false sz []] r:=by
 intro K w vs hK hrel
 obtain ⟨v,rfl,hv⟩:=Qn hrel
 have hE:Lt v:=by
  cases hv with
  |vl=>exact .inr ⟨_,_,rfl⟩
  |kf=>exact .inl rfl
  |sk=>exact .inr ⟨_,_,rfl⟩
 exact h v hE K w [v] hK (bm.cons (.sc v) (bm.nil _ _))
theorem afz (l:List UInt32) (hne:l≠[]) (hl:l.length≤16777216):wl PP [] 0 (Tryz.f160.body.getD .skip) (ct PP Tryz.f160.results.toList (fun r st=>(r1 (cj cf)).get true st.h r=some l)) (bp 0 [(cj cf).val false l]) (bf []):=by
 unfold Tryz.f160
 rw [nh]
 have hb:l.length * 4≤140737488355328:=by omega
 simp only [↓wR,RA,simprocAttr,TF,I4 hne,hb]
theorem acn (v:Value) (hv:Lt v):wl PP [] 0 (Tryz.f160.body.getD .skip) (ct PP Tryz.f160.results.toList (fun r st=>(r1 (cj cf)).get true st.h r=some [])) (bp 0 [.sc v]) (bf []):=by
 unfold Tryz.f160
 rcases hv with rfl|⟨a,c,rfl⟩
 ·simp only [↓wR,RA,simprocAttr,TF]
 ·simp only [↓wR,RA,simprocAttr,TF]
noncomputable def ya (x:List UInt32 × Unit):Option AV:=if x.1.length≤16777216 then some ((r1 (cj cf)).E true x.1) else none
theorem Js (x:List UInt32 × Unit) (r:AV) (h:ya x=some r):bb PP 160 ((aC (cj cf) a0).E x) r:=by
 by_cases hc:x.1.length≤16777216
 case neg=>simp only [ya,if_neg hc] at h;cases h
 simp only [ya,if_pos hc] at h
 cases h
 obtain ⟨l,⟨⟩⟩:=x
 by_cases hn:l=[]
 ·subst hn
  exact Bl (sz:=1) fun v hv=>ar (an.nil PP) Tryz.func160 (by kernel_rfl) (by kernel_rfl) (by kernel_rfl) (Nat.le_of_ble_eq_true (by kernel_rfl)) (r1 (cj cf)) true [] (acn v hv)
 ·exact ar (an.nil PP) Tryz.func160 (by kernel_rfl) (by kernel_rfl) (by kernel_rfl) (Nat.le_of_ble_eq_true (by kernel_rfl)) (r1 (cj cf)) true l (afz l hn hc)
noncomputable abbrev abd:Nat × Bool × (List AV→M AV):=(160,true,cg (aC (cj cf) a0) ya)
theorem ags (l:List ByteArray) (hne:l≠[]) (hl:l.length≤16777216):wl PP [] 0 (Tryz.f161.body.getD .skip) (ct PP Tryz.f161.results.toList (fun r st=>(r1 (cj ag)).get true st.h r=some l)) (bp 0 [(cj ag).val false l]) (bf []):=by
 unfold Tryz.f161
 rw [nh]
 have hb:l.length * 16≤140737488355328:=by omega
 simp only [↓wR,RA,simprocAttr,TF,I4 hne,hb]
theorem aee (v:Value) (hv:Lt v):wl PP [] 0 (Tryz.f161.body.getD .skip) (ct PP Tryz.f161.results.toList (fun r st=>(r1 (cj ag)).get true st.h r=some [])) (bp 0 [.sc v]) (bf []):=by
 unfold Tryz.f161
 rcases hv with rfl|⟨a,c,rfl⟩
 ·simp only [↓wR,RA,simprocAttr,TF]
 ·simp only [↓wR,RA,simprocAttr,TF]
noncomputable def yf (x:List ByteArray × Unit):Option AV:=if x.1.length≤16777216 then some ((r1 (cj ag)).E true x.1) else none
theorem Ji (x:List ByteArray × Unit) (r:AV) (h:yf x=some r):bb PP 161 ((aC (cj ag) a0).E x) r:=by
 by_cases hc:x.1.length≤16777216
 case neg=>simp only [yf,if_neg hc] at h;cases h
 simp only [yf,if_pos hc] at h
 cases h
 obtain ⟨l,⟨⟩⟩:=x
 by_cases hn:l=[]
 ·subst hn
  exact Bl (sz:=1) fun v hv=>ar (an.nil PP) Tryz.func161 (by kernel_rfl) (by kernel_rfl) (by kernel_rfl) (Nat.le_of_ble_eq_true (by kernel_rfl)) (r1 (cj ag)) true [] (aee v hv)
 ·exact ar (an.nil PP) Tryz.func161 (by kernel_rfl) (by kernel_rfl) (by kernel_rfl) (Nat.le_of_ble_eq_true (by kernel_rfl)) (r1 (cj ag)) true l (ags l hn hc)
noncomputable abbrev acr:Nat × Bool × (List AV→M AV):=(161,true,cg (aC (cj ag) a0) yf)
theorem akc (l:List UInt8) (hne:l≠[]) (hl:l.length≤16777216):wl PP [] 0 (Tryz.f162.body.getD .skip) (ct PP Tryz.f162.results.toList (fun r st=>(r1 (cj bk)).get true st.h r=some l)) (bp 0 [(cj bk).val false l]) (bf []):=by
 unfold Tryz.f162
 rw [nh]
 have hb:l.length≤140737488355328:=by omega
 simp only [↓wR,RA,simprocAttr,TF,I4 hne,hb]
theorem af7 (v:Value) (hv:Lt v):wl PP [] 0 (Tryz.f162.body.getD .skip) (ct PP Tryz.f162.results.toList (fun r st=>(r1 (cj bk)).get true st.h r=some [])) (bp 0 [.sc v]) (bf []):=by
 unfold Tryz.f162
 rcases hv with rfl|⟨a,c,rfl⟩
 ·simp only [↓wR,RA,simprocAttr,TF]
 ·simp only [↓wR,RA,simprocAttr,TF]
noncomputable def Bj (x:List UInt8 × Unit):Option AV:=if x.1.length≤16777216 then some ((r1 (cj bk)).E true x.1) else none
theorem Lu (x:List UInt8 × Unit) (r:AV) (h:Bj x=some r):bb PP 162 ((aC (cj bk) a0).E x) r:=by
 by_cases hc:x.1.length≤16777216
 case neg=>simp only [Bj,if_neg hc] at h;cases h
 simp only [Bj,if_pos hc] at h
 cases h
 obtain ⟨l,⟨⟩⟩:=x
 by_cases hn:l=[]
 ·subst hn
  exact Bl (sz:=1) fun v hv=>ar (an.nil PP) Tryz.func162 (by kernel_rfl) (by kernel_rfl) (by kernel_rfl) (Nat.le_of_ble_eq_true (by kernel_rfl)) (r1 (cj bk)) true [] (af7 v hv)
 ·exact ar (an.nil PP) Tryz.func162 (by kernel_rfl) (by kernel_rfl) (by kernel_rfl) (Nat.le_of_ble_eq_true (by kernel_rfl)) (r1 (cj bk)) true l (akc l hn hc)
noncomputable abbrev ahn:Nat × Bool × (List AV→M AV):=(162,true,cg (aC (cj bk) a0) Bj)
structure Shape where
 names:Int
 nums:Int
 size:Int
 texts:Int
 raw:Int
noncomputable def tj:c8 Shape:=zc (kr (au .i64) (kr (au .i64) (kr (au .i64) (kr (au .i64) (au .i64))))) (fun s=>(s.names,s.nums,s.size,s.texts,s.raw)) (fun p=>⟨p.1,p.2.1,p.2.2.1,p.2.2.2.1,p.2.2.2.2⟩) (fun _=>rfl) (fun _=>rfl)
theorem Eb (l:Bool) (s:Shape):tj.val l s = .agg [.sc (.int .i64 s.names),.sc (.int .i64 s.nums),.sc (.int .i64 s.size),.sc (.int .i64 s.texts),.sc (.int .i64 s.raw)]:=id rfl
theorem ki (fr h) (a b c d e:Int):tj.gy fr h (.agg [.sc (.int .i64 a),.sc (.int .i64 b),.sc (.int .i64 c),.sc (.int .i64 d),.sc (.int .i64 e)])=some ⟨a,b,c,d,e⟩:=ax9 tj fr h ⟨a,b,c,d,e⟩
def cr (t:UInt16):Shape:=
 if (t.toNat:Int)=1 then ⟨0,0,0,0,4⟩ else if (t.toNat:Int)=28 then ⟨0,0,0,0,16⟩ else if (t.toNat:Int)=2 then ⟨1,0,0,0,0⟩ else if (t.toNat:Int)=5 then ⟨1,0,0,0,0⟩ else if (t.toNat:Int)=12 then ⟨1,0,0,0,0⟩
 else if (t.toNat:Int)=6 then ⟨2,5,4,0,0⟩ else if (t.toNat:Int)=15 then ⟨1,1,2,0,0⟩ else if (t.toNat:Int)=33 then ⟨1,3,2,0,0⟩ else if (t.toNat:Int)=16 then ⟨0,0,0,-1,0⟩ else if (t.toNat:Int)=257 then ⟨0,1,1,2,0⟩ else ⟨0,0,0,0,-1⟩
theorem anv (t:UInt16):wl PP [] 0 (Tryz.f150.body.getD .skip) (ct PP Tryz.f150.results.toList (fun r st=>(r1 tj).get true st.h r=some (cr t))) (bp 0 [cy.val false t]) (bf []):=by
 unfold Tryz.f150
 unfold cr
 simp only [↓wR,RA,simprocAttr,TF]
 rw [b9];refine ⟨fun ⟨h0,e0⟩=>?_,fun ⟨h0,e0⟩=>?_⟩
 ·simp only [↓wR,RA,simprocAttr,TF,h0]
  rw [if_pos e0]
  exact ki ..
 rw [if_neg e0]
 simp only [↓wR,RA,simprocAttr,TF,h0]
 rw [b9];refine ⟨fun ⟨h1,e1⟩=>?_,fun ⟨h1,e1⟩=>?_⟩
 ·simp only [↓wR,RA,simprocAttr,TF,h1]
  rw [if_pos e1]
  exact ki ..
 rw [if_neg e1]
 simp only [↓wR,RA,simprocAttr,TF,h1]
 rw [b9];refine ⟨fun ⟨h2,e2⟩=>?_,fun ⟨h2,e2⟩=>?_⟩
 ·simp only [↓wR,RA,simprocAttr,TF,h2]
  rw [if_pos e2]
  exact ki ..
 rw [if_neg e2]
 simp only [↓wR,RA,simprocAttr,TF,h2]
 rw [b9];refine ⟨fun ⟨h3,e3⟩=>?_,fun ⟨h3,e3⟩=>?_⟩
 ·simp only [↓wR,RA,simprocAttr,TF,h3]
  rw [if_pos e3]
  exact ki ..
 rw [if_neg e3]
 simp only [↓wR,RA,simprocAttr,TF,h3]
 rw [b9];refine ⟨fun ⟨h4,e4⟩=>?_,fun ⟨h4,e4⟩=>?_⟩
 ·simp only [↓wR,RA,simprocAttr,TF,h4]
  rw [if_pos e4]
  exact ki ..
 rw [if_neg e4]
 simp only [↓wR,RA,simprocAttr,TF,h4]
 rw [b9];refine ⟨fun ⟨h5,e5⟩=>?_,fun ⟨h5,e5⟩=>?_⟩
 ·simp only [↓wR,RA,simprocAttr,TF,h5]
  rw [if_pos e5]
  exact ki ..
 rw [if_neg e5]
 simp only [↓wR,RA,simprocAttr,TF,h5]
 rw [b9];refine ⟨fun ⟨h6,e6⟩=>?_,fun ⟨h6,e6⟩=>?_⟩
 ·simp only [↓wR,RA,simprocAttr,TF,h6]
  rw [if_pos e6]
  exact ki ..
 rw [if_neg e6]
 simp only [↓wR,RA,simprocAttr,TF,h6]
 rw [b9];refine ⟨fun ⟨h7,e7⟩=>?_,fun ⟨h7,e7⟩=>?_⟩
 ·simp only [↓wR,RA,simprocAttr,TF,h7]
  rw [if_pos e7]
  exact ki ..
 rw [if_neg e7]
 simp only [↓wR,RA,simprocAttr,TF,h7]
 rw [b9];refine ⟨fun ⟨h8,e8⟩=>?_,fun ⟨h8,e8⟩=>?_⟩
 ·simp only [↓wR,RA,simprocAttr,TF,h8]
  rw [if_pos e8]
  exact ki ..
 rw [if_neg e8]
 simp only [↓wR,RA,simprocAttr,TF,h8]
 rw [b9];refine ⟨fun ⟨h9,e9⟩=>?_,fun ⟨h9,e9⟩=>?_⟩
 ·simp only [↓wR,RA,simprocAttr,TF,h9]
  rw [if_pos e9]
  exact ki ..
 rw [if_neg e9]
 simp only [↓wR,RA,simprocAttr,TF,h9]
 exact ki ..
noncomputable def Dx (x:UInt16 × Unit):Option AV:=some ((r1 tj).E true (cr x.1))
set_option maxRecDepth 2000000 in
theorem Dy (x:UInt16 × Unit) (r:AV) (h:Dx x=some r):bb PP 150 ((aC cy a0).E x) r:=by
 cases h
 exact ar (an.nil PP) Tryz.func150 (by kernel_rfl) (by kernel_rfl) (by kernel_rfl) (Nat.le_of_ble_eq_true (by kernel_rfl)) (r1 tj) true (cr x.1) (anv x.1)
noncomputable abbrev V0:Nat × Bool × (List AV→M AV):=(150,true,cg (aC cy a0) Dx)
def mg (t:UInt16):Bool:=(t.toNat:Int) == 0 || (decide ((128:Int)≤(t.toNat:Int)) && decide ((t.toNat:Int)≤255))
theorem ann (t:UInt16):wl PP [] 0 (Tryz.f149.body.getD .skip) (ct PP Tryz.f149.results.toList (fun r st=>(r1 bd).get true st.h r=some (mg t))) (bp 0 [cy.val false t]) (bf []):=by
 unfold Tryz.f149
 unfold mg
 simp only [↓wR,RA,simprocAttr,TF]
 rw [b9];refine ⟨fun ⟨h,e⟩=>?_,fun ⟨h,e⟩=>?_⟩
 ·simp only [↓wR,RA,simprocAttr,TF,h]
 ·simp only [↓wR,RA,simprocAttr,TF,h]
  rw [be];refine ⟨fun h2=>?_,fun h2=>?_⟩
  ·simp only [↓wR,RA,simprocAttr,TF,h2]
  ·simp only [↓wR,RA,simprocAttr,TF,h2]
   rfl
noncomputable def Ux (x:UInt16 × Unit):Option AV:=some ((r1 bd).E true (mg x.1))
set_option maxRecDepth 2000000 in
theorem agb (x:UInt16 × Unit) (r:AV) (h:Ux x=some r):bb PP 149 ((aC cy a0).E x) r:=by
 cases h
 exact ar (an.nil PP) Tryz.func149 (by kernel_rfl) (by kernel_rfl) (by kernel_rfl) (Nat.le_of_ble_eq_true (by kernel_rfl)) (r1 bd) true (mg x.1) (ann x.1)
noncomputable abbrev axc:Nat × Bool × (List AV→M AV):=(149,true,cg (aC cy a0) Ux)
noncomputable def y8 (n:UInt32):List UInt8:=[UInt8.ofNat (n.toNat / 16777216),UInt8.ofNat (n.toNat / 65536),UInt8.ofNat (n.toNat / 256),UInt8.ofNat n.toNat]
theorem ard (n:UInt32):wl PP [] 0 (Tryz.f188.body.getD .skip) (ct PP Tryz.f188.results.toList (fun r st=>(r1 (cj bk)).get true st.h r=some (y8 n))) (bp 0 [cf.val false n]) (bf []):=by
 unfold Tryz.f188
 simp only [↓wR,RA,simprocAttr,TF]
 rfl
noncomputable def Nt (x:UInt32 × Unit):Option AV:=some ((r1 (cj bk)).E true (y8 x.1))
set_option maxRecDepth 2000000 in
theorem af4 (x:UInt32 × Unit) (r:AV) (h:Nt x=some r):bb PP 188 ((aC cf a0).E x) r:=by
 cases h
 exact ar (an.nil PP) Tryz.func188 (by kernel_rfl) (by kernel_rfl) (by kernel_rfl) (Nat.le_of_ble_eq_true (by kernel_rfl)) (r1 (cj bk)) true (y8 x.1) (ard x.1)
noncomputable abbrev ay1:Nat × Bool × (List AV→M AV):=(188,true,cg (aC cf a0) Nt)
def Ah (c:UInt8):Bool:=decide (97≤c.toNat∧c.toNat≤122∨65≤c.toNat∧c.toNat≤90∨48≤c.toNat∧c.toNat≤57)
def sj (s:ByteArray):Bool:=s.data.toList.all Ah && decide (1≤s.size∧s.size≤15)
theorem ay0 (s:ByteArray) (hs:s.size≤16777216):wl PP [] 0 (Tryz.f185.body.getD .skip) (ct PP Tryz.f185.results.toList (fun r st=>(r1 bd).get true st.h r=some (sj s))) (bp 0 [ag.val false s]) (bf []):=by
 unfold Tryz.f185
 simp only [↓wR,RA,simprocAttr,TF]
 refine dg [0,6,7] (fun (i:Nat)=>[.sc (.string s),.sc (.int .i64 s.size),.sc (.int .i64 i)]) (fun _=>[]) (fun i=>i≤s.size∧s.data.toList.all Ah=(s.data.toList.drop i).all Ah) (fun i=>s.size - i) 0 ⟨Nat.zero_le _,rfl⟩ ?_ ?_ ?_
 ·simp only [↓wR,RA,simprocAttr,TF]<;>rfl
 ·simp only [↓wR,RA,simprocAttr,TF]
 rintro i ⟨hi,hR⟩
 simp only [↓wR,RA,simprocAttr,TF]
 rw [be];refine ⟨fun h=>?_,fun h=>?_⟩
 ·obtain ⟨c,hc⟩:∃ c,s.data.toList[i]? = some c:=⟨_,List.getElem?_eq_getElem (by simp;omega)⟩
  have hd:=Bn hc
  rw [hd,List.all_cons] at hR
  simp only [↓wR,RA,simprocAttr,TF,h,hc];repeat (simp (disch:=omega) only [ah,bw,bz,bu,bt];try simp only [↓wR,RA,simprocAttr,TF,h,hc])
  repeat' (rw [be];refine ⟨fun h=>?_,fun h=>?_⟩<;>simp only [↓wR,RA,simprocAttr,TF,h,hc])
  all_goals first
   |(
    have ht:Ah c=false:=by (unfold Ah;rw [decide_eq_false_iff_not];omega)
    rw [sj,hR,ht];rfl)
   |(
    have ht:Ah c=true:=by (unfold Ah;rw [decide_eq_true_eq];omega)
    refine ⟨i+1,⟨by omega,by rw [hR,ht];simp⟩,by omega,by (first|rfl|trivial|omega|((try (simp (disch:=omega) only [ah]));(try (simp only [FB]));first|done|rfl|omega))⟩)
 ·have hdn:s.data.toList.drop i=[]:=List.drop_eq_nil_of_le (by simp;omega)
  rw [hdn,List.all_nil] at hR
  simp only [↓wR,RA,simprocAttr,TF,h]
  unfold sj
  rw [hR]
  rw [be];refine ⟨fun h1=>?_,fun h1=>?_⟩
  ·simp only [↓wR,RA,simprocAttr,TF,h1]
   congr 1
   rw [Bool.eq_iff_iff];simp;omega
  ·simp only [↓wR,RA,simprocAttr,TF,h1]
   congr 1
   rw [Bool.eq_iff_iff];simp;omega
noncomputable def Uc (x:ByteArray × Unit):Option AV:=if x.1.size≤16777216 then some ((r1 bd).E true (sj x.1)) else none
set_option maxRecDepth 2000000 in
theorem aom (x:ByteArray × Unit) (r:AV) (h:Uc x=some r):bb PP 185 ((aC ag a0).E x) r:=by
 by_cases hc:x.1.size≤16777216
 case neg=>simp only [Uc,if_neg hc] at h;cases h
 simp only [Uc,if_pos hc] at h
 cases h
 exact ar (an.nil PP) Tryz.func185 (by kernel_rfl) (by kernel_rfl) (by kernel_rfl) (Nat.le_of_ble_eq_true (by kernel_rfl)) (r1 bd) true (sj x.1) (ay0 x.1 hc)
noncomputable abbrev aAu:Nat × Bool × (List AV→M AV):=(185,true,cg (aC ag a0) Uc)
def ko {α:Type} (f : α→Nat) (l:List α):Nat:=l.foldr (fun x k=>f x+k+1) 0
def B7 (d:bo):Nat:=ko bq d.names+d.nums.length+ko ByteArray.size d.texts+d.raw.length
theorem Gx {α:Type} {f : α→Nat} {l:List α} {x : α} (h:x ∈ l):f x<ko f l:=by
 induction l with
 |nil=>cases h
 |cons a l ih=>
  simp only [ko,List.foldr_cons] at ih ⊢
  rcases List.mem_cons.1 h with rfl|h
  ·omega
  ·have:=ih h;omega
theorem Du {α:Type} (f : α→Nat) (l:List α):l.length≤ko f l:=by
 induction l with
 |nil=>exact Nat.le_refl _
 |cons a l ih=>simp only [ko,List.foldr_cons,List.length_cons] at ih ⊢;omega
def cq (d:bo):Prop:=B7 d≤16777216
instance (d:bo):Decidable (cq d):=inferInstanceAs (Decidable (_≤_))
theorem cq.name {d:bo} (h:cq d):∀ n ∈ d.names,aw n:=fun n hn=>by
 have h1:bq n<ko bq d.names:=Gx hn
 unfold cq B7 at h;unfold aw;omega
theorem cq.text {d:bo} (h:cq d):∀ s ∈ d.texts,s.size≤16777216:=fun s hs=>by
 have h1:ByteArray.size s<ko ByteArray.size d.texts:=Gx hs
 unfold cq B7 at h;omega
theorem cq.lens {d:bo} (h:cq d):d.names.length≤16777216∧d.nums.length≤16777216∧d.texts.length≤16777216∧d.raw.length≤16777216:=by
 have h1:=Du bq d.names
 have h2:=Du ByteArray.size d.texts
 unfold cq B7 at h;omega
noncomputable def zh (s:Shape):Int:=IntKind.u32.wrap (1 * 2 ^ (if (8 * s.size).toNat≤32 then (8 * s.size).toNat else 32))
noncomputable def sf (s:Shape) (t:UInt16) (d:bo):Bool:=
 if (d.names.length:Int)≠s.names∨(d.nums.length:Int)≠s.nums∨(0≤s.raw∧(d.raw.length:Int)≠s.raw) then false
 else if s.size<4∧(d.nums.any fun n=>decide (zh s≤(n.toNat:Int)))=true then false
 else if (t.toNat:Int)=257 then decide (d.texts.length=2) && sj (d.texts.headD ⟨#[]⟩)
 else if s.texts=0 then decide (d.texts.length=0)
 else decide (0<d.texts.length) && !(d.texts.any fun x=>decide (255<x.size))
noncomputable def Rg (s:Shape) (t:UInt16) (d:bo):Bool:=
 if s.size<4∧(d.nums.any fun n=>decide (zh s≤(n.toNat:Int)))=true then false
 else if (t.toNat:Int)=257 then decide (d.texts.length=2) && sj (d.texts.headD ⟨#[]⟩)
 else if s.texts=0 then decide (d.texts.length=0)
 else decide (0<d.texts.length) && !(d.texts.any fun x=>decide (255<x.size))
theorem au7 (s:Shape) (t:UInt16) (d:bo) (hs : 0≤s.size∧s.size≤4) (hd:cq d):wl PP [aAu] 0 (Tryz.f151.body.getD .skip) (ct PP Tryz.f151.results.toList (fun r st=>(r1 bd).get true st.h r=some (sf s t d))) (bp 0 [tj.val false s,cy.val false t,ba.val false d]) (bf []):=by
 unfold Tryz.f151
 obtain ⟨l1,l2,l3,l4⟩:=hd.lens
 simp only [Eb,gh,bn]
 simp only [↓wR,RA,simprocAttr,TF]
 rw [c6];refine ⟨fun ⟨h,e⟩=>?_,fun ⟨h,e⟩=>?_⟩
 ·have hv:sf s t d=false:=if_pos (.inl e)
  simp only [↓wR,RA,simprocAttr,TF,h,hv]
 simp only [↓wR,RA,simprocAttr,TF,h]
 rw [c6];refine ⟨fun ⟨h2,e2⟩=>?_,fun ⟨h2,e2⟩=>?_⟩
 ·have hv:sf s t d=false:=if_pos (.inr (.inl e2))
  simp only [↓wR,RA,simprocAttr,TF,h2,hv]
 simp only [↓wR,RA,simprocAttr,TF,h2]
 have hraw:¬ (0≤s.raw∧(d.raw.length:Int)≠s.raw)→sf s t d=Rg s t d:=fun hr=>if_neg (fun h=>by
  rcases h with h|h|h
  ·exact h e
  ·exact h e2
  ·exact hr h)
 rw [be];refine ⟨fun h3=>?_,fun h3=>?_⟩
 simp only [↓wR,RA,simprocAttr,TF,h3]
 rw [c6];refine ⟨fun ⟨h4,e4⟩=>?_,fun ⟨h4,e4⟩=>?_⟩
 have hv:sf s t d=false:=if_pos (.inr (.inr ⟨h3,e4⟩))
 simp only [↓wR,RA,simprocAttr,TF,h4,hv]
 rw [hraw (fun q=>q.2 e4)]
 simp only [↓wR,RA,simprocAttr,TF,h4]
 rotate_left
 rw [hraw (fun q=>h3 q.1)]
 simp only [↓wR,RA,simprocAttr,TF,h3]
 all_goals
  clear hraw
  refine dg [1,3,5,37,38,39] (fun (i:Nat)=>[.sc (.int .u16 t.toNat),.ptr 0 0,.ptr 1 0,.vl false 1 (d.nums.map (cf.val false)),.sc (.int .i64 d.nums.length),.sc (.int .i64 i)]) (fun _=>[some (.row [.sc (.int .i64 s.names),.sc (.int .i64 s.nums),.sc (.int .i64 s.size),.sc (.int .i64 s.texts),.sc (.int .i64 s.raw)] 0 2 185),some (.row [.vl false 1 (d.names.map (ai.val false)),.vl false 1 (d.nums.map (cf.val false)),.vl false 1 (d.texts.map (ag.val false)),.vl false 1 (d.raw.map (bk.val false))] 0 2 116)]) (fun i=>i≤d.nums.length∧(s.size<4→(d.nums.any fun n=>decide (zh s≤(n.toNat:Int)))=((d.nums.drop i).any fun n=>decide (zh s≤(n.toNat:Int))))) (fun i=>d.nums.length - i) 0 ⟨Nat.zero_le _,fun _=>rfl⟩ (by simp only [↓wR,RA,simprocAttr,TF]<;>rfl) (by simp only [↓wR,RA,simprocAttr,TF]<;>rfl) ?_
  clear h h2 e e2
  rintro i ⟨hi,hR⟩
  simp only [↓wR,RA,simprocAttr,TF]
  rw [be];refine ⟨fun h=>?_,fun h=>?_⟩
  ·obtain ⟨c,hc,hd1,hlt⟩:=dq (decide_eq_true h)
   rw [hd1,List.any_cons] at hR
   simp only [↓wR,RA,simprocAttr,TF,h,hc]
   rw [be];refine ⟨fun h5=>?_,fun h5=>?_⟩
   ·have hR:=hR h5
    have h80:(0:Int)≤8 * s.size:=by omega
    simp only [↓wR,RA,simprocAttr,TF,h5,h80];repeat (simp (disch:=omega) only [ah,bw,bz,bu,bt];try simp only [↓wR,RA,simprocAttr,TF,h5,h80])
    rw [be];refine ⟨fun h6=>?_,fun h6=>?_⟩
    ·have hv:Rg s t d=false:=by
      rw [Rg,if_pos ⟨h5,by rw [hR,decide_eq_true (show zh s≤(c.toNat:Int) from h6)];rfl⟩]
     simp only [↓wR,RA,simprocAttr,TF,h6,hv]
    ·simp only [↓wR,RA,simprocAttr,TF,h6];repeat (simp (disch:=omega) only [ah,bw,bz,bu,bt];try simp only [↓wR,RA,simprocAttr,TF,h6])
     refine ⟨i+1,⟨hlt,fun _=>?_⟩,by omega,by (first|rfl|trivial|omega|((try (simp (disch:=omega) only [ah]));(try (simp only [FB]));first|done|rfl|omega))⟩
     rw [hR,decide_eq_false (show ¬ zh s≤(c.toNat:Int) from h6),Bool.false_or]
   ·simp only [↓wR,RA,simprocAttr,TF,h5];repeat (simp (disch:=omega) only [ah,bw,bz,bu,bt];try simp only [↓wR,RA,simprocAttr,TF,h5])
    exact ⟨i+1,⟨hlt,fun h=>h.elim⟩,by omega,by (first|rfl|trivial|omega|((try (simp (disch:=omega) only [ah]));(try (simp only [FB]));first|done|rfl|omega))⟩
  ·rw [en (decide_eq_false h),List.any_nil] at hR
   have hr:Rg s t d=if (t.toNat:Int)=257 then decide (d.texts.length=2) && sj (d.texts.headD ⟨#[]⟩) else if s.texts=0 then decide (d.texts.length=0) else decide (0<d.texts.length) && !(d.texts.any fun x=>decide (255<x.size)):=by
    rw [Rg,if_neg];rintro ⟨q1,q2⟩;rw [hR q1] at q2;cases q2
   simp only [↓wR,RA,simprocAttr,TF,h]
   rw [b9];refine ⟨fun ⟨h6,e6⟩=>?_,fun ⟨h6,e6⟩=>?_⟩
   ·rw [if_pos e6] at hr
    simp only [↓wR,RA,simprocAttr,TF,h6]
    rw [b9];refine ⟨fun ⟨h7,e7⟩=>?_,fun ⟨h7,e7⟩=>?_⟩
    ·obtain ⟨c,hc⟩:∃ c,d.texts[0]? = some c:=⟨_,List.getElem?_eq_getElem (by omega)⟩
     have hh:d.texts.headD ⟨#[]⟩=c:=by
      cases ht:d.texts with
      |nil=>rw [ht] at hc;cases hc
      |cons a l=>rw [ht] at hc;simpa using hc
     rw [hh,decide_eq_true (show d.texts.length=2 by omega)] at hr
     simp only [↓wR,RA,simprocAttr,TF,h7,hc,Uc,hd.text c (List.mem_of_getElem? hc)]
     rw [hr];rfl
    ·simp only [↓wR,RA,simprocAttr,TF,h7]
     rw [hr,decide_eq_false (show ¬ d.texts.length=2 by omega)];rfl
   ·rw [if_neg e6] at hr
    simp only [↓wR,RA,simprocAttr,TF,h6]
    rw [b9];refine ⟨fun ⟨h7,e7⟩=>?_,fun ⟨h7,e7⟩=>?_⟩
    ·rw [if_pos e7] at hr
     simp only [↓wR,RA,simprocAttr,TF,h7]
     rw [hr];congr 1
     rw [Bool.eq_iff_iff];simp
    ·rw [if_neg e7] at hr
     simp only [↓wR,RA,simprocAttr,TF,h7]
     rw [be];refine ⟨fun h8=>?_,fun h8=>?_⟩
     ·simp only [↓wR,RA,simprocAttr,TF,h8]
      refine cz (T:=[]) (an.nil PP) mixed Tryz.func186 rfl (by kernel_rfl) (by kernel_rfl) (by kernel_rfl) (by kernel_rfl) ?_;unfold Tryz.f186
      simp only [↓wR,RA,simprocAttr,TF]
      refine cz (T:=[]) (an.nil PP) mixed Tryz.func206 rfl (by kernel_rfl) (by kernel_rfl) (by kernel_rfl) (by kernel_rfl) ?_;unfold Tryz.f206
      simp only [↓wR,RA,simprocAttr,TF]
      refine dg [0,1,7,8] (fun (i:Nat)=>[.vl false 1 (d.texts.map (ag.val false)),.sc (.func (.func 187) #[] #[]),.sc (.int .i64 d.texts.length),.sc (.int .i64 i)]) (fun _=>[some (.row [.sc (.int .i64 s.names),.sc (.int .i64 s.nums),.sc (.int .i64 s.size),.sc (.int .i64 s.texts),.sc (.int .i64 s.raw)] 0 2 185),some (.row [.vl false 1 (d.names.map (ai.val false)),.vl false 1 (d.nums.map (cf.val false)),.vl false 1 (d.texts.map (ag.val false)),.vl false 1 (d.raw.map (bk.val false))] 0 2 116)]) (fun i=>i≤d.texts.length∧(d.texts.any fun x=>decide (255<x.size))=((d.texts.drop i).any fun x=>decide (255<x.size))) (fun i=>d.texts.length - i) 0 ⟨Nat.zero_le _,rfl⟩ (by simp only [↓wR,RA,simprocAttr,TF]<;>rfl) (by simp only [↓wR,RA,simprocAttr,TF]<;>rfl) ?_
      rintro k ⟨hk,hK⟩
      simp only [↓wR,RA,simprocAttr,TF]
      rw [be];refine ⟨fun h9=>?_,fun h9=>?_⟩
      ·obtain ⟨c,hc,hd1,hlt⟩:=dq (decide_eq_true h9)
       rw [hd1,List.any_cons] at hK
       simp only [↓wR,RA,simprocAttr,TF,h9,hc];repeat (simp (disch:=omega) only [ah,bw,bz,bu,bt];try simp only [↓wR,RA,simprocAttr,TF,h9,hc])
       refine cz (T:=[]) (an.nil PP) mixed Tryz.func187 rfl (by kernel_rfl) (by kernel_rfl) (by kernel_rfl) (by kernel_rfl) ?_;unfold Tryz.f187
       simp only [↓wR,RA,simprocAttr,TF]
       rw [be];refine ⟨fun h10=>?_,fun h10=>?_⟩
       ·simp only [↓wR,RA,simprocAttr,TF,h10]
        rw [hr,hK,decide_eq_true (show 0<d.texts.length by omega),decide_eq_true (show 255<c.size by omega)];rfl
       ·simp only [↓wR,RA,simprocAttr,TF,h10];repeat (simp (disch:=omega) only [ah,bw,bz,bu,bt];try simp only [↓wR,RA,simprocAttr,TF,h10])
        refine ⟨k+1,⟨hlt,?_⟩,by omega,by (first|rfl|trivial|omega|((try (simp (disch:=omega) only [ah]));(try (simp only [FB]));first|done|rfl|omega))⟩
        rw [hK,decide_eq_false (show ¬ 255<c.size by omega),Bool.false_or]
      ·rw [en (decide_eq_false h9),List.any_nil] at hK
       simp only [↓wR,RA,simprocAttr,TF,h9]
       rw [hr,hK,decide_eq_true (show 0<d.texts.length by omega)];rfl
     ·simp only [↓wR,RA,simprocAttr,TF,h8]
      rw [hr,decide_eq_false (show ¬ 0<d.texts.length by omega)];rfl
theorem zv (t:UInt16) : 0≤(cr t).size∧(cr t).size≤4:=by
 unfold cr
 repeat' split
 all_goals simp
noncomputable def Kg (x:Shape × UInt16 × bo × Unit):Option AV:=if (0≤x.1.size∧x.1.size≤4)∧cq x.2.2.1 then some ((r1 bd).E true (sf x.1 x.2.1 x.2.2.1)) else none
set_option maxRecDepth 2000000 in
theorem akb (x:Shape × UInt16 × bo × Unit) (r:AV) (h:Kg x=some r):bb PP 151 ((aC tj (aC cy (aC ba a0))).E x) r:=by
 by_cases hc:(0≤x.1.size∧x.1.size≤4)∧cq x.2.2.1
 case neg=>simp only [Kg,if_neg hc] at h;cases h
 simp only [Kg,if_pos hc] at h
 cases h
 exact ar (an.cons (ak aom) (an.nil PP)) Tryz.func151 (by kernel_rfl) (by kernel_rfl) (by kernel_rfl) (Nat.le_of_ble_eq_true (by kernel_rfl)) (r1 bd) true (sf x.1 x.2.1 x.2.2.1) (au7 x.1 x.2.1 x.2.2.1 hc.1 hc.2)
noncomputable abbrev aze:Nat × Bool × (List AV→M AV):=(151,true,cg (aC tj (aC cy (aC ba a0))) Kg)
theorem ahy {α:Type} {l:List (List α)} {i:Nat} {c:List α} (h:l[i]? = some c):(l.drop i).flatten=c++(l.drop (i+1)).flatten:=by rw [Bn h];rfl
theorem av1 {α:Type} {l:List (List α)} {c:List α} (h:c ∈ l):c.length≤l.flatten.length:=by
 induction l with
 |nil=>cases h
 |cons a l ih=>
  simp only [List.flatten_cons,List.length_append]
  rcases List.mem_cons.1 h with rfl|h
  ·omega
  ·have:=ih h;omega
theorem ana (l:List (List UInt8)) (hl:l.length≤16777216) (hf:l.flatten.length≤134217728):wl PP [] 0 (Tryz.f190.body.getD .skip) (ct PP Tryz.f190.results.toList (fun r st=>(r1 (cj bk)).get false st.h r=some l.flatten)) (bp 0 [(cj (cj bk)).val false l]) (bf []):=by
 unfold Tryz.f190
 rw [nh]
 simp only [↓wR,RA,simprocAttr,TF]
 refine dg [0,3,9,10,11] (fun (x:Nat × Nat)=>[.vl false 1 (l.map ((cj bk).val false)),.sc (.int .i64 x.2),.vl false 1 (l.map ((cj bk).val false)),.sc (.int .i64 l.length),.sc (.int .i64 x.1)]) (fun _=>[]) (fun x=>x.1≤l.length∧x.2+(l.drop x.1).flatten.length=l.flatten.length) (fun x=>l.length - x.1) (0,0) ⟨Nat.zero_le _,by simp⟩ (by simp only [↓wR,RA,simprocAttr,TF]<;>rfl) (by simp only [↓wR,RA,simprocAttr,TF]<;>rfl) ?_
 rintro ⟨i,k⟩ ⟨hi,hk⟩
 simp only at hi hk
 simp only [↓wR,RA,simprocAttr,TF]
 rw [be];refine ⟨fun h=>?_,fun h=>?_⟩
 ·obtain ⟨c,hc,hd1,hlt⟩:=dq (decide_eq_true h)
  rw [ahy hc,List.length_append] at hk
  simp only [↓wR,RA,simprocAttr,TF,h,hc];repeat (simp (disch:=omega) only [ah,bw,bz,bu,bt];try simp only [↓wR,RA,simprocAttr,TF,h,hc])
  rw [be];refine ⟨fun h1=>?_,fun h1=>?_⟩
  ·exfalso;omega
  ·simp only [↓wR,RA,simprocAttr,TF,h1];repeat (simp (disch:=omega) only [ah,bw,bz,bu,bt];try simp only [↓wR,RA,simprocAttr,TF,h1])
   exact ⟨(i+1,k+c.length),⟨hlt,by show k+c.length+(l.drop (i+1)).flatten.length=_;omega⟩,by simp;omega,by simp⟩
 ·rw [en (decide_eq_false h)] at hk
  have hk:k=l.flatten.length:=by simpa using hk
  subst hk
  simp only [↓wR,RA,simprocAttr,TF,h]
  refine cz (T:=[]) (an.nil PP) mixed Tryz.func207 rfl (by kernel_rfl) (by kernel_rfl) (by kernel_rfl) (by kernel_rfl) ?_;unfold Tryz.f207
  simp only [↓wR,RA,simprocAttr,TF]
  rw [be];refine ⟨fun h1=>?_,fun h1=>?_⟩
  ·exfalso;omega
  simp only [↓wR,RA,simprocAttr,TF,h1];repeat (simp (disch:=omega) only [ah,bw,bz,bu,bt];try simp only [↓wR,RA,simprocAttr,TF,h1])
  rw [be];refine ⟨fun h2=>?_,fun h2=>?_⟩
  ·have hpos : 0<l.flatten.length:=by omega
   simp only [↓wR,RA,simprocAttr,TF,h2,hpos];repeat (simp (disch:=omega) only [ah,bw,bz,bu,bt];try simp only [↓wR,RA,simprocAttr,TF,h2,hpos])
   refine dg [25,26,27,6] (fun (x:Nat × Nat × Nat × List UInt8)=>[.vl false 1 (l.map ((cj bk).val false)),.sc (.int .i64 l.length),.sc (.int .i64 x.1),.sl 0 0 x.2.1 1]) (fun x=>[some (.row (x.2.2.2.map (bk.val false)) 0 x.2.2.1 5)]) (fun x=>x.1≤l.length∧(x.2.1=x.2.2.2.length∨x.2.1=0)∧x.2.2.2.take x.2.1++(l.drop x.1).flatten=l.flatten) (fun x=>l.length - x.1) (0,0,0,List.replicate l.flatten.length 0) ⟨Nat.zero_le _,.inr rfl,rfl⟩ (by simp only [↓wR,RA,simprocAttr,TF]<;>rfl) (by simp only [↓wR,RA,simprocAttr,TF]<;>rfl) ?_
   rintro ⟨k,m,s,r⟩ ⟨hk1,hk0,hk3⟩
   simp only at hk1 hk0 hk3
   have hk2:m≤r.length:=by omega
   simp only [↓wR,RA,simprocAttr,TF]
   rw [be];refine ⟨fun h3=>?_,fun h3=>?_⟩
   ·obtain ⟨c,hc,hd1,hlt⟩:=dq (decide_eq_true h3)
    rw [ahy hc] at hk3
    have hm:m+c.length≤134217728:=by
     have:=congrArg List.length hk3
     simp only [List.length_append,List.length_take] at this
     omega
    simp only [↓wR,RA,simprocAttr,TF,h3,hc,hk2];repeat (simp (disch:=omega) only [ah,bw,bz,bu,bt];try simp only [↓wR,RA,simprocAttr,TF,h3,hc,hk2])
    have hl1:(r.take m++c).length=m+c.length:=by simp [Nat.min_eq_left hk2]
    refine ⟨(k+1,m+c.length,m8 (decide (m=r.length)) s,r.take m++c),⟨hlt,.inl hl1.symm,?_⟩,by simp;omega,by simp,by simp⟩
    show (r.take m++c).take (m+c.length)++_=_
    rw [List.take_of_length_le (Nat.le_of_eq hl1),List.append_assoc]
    exact hk3
   ·rw [en (decide_eq_false h3)] at hk3
    have hmr:m=r.length:=by
     have:=congrArg List.length hk3
     simp only [List.length_append,List.length_take,List.flatten_nil,List.length_nil] at this
     omega
    subst hmr
    have hr:r=l.flatten:=by simpa using hk3
    subst hr
    simp only [↓wR,RA,simprocAttr,TF,h3,hk2];repeat (simp (disch:=omega) only [ah,bw,bz,bu,bt];try simp only [↓wR,RA,simprocAttr,TF,h3,hk2])
  ·have hnil:l.flatten=[]:=List.eq_nil_of_length_eq_zero (by omega)
   simp only [↓wR,RA,simprocAttr,TF,h2];repeat (simp (disch:=omega) only [ah,bw,bz,bu,bt];try simp only [↓wR,RA,simprocAttr,TF,h2])
   refine dg [25,26,27,6] (fun (x:Nat)=>[.vl false 1 (l.map ((cj bk).val false)),.sc (.int .i64 l.length),.sc (.int .i64 x),.sc (.slice none 0 0)]) (fun _=>[]) (fun x=>x≤l.length) (fun x=>l.length - x) 0 (Nat.zero_le _) (by simp only [↓wR,RA,simprocAttr,TF]<;>rfl) (by simp only [↓wR,RA,simprocAttr,TF]<;>rfl) ?_
   intro k hk1
   simp only [↓wR,RA,simprocAttr,TF]
   rw [be];refine ⟨fun h3=>?_,fun h3=>?_⟩
   ·obtain ⟨c,hc,hd1,hlt⟩:=dq (decide_eq_true h3)
    have hc0:c=[]:=List.eq_nil_of_length_eq_zero (by have:=av1 (List.mem_of_getElem? hc);rw [hnil] at this;simpa using this)
    subst hc0
    simp only [↓wR,RA,simprocAttr,TF,h3,hc];repeat (simp (disch:=omega) only [ah,bw,bz,bu,bt];try simp only [↓wR,RA,simprocAttr,TF,h3,hc])
    refine ⟨k+1,hlt,?_⟩
    first|(refine ⟨by simp;omega,?_⟩;simp)|(simp;omega)
   ·simp only [↓wR,RA,simprocAttr,TF,h3];repeat (simp (disch:=omega) only [ah,bw,bz,bu,bt];try simp only [↓wR,RA,simprocAttr,TF,h3])
    rw [hnil]
noncomputable def A3 (x:List (List UInt8) × Unit):Option AV:=if x.1.length≤16777216∧x.1.flatten.length≤134217728 then some ((r1 (cj bk)).E false (x.1.flatten)) else none
set_option maxRecDepth 2000000 in
theorem ads (x:List (List UInt8) × Unit) (r:AV) (h:A3 x=some r):bb PP 190 ((aC (cj (cj bk)) a0).E x) r:=by
 by_cases hc:x.1.length≤16777216∧x.1.flatten.length≤134217728
 case neg=>simp only [A3,if_neg hc] at h;cases h
 simp only [A3,if_pos hc] at h
 cases h
 exact ar (an.nil PP) Tryz.func190 (by kernel_rfl) (by kernel_rfl) (by kernel_rfl) (Nat.le_of_ble_eq_true (by kernel_rfl)) (r1 (cj bk)) false (x.1.flatten) (ana x.1 hc.1 hc.2)
noncomputable abbrev aw0:Nat × Bool × (List AV→M AV):=(190,true,cg (aC (cj (cj bk)) a0) A3)
theorem aos (n:Name):(kg n).length≤bq n:=by
 unfold kg nameBytes
 split
 ·exact Nat.zero_le _
 ·have:=tt n;rw [List.length_append];simp only [List.length_cons,List.length_nil];omega
noncomputable def zw (t:UInt16) (n:UInt32):List UInt8:=(y8 n).drop (4 - (cr t).size).toNat
def nv (t:UInt16):Nat→List ByteArray→List UInt8
 |_,[]=>[]
 |i,x::r=>(if (t.toNat:Int)=16∨i=0 then [UInt8.ofNat x.size] else [])++x.data.toList++nv t (i+1) r
noncomputable def um (t:UInt16) (d:bo):List UInt8:=d.nums.flatMap (zw t)
def qx (d:bo):List UInt8:=d.names.flatMap kg
def px (t:UInt16) (d:bo):List UInt8:=nv t 0 d.texts
noncomputable def mf (t:UInt16) (d:bo):List UInt8:=if (t.toNat:Int)=6 then qx d++um t d else um t d++(qx d++(px t d++d.raw))
theorem E9 (n):(y8 n).length=4:=rfl
theorem agh {α:Type} (f : α→List UInt8) (μ : α→Nat) (h:∀ x,(f x).length ≤ μ x) (l:List α):(l.flatMap f).length≤ko μ l:=by
 induction l with
 |nil=>simp
 |cons a l ih=>have:=h a;simp only [List.flatMap_cons,List.length_append,ko,List.foldr_cons] at ih ⊢;omega
theorem ajv (t:UInt16) (l:List ByteArray):∀ i,(nv t i l).length≤ko ByteArray.size l:=by
 induction l with
 |nil=>intro i;simp [nv]
 |cons a l ih=>
  intro i
  have:=ih (i+1)
  have ha:a.data.size=a.size:=rfl
  simp only [nv,List.length_append,ko,List.foldr_cons,Array.length_toList] at this ⊢
  split<;>simp<;>omega
theorem ao8 (t d):(um t d).length≤4 * d.nums.length:=by
 unfold um
 induction d.nums with
 |nil=>simp
 |cons a l ih=>
  have:(zw t a).length≤4:=by unfold zw;rw [List.length_drop,E9];omega
  simp only [List.flatMap_cons,List.length_append,List.length_cons];omega
theorem cq.written {d:bo} (h:cq d) (t):(um t d).length≤67108864∧(qx d).length≤16777216∧(px t d).length≤16777216:=by
 have h1:=ao8 t d
 have h2:(qx d).length≤ko bq d.names:=agh kg bq aos d.names
 have h3:(px t d).length≤ko ByteArray.size d.texts:=ajv t d.texts 0
 unfold cq B7 at h
 omega
theorem z8 {α:Type} {l:List α} {i:Nat} {c : α} (f : α→List UInt8) (h:l.drop i=c::l.drop (i+1)):(l.drop i).flatMap f=f c++(l.drop (i+1)).flatMap f:=by rw [h];rfl
theorem Sr (c):(y8 c).take 4=y8 c:=rfl
theorem Nl (t) (c):(y8 c).drop (4 - (cr t).size).toNat=zw t c:=rfl
theorem Wo (t:UInt16) {l:List ByteArray} {i:Nat} {c:ByteArray} (h:l.drop i=c::l.drop (i+1)):nv t i (l.drop i)=(if (t.toNat:Int)=16∨i=0 then [UInt8.ofNat c.size] else [])++c.data.toList++nv t (i+1) (l.drop (i+1)):=by rw [h];rfl
theorem arn (t:UInt16) (d:bo) (hd:cq d):wl PP [V0,ay1,aja,aw0] 0 (Tryz.f152.body.getD .skip) (ct PP Tryz.f152.results.toList (fun r st=>(r1 (cj bk)).get false st.h r=some (mf t d))) (bp 0 [cy.val false t,ba.val false d]) (bf []):=by
 have hl:=hd.lens
 have hk:=hd.written t
 have hs:=zv t
 unfold Tryz.f152
 simp only [gh,bn]
 simp only [↓wR,RA,simprocAttr,TF,Dx,Eb]
 refine gz [0,3,6,7,8,21,22,23,5] (fun (x:Nat × List UInt8)=>[.sc (.int .u16 t.toNat),.ptr 0 0,.sc (.slice none 0 0),.sc (.slice none 0 0),.ptr 1 0,.vl false 1 (d.nums.map (cf.val false)),.sc (.int .i64 (d.nums.length)),.sc (.int .i64 (x.1)),.sl 2 0 x.2.length 1]) (fun x=>[some (.row [.vl false 1 (d.names.map (ai.val false)),.vl false 1 (d.nums.map (cf.val false)),.vl false 1 (d.texts.map (ag.val false)),.vl false 1 (d.raw.map (bk.val false))] 0 2 116),some (.row [.sc (.int .i64 (cr t).names),.sc (.int .i64 (cr t).nums),.sc (.int .i64 (cr t).size),.sc (.int .i64 (cr t).texts),.sc (.int .i64 (cr t).raw)] 0 2 185),some (.row (x.2.map (bk.val false)) 0 0 5)]) (fun x=>x.1≤d.nums.length∧x.2++(d.nums.drop x.1).flatMap (zw t)=um t d) (fun x=>d.nums.length - x.1) (0,[]) ⟨Nat.zero_le _,rfl⟩ (by simp only [↓wR,RA,simprocAttr,TF];(refine jo.lax [] (by first|exact Nat.le_of_ble_eq_true rfl|(simp [di];omega)) ?_ ?_<;>repeat' first|exact er.nil|exact cp.nil|exact ft.same _|exact ft.nil _ _ _|exact ft.oi _ _|exact cp.refl _ _|apply er.cons|apply cp.ghost|apply cp.same|apply cp.row)) ?_
 rintro ⟨i,x⟩ ⟨hi,hx⟩
 simp only at hi hx
 simp only [↓wR,RA,simprocAttr,TF]
 rw [be];refine ⟨fun h=>?_,fun h=>?_⟩
 ·obtain ⟨c,hc,hd1,hlt⟩:=dq (decide_eq_true h)
  rw [z8 _ hd1] at hx
  have hxl:x.length+(zw t c).length≤(um t d).length:=by rw [← hx];simp
  simp only [↓wR,RA,simprocAttr,TF,h,hc,Nt,E9,Sr,Nl];repeat (simp (disch:=omega) only [ah,bw,bz,bu,bt];try simp only [↓wR,RA,simprocAttr,TF,h,hc,Nt,E9,Sr,Nl])
  exact ⟨(i+1,x++zw t c),⟨hlt,by rw [List.append_assoc];exact hx⟩,by simp;omega,by (first|rfl|trivial|omega|((try (simp (disch:=omega) only [ah]));(try (simp only [FB]));first|done|rfl|omega)),by (first|rfl|trivial|omega|((try (simp (disch:=omega) only [ah]));(try (simp only [FB]));first|done|rfl|omega))⟩
 rw [en (decide_eq_false h)] at hx
 obtain rfl:x=um t d:=by simpa using hx
 clear hx
 simp only [↓wR,RA,simprocAttr,TF,h]
 obtain ⟨nu,hnu⟩:∃ nu,um t d=nu:=⟨_,rfl⟩
 rw [hnu] at hk ⊢
 refine gz [0,3,7,38,39,40,5,6] (fun (x:Nat × List UInt8)=>[.sc (.int .u16 t.toNat),.ptr 0 0,.sc (.slice none 0 0),.vl false 1 (d.names.map (ai.val false)),.sc (.int .i64 (d.names.length)),.sc (.int .i64 (x.1)),.sl 1 0 nu.length 1,.sl 2 0 x.2.length 1]) (fun x=>[some (.row [.vl false 1 (d.names.map (ai.val false)),.vl false 1 (d.nums.map (cf.val false)),.vl false 1 (d.texts.map (ag.val false)),.vl false 1 (d.raw.map (bk.val false))] 0 2 116),some (.row (nu.map (bk.val false)) 0 0 5),some (.row (x.2.map (bk.val false)) 0 0 5)]) (fun x=>x.1≤d.names.length∧x.2++(d.names.drop x.1).flatMap kg=qx d) (fun x=>d.names.length - x.1) (0,[]) ⟨Nat.zero_le _,rfl⟩ (by simp only [↓wR,RA,simprocAttr,TF];(refine jo.lax [] (by first|exact Nat.le_of_ble_eq_true rfl|(simp [di];omega)) ?_ ?_<;>repeat' first|exact er.nil|exact cp.nil|exact ft.same _|exact ft.nil _ _ _|exact ft.oi _ _|exact cp.refl _ _|apply er.cons|apply cp.ghost|apply cp.same|apply cp.row)) ?_
 clear h
 rintro ⟨i,x⟩ ⟨hi,hx⟩
 simp only at hi hx
 simp only [↓wR,RA,simprocAttr,TF]
 rw [be];refine ⟨fun h=>?_,fun h=>?_⟩
 ·obtain ⟨c,hc,hd1,hlt⟩:=dq (decide_eq_true h)
  rw [z8 _ hd1] at hx
  have hxl:x.length+(kg c).length≤(qx d).length:=by rw [← hx];simp
  simp only [↓wR,RA,simprocAttr,TF,h,hc,tx,hd.name c (List.mem_of_getElem? hc)];repeat (simp (disch:=omega) only [ah,bw,bz,bu,bt];try simp only [↓wR,RA,simprocAttr,TF,h,hc,tx,hd.name c (List.mem_of_getElem? hc)])
  exact ⟨(i+1,x++kg c),⟨hlt,by rw [List.append_assoc];exact hx⟩,by simp;omega,by (first|rfl|trivial|omega|((try (simp (disch:=omega) only [ah]));(try (simp only [FB]));first|done|rfl|omega)),by (first|rfl|trivial|omega|((try (simp (disch:=omega) only [ah]));(try (simp only [FB]));first|done|rfl|omega))⟩
 rw [en (decide_eq_false h)] at hx
 obtain rfl:x=qx d:=by simpa using hx
 clear hx
 simp only [↓wR,RA,simprocAttr,TF,h]
 obtain ⟨na,hna⟩:∃ na,qx d=na:=⟨_,rfl⟩
 rw [hna] at hk ⊢
 refine gz [0,3,54,55,56,5,6,7] (fun (x:Nat × List UInt8)=>[.sc (.int .u16 t.toNat),.ptr 0 0,.vl false 1 (d.texts.map (ag.val false)),.sc (.int .i64 (d.texts.length)),.sc (.int .i64 (x.1)),.sl 1 0 nu.length 1,.sl 2 0 na.length 1,.sl 3 0 x.2.length 1]) (fun x=>[some (.row [.vl false 1 (d.names.map (ai.val false)),.vl false 1 (d.nums.map (cf.val false)),.vl false 1 (d.texts.map (ag.val false)),.vl false 1 (d.raw.map (bk.val false))] 0 2 116),some (.row (nu.map (bk.val false)) 0 0 5),some (.row (na.map (bk.val false)) 0 0 5),some (.row (x.2.map (bk.val false)) 0 0 5)]) (fun x=>x.1≤d.texts.length∧x.2++nv t x.1 (d.texts.drop x.1)=px t d) (fun x=>d.texts.length - x.1) (0,[]) ⟨Nat.zero_le _,rfl⟩ (by simp only [↓wR,RA,simprocAttr,TF];(refine jo.lax [] (by first|exact Nat.le_of_ble_eq_true rfl|(simp [di];omega)) ?_ ?_<;>repeat' first|exact er.nil|exact cp.nil|exact ft.same _|exact ft.nil _ _ _|exact ft.oi _ _|exact cp.refl _ _|apply er.cons|apply cp.ghost|apply cp.same|apply cp.row)) ?_
 clear h
 rintro ⟨i,x⟩ ⟨hi,hx⟩
 simp only at hi hx
 simp only [↓wR,RA,simprocAttr,TF]
 rw [be];refine ⟨fun h=>?_,fun h=>?_⟩
 ·obtain ⟨c,hc,hd1,hlt⟩:=dq (decide_eq_true h)
  rw [Wo _ hd1] at hx
  have hxl:x.length+((if (t.toNat:Int)=16∨i=0 then [UInt8.ofNat c.size] else []).length+c.size)≤(px t d).length:=by rw [← hx];simp
  have hcs:c.data.toList.length=c.size:=by simp
  simp only [↓wR,RA,simprocAttr,TF,h,hc];repeat (simp (disch:=omega) only [ah,bw,bz,bu,bt];try simp only [↓wR,RA,simprocAttr,TF,h,hc])
  have fin:∀ b:List UInt8,x++(b++c.data.toList++nv t (i+1) (d.texts.drop (i+1)))=px t d→x++b++c.data.toList++nv t (i+1) (d.texts.drop (i+1))=px t d:=fun b hb=>by rw [← hb];simp
  rw [b9];refine ⟨fun ⟨h16,e16⟩=>?_,fun ⟨h16,e16⟩=>?_⟩
  ·rw [if_pos (.inl e16)] at hx hxl
   simp only [List.length_cons,List.length_nil] at hxl
   simp only [↓wR,RA,simprocAttr,TF,h16];repeat (simp (disch:=omega) only [ah,bw,bz,bu,bt];try simp only [↓wR,RA,simprocAttr,TF,h16])
   exact ⟨(i+1,x++[UInt8.ofNat c.size]++c.data.toList),⟨hlt,fin _ hx⟩,by simp;omega,by (first|rfl|trivial|omega|((try (simp (disch:=omega) only [ah]));(try (simp only [FB]));first|done|rfl|omega)),by (first|rfl|trivial|omega|((try (simp (disch:=omega) only [ah]));(try (simp only [FB]));first|done|rfl|omega))⟩
  ·simp only [↓wR,RA,simprocAttr,TF,h16];repeat (simp (disch:=omega) only [ah,bw,bz,bu,bt];try simp only [↓wR,RA,simprocAttr,TF,h16])
   rw [b9];refine ⟨fun ⟨h0,e0⟩=>?_,fun ⟨h0,e0⟩=>?_⟩
   ·rw [if_pos (.inr (by omega))] at hx hxl
    simp only [List.length_cons,List.length_nil] at hxl
    simp only [↓wR,RA,simprocAttr,TF,h0];repeat (simp (disch:=omega) only [ah,bw,bz,bu,bt];try simp only [↓wR,RA,simprocAttr,TF,h0])
    exact ⟨(i+1,x++[UInt8.ofNat c.size]++c.data.toList),⟨hlt,fin _ hx⟩,by simp;omega,by (first|rfl|trivial|omega|((try (simp (disch:=omega) only [ah]));(try (simp only [FB]));first|done|rfl|omega)),by (first|rfl|trivial|omega|((try (simp (disch:=omega) only [ah]));(try (simp only [FB]));first|done|rfl|omega))⟩
   ·rw [if_neg (by omega)] at hx hxl
    simp only [List.length_nil] at hxl
    simp only [↓wR,RA,simprocAttr,TF,h0];repeat (simp (disch:=omega) only [ah,bw,bz,bu,bt];try simp only [↓wR,RA,simprocAttr,TF,h0])
    exact ⟨(i+1,x++c.data.toList),⟨hlt,by have:=fin _ hx;simpa using this⟩,by simp;omega,by (first|rfl|trivial|omega|((try (simp (disch:=omega) only [ah]));(try (simp only [FB]));first|done|rfl|omega)),by (first|rfl|trivial|omega|((try (simp (disch:=omega) only [ah]));(try (simp only [FB]));first|done|rfl|omega))⟩
 rw [en (decide_eq_false h)] at hx
 obtain rfl:x=px t d:=by simpa [nv] using hx
 clear hx
 simp only [↓wR,RA,simprocAttr,TF,h];repeat (simp (disch:=omega) only [ah,bw,bz,bu,bt];try simp only [↓wR,RA,simprocAttr,TF,h])
 unfold mf
 rw [hnu,hna]
 rw [b9];refine ⟨fun ⟨h6,e6⟩=>?_,fun ⟨h6,e6⟩=>?_⟩
 ·rw [if_pos e6]
  simp only [↓wR,RA,simprocAttr,TF,h6];repeat (simp (disch:=omega) only [ah,bw,bz,bu,bt];try simp only [↓wR,RA,simprocAttr,TF,h6])
 ·rw [if_neg e6]
  have hcat:nu.length+(na.length+((px t d).length+d.raw.length))≤134217728:=by omega
  simp only [↓wR,RA,simprocAttr,TF,h6,A3,hcat];repeat (simp (disch:=omega) only [ah,bw,bz,bu,bt];try simp only [↓wR,RA,simprocAttr,TF,h6,A3,hcat])
  rw [← List.map_append,← List.map_append,← List.map_append]
  exact ue bk false _ false _ _ rfl rfl
noncomputable def tz (x:UInt16 × bo × Unit):Option AV:=if cq x.2.1 then some ((r1 (cj bk)).E false (mf x.1 x.2.1)) else none
set_option maxRecDepth 2000000 in
theorem Fw (x:UInt16 × bo × Unit) (r:AV) (h:tz x=some r):bb PP 152 ((aC cy (aC ba a0)).E x) r:=by
 by_cases hc:cq x.2.1
 case neg=>simp only [tz,if_neg hc] at h;cases h
 simp only [tz,if_pos hc] at h
 cases h
 exact ar (an.cons (ak Dy) (an.cons (ak af4) (an.cons (ak Ug) (an.cons (ak ads) (an.nil PP))))) Tryz.func152 (by kernel_rfl) (by kernel_rfl) (by kernel_rfl) (Nat.le_of_ble_eq_true (by kernel_rfl)) (r1 (cj bk)) false (mf x.1 x.2.1) (arn x.1 x.2.1 hc)
noncomputable abbrev Sg:Nat × Bool × (List AV→M AV):=(152,true,cg (aC cy (aC ba a0)) tz)
theorem afq (d:bo) (hd:cq d):wl PP [abd,acr,ahn,A2] 0 (Tryz.f120.body.getD .skip) (ct PP Tryz.f120.results.toList (fun r st=>(r1 ba).get true st.h r=some d)) (bp 0 [ba.val false d]) (bf []):=by
 have hl:=hd.lens
 have l2:=hl.2.1
 have l3:=hl.2.2.1
 have l4:=hl.2.2.2
 unfold Tryz.f120
 simp only [gh,bn]
 simp only [↓wR,RA,simprocAttr,TF]
 refine ⟨by kernel_rfl,.inl ?_⟩
 simp only [↓wR,RA,simprocAttr,TF,ya,yf,Bj,l2,l3,l4]
 refine ⟨by kernel_rfl,?_⟩
 refine gz [2,17,18,19,3] (fun (x:List Name)=>[.ptr 0 0,.vl false 1 (d.names.map (ai.val false)),.sc (.int .i64 (d.names.length)),.sc (.int .i64 (x.length)),.ptr 1 0]) (fun x=>[some (.row [.sc (.slice none 0 0),.sc (.slice none 0 0),.sc (.slice none 0 0),.sc (.slice none 0 0)] 0 2 116),some (.row [.sl 2 0 x.length 1,.vl true 1 (d.nums.map (cf.val false)),.vl true 1 (d.texts.map (ag.val false)),.vl true 1 (d.raw.map (bk.val false))] 0 2 116),some (.row (x.map (ai.val true)) 0 0 23)]) (fun x=>x.length≤d.names.length∧x++d.names.drop x.length=d.names) (fun x=>d.names.length - x.length) [] ⟨Nat.zero_le _,rfl⟩ (by simp only [↓wR,RA,simprocAttr,TF];(refine jo.lax [] (by first|exact Nat.le_of_ble_eq_true rfl|(simp [di];omega)) ?_ ?_<;>repeat' first|exact er.nil|exact cp.nil|exact ft.same _|exact ft.nil _ _ _|exact ft.oi _ _|exact cp.refl _ _|apply er.cons|apply cp.ghost|apply cp.same|apply cp.row)) ?_
 rintro x ⟨hi,hx⟩
 simp only [↓wR,RA,simprocAttr,TF]
 rw [be];refine ⟨fun h=>?_,fun h=>?_⟩
 ·obtain ⟨c,hc,hd1,hlt⟩:=dq (decide_eq_true h)
  rw [hd1] at hx
  have hlim:(x.length+1) * 24≤140737488355328:=by omega
  simp only [↓wR,RA,simprocAttr,TF,h,hc]
  refine ⟨by kernel_rfl,.inl ?_⟩
  simp only [↓wR,RA,simprocAttr,TF,pd,hd.name c (List.mem_of_getElem? hc),hlim]
  refine ⟨by kernel_rfl,?_⟩
  exact ⟨x++[c],⟨by simp;omega,by simpa using hx⟩,by simp;omega,by (first|rfl|trivial|omega|((try (simp (disch:=omega) only [ah]));(try (simp only [FB]));first|done|rfl|omega)),by (first|rfl|trivial|omega|((try (simp (disch:=omega) only [ah]));(try (simp only [FB]));first|done|rfl|omega))⟩
 ·rw [en (decide_eq_false h)] at hx
  rw [List.append_nil] at hx
  subst hx
  simp only [↓wR,RA,simprocAttr,TF,h]
noncomputable def Cc (x:bo × Unit):Option AV:=if cq x.1 then some ((r1 ba).E true (x.1)) else none
set_option maxRecDepth 2000000 in
theorem Y8 (x:bo × Unit) (r:AV) (h:Cc x=some r):bb PP 120 ((aC ba a0).E x) r:=by
 by_cases hc:cq x.1
 case neg=>simp only [Cc,if_neg hc] at h;cases h
 simp only [Cc,if_pos hc] at h
 cases h
 exact ar (an.cons (ak Js) (an.cons (ak Ji) (an.cons (ak Lu) (an.cons (ak qj) (an.nil PP))))) Tryz.func120 (by kernel_rfl) (by kernel_rfl) (by kernel_rfl) (Nat.le_of_ble_eq_true (by kernel_rfl)) (r1 ba) true (x.1) (afq x.1 hc)
noncomputable abbrev arh:Nat × Bool × (List AV→M AV):=(120,true,cg (aC ba a0) Cc)
def py {α:Type} (f : α → α) (l:List α) (i:Nat):List α:=(l.take i).map f++l.drop i
theorem akm {α:Type} (f : α → α) (l:List α) (i:Nat):(py f l i).length=l.length:=by simp [py];omega
theorem alm {α:Type} (f : α → α) {l:List α} {i:Nat} {c : α} (h:l[i]? = some c):(py f l i)[i]? = some c:=by
 obtain ⟨hi,rfl⟩:=List.getElem?_eq_some_iff.1 h
 have hl:((l.take i).map f).length=i:=by simp;omega
 rw [py,List.getElem?_append_right (by omega),hl,Nat.sub_self,List.getElem?_drop];simp [h]
theorem aj8 {α:Type} (f : α → α) {l:List α} {i:Nat} {c : α} (h:l[i]? = some c):(py f l i).take i++[f c]++(py f l i).drop (i+1)=py f l (i+1):=by
 obtain ⟨hi,rfl⟩:=List.getElem?_eq_some_iff.1 h
 have h1:((l.take i).map f).length=i:=by simp;omega
 have h2:(py f l i).take i=(l.take i).map f:=by rw [py,List.take_append_of_le_length (by omega),List.take_of_length_le (by omega)]
 have h3:(py f l i).drop (i+1)=l.drop (i+1):=by
  rw [py,List.drop_append,List.drop_eq_nil_of_le (by omega),h1]
  simp
 rw [h2,h3,py,List.take_succ_eq_append_getElem hi,List.map_append]
 rfl
theorem akq {α:Type} (f : α → α) (l:List α):py f l l.length=l.map f:=by simp [py]
noncomputable def k8 (t:UInt16) (d:bo):bo:=if 0<(cr t).names then { d with names:=d.names.map dz } else d
theorem agp (t:UInt16) (d:bo) (hd:cq d):wl PP [V0,atn] 0 (Tryz.f180.body.getD .skip) (ct PP Tryz.f180.results.toList (fun r st=>(r1 ba).get true st.h r=some (k8 t d))) (bp 0 [cy.val false t,ba.val false d]) (bf []):=by
 have hl:=hd.lens
 have l2:=hl.2.1
 have l3:=hl.2.2.1
 have l4:=hl.2.2.2
 unfold Tryz.f180
 simp only [gh,bn]
 simp only [↓wR,RA,simprocAttr,TF]
 refine cz (T:=[abd,acr,ahn,A2]) (an.cons (ak Js) (an.cons (ak Ji) (an.cons (ak Lu) (an.cons (ak qj) (an.nil PP))))) mixed Tryz.func120 rfl (by kernel_rfl) (by kernel_rfl) (by kernel_rfl) (by kernel_rfl) ?_;unfold Tryz.f120
 simp only [↓wR,RA,simprocAttr,TF]
 refine ⟨by kernel_rfl,.inl ?_⟩
 simp only [↓wR,RA,simprocAttr,TF,ya,yf,Bj,l2,l3,l4]
 refine ⟨by kernel_rfl,?_⟩
 refine gz [2,17,18,19,3] (fun (x:List Name)=>[.ptr 2 0,.vl false 1 (d.names.map (ai.val false)),.sc (.int .i64 (d.names.length)),.sc (.int .i64 (x.length)),.ptr 3 0]) (fun x=>[some (.row [.vl false 1 (d.names.map (ai.val false)),.vl false 1 (d.nums.map (cf.val false)),.vl false 1 (d.texts.map (ag.val false)),.vl false 1 (d.raw.map (bk.val false))] 0 2 116),some (.row [.sc (.slice none 0 0),.sc (.slice none 0 0),.sc (.slice none 0 0),.sc (.slice none 0 0)] 0 2 116),some (.row [.sc (.slice none 0 0),.sc (.slice none 0 0),.sc (.slice none 0 0),.sc (.slice none 0 0)] 0 2 116),some (.row [.sl 4 0 x.length 1,.vl true 1 (d.nums.map (cf.val false)),.vl true 1 (d.texts.map (ag.val false)),.vl true 1 (d.raw.map (bk.val false))] 0 2 116),some (.row (x.map (ai.val true)) 0 0 23)]) (fun x=>x.length≤d.names.length∧x++d.names.drop x.length=d.names) (fun x=>d.names.length - x.length) [] ⟨Nat.zero_le _,rfl⟩ (by simp only [↓wR,RA,simprocAttr,TF];(refine jo.lax [] (by first|exact Nat.le_of_ble_eq_true rfl|(simp [di];omega)) ?_ ?_<;>repeat' first|exact er.nil|exact cp.nil|exact ft.same _|exact ft.nil _ _ _|exact ft.oi _ _|exact cp.refl _ _|apply er.cons|apply cp.ghost|apply cp.same|apply cp.row)) ?_
 rintro x ⟨hi,hx⟩
 simp only [↓wR,RA,simprocAttr,TF]
 rw [be];refine ⟨fun h=>?_,fun h=>?_⟩
 ·obtain ⟨c,hc,hd1,hlt⟩:=dq (decide_eq_true h)
  rw [hd1] at hx
  have hlim:(x.length+1) * 24≤140737488355328:=by omega
  simp only [↓wR,RA,simprocAttr,TF,h,hc]
  refine ⟨by kernel_rfl,.inl ?_⟩
  simp only [↓wR,RA,simprocAttr,TF,pd,hd.name c (List.mem_of_getElem? hc),hlim]
  refine ⟨by kernel_rfl,?_⟩
  exact ⟨x++[c],⟨by simp;omega,by simpa using hx⟩,by simp;omega,by (first|rfl|trivial|omega|((try (simp (disch:=omega) only [ah]));(try (simp only [FB]));first|done|rfl|omega)),by (first|rfl|trivial|omega|((try (simp (disch:=omega) only [ah]));(try (simp only [FB]));first|done|rfl|omega))⟩
 rw [en (decide_eq_false h)] at hx
 rw [List.append_nil] at hx
 subst hx
 simp only [↓wR,RA,simprocAttr,TF,h,Dx,Eb]
 unfold k8
 clear hi h
 rw [be];refine ⟨fun h0=>?_,fun h0=>?_⟩
 ·rw [if_pos h0]
  simp only [↓wR,RA,simprocAttr,TF,h0]
  refine dg [4,5,15,16,17] (fun (i:Nat)=>[.ptr 0 0,.ptr 1 0,.sl 2 0 d.names.length 1,.sc (.int .i64 (d.names.length)),.sc (.int .i64 (i))]) (fun i=>[some (.row [.sc (.slice none 0 0),.sc (.slice none 0 0),.sc (.slice none 0 0),.sc (.slice none 0 0)] 0 2 116),some (.row [.sl 2 0 d.names.length 1,.vl true 1 (d.nums.map (cf.val false)),.vl true 1 (d.texts.map (ag.val false)),.vl true 1 (d.raw.map (bk.val false))] 0 2 116),some (.row ((py dz d.names i).map (ai.val true)) 0 0 23)]) (fun i=>i≤d.names.length) (fun i=>d.names.length - i) 0 (Nat.zero_le _) (by simp only [↓wR,RA,simprocAttr,TF]<;>rfl) (by simp only [↓wR,RA,simprocAttr,TF]<;>rfl) ?_
  intro i hi
  simp only [↓wR,RA,simprocAttr,TF]
  rw [be];refine ⟨fun h=>?_,fun h=>?_⟩
  ·obtain ⟨c,hc,hd1,hlt⟩:=dq (decide_eq_true h)
   have hs:=alm dz hc
   have hlen:=akm dz d.names i
   have hlt':i+1≤d.names.length:=hlt
   simp only [↓wR,RA,simprocAttr,TF,h,hs,hlt]
   refine ⟨by kernel_rfl,.inl ?_⟩
   simp only [↓wR,RA,simprocAttr,TF,h,hlt,hlt',hlen,B6,hd.name c (List.mem_of_getElem? hc)]
   refine ⟨by kernel_rfl,i+1,hlt,by omega,by (first|rfl|trivial|omega|((try (simp (disch:=omega) only [ah]));(try (simp only [FB]));first|done|rfl|omega)),?_⟩
   rw [← aj8 dz hc];simp only [List.map_append,List.map_cons,List.map_nil]
  ·have hin:i=d.names.length:=by omega
   subst hin
   rw [akq]
   have hml:(d.names.map dz).length=d.names.length:=List.length_map _
   generalize d.names.map dz=m at hml ⊢
   simp only [↓wR,RA,simprocAttr,TF,h,hml]
   rfl
 ·rw [if_neg h0]
  simp only [↓wR,RA,simprocAttr,TF,h0]
noncomputable def Cr (x:UInt16 × bo × Unit):Option AV:=if cq x.2.1 then some ((r1 ba).E true (k8 x.1 x.2.1)) else none
set_option maxRecDepth 2000000 in
theorem Zh (x:UInt16 × bo × Unit) (r:AV) (h:Cr x=some r):bb PP 180 ((aC cy (aC ba a0)).E x) r:=by
 by_cases hc:cq x.2.1
 case neg=>simp only [Cr,if_neg hc] at h;cases h
 simp only [Cr,if_pos hc] at h
 cases h
 exact ar (an.cons (ak Dy) (an.cons (ak Zm) (an.nil PP))) Tryz.func180 (by kernel_rfl) (by kernel_rfl) (by kernel_rfl) (Nat.le_of_ble_eq_true (by kernel_rfl)) (r1 ba) true (k8 x.1 x.2.1) (agp x.1 x.2.1 hc)
noncomputable abbrev asj:Nat × Bool × (List AV→M AV):=(180,true,cg (aC cy (aC ba a0)) Cr)
def kb:List Name→Int
 | []=>0
 |n::r=>if da n≠0 then da n else kb r
noncomputable def du (t:UInt16) (d:bo):Int:=
 if mg t=true then 6 else if sf (cr t) t d=false then 7 else if kb d.names≠0 then kb d.names else if 65535<(mf t d).length then 3 else 0
theorem Pr {l:List Name} {i:Nat} {c:Name} (h:l.drop i=c::l.drop (i+1)):kb (l.drop i)=if da c≠0 then da c else kb (l.drop (i+1)):=by rw [h];rfl
theorem aad (t:UInt16) (d:bo) (hd:cq d):wl PP [axc,V0,aze,eu,Sg] 0 (Tryz.f117.body.getD .skip) (ct PP Tryz.f117.results.toList (fun r st=>(r1 (au .i64)).get true st.h r=some (du t d))) (bp 0 [cy.val false t,ba.val false d]) (bf []):=by
 have hs:=zv t
 have hl:=hd.lens
 unfold Tryz.f117
 simp only [gh,bn]
 simp only [↓wR,RA,simprocAttr,TF,Ux]
 unfold du
 rw [ca];refine ⟨fun hb=>?_,fun hb=>?_⟩
 ·rw [if_pos hb]
  simp only [↓wR,RA,simprocAttr,TF,hb]
 rw [if_neg (by rw [hb];decide)]
 simp only [↓wR,RA,simprocAttr,TF,hb]
 refine ⟨by kernel_rfl,.inl ?_⟩
 simp only [↓wR,RA,simprocAttr,TF,Dx,Kg,hs,hd]
 refine ⟨by kernel_rfl,?_⟩
 rw [ca];refine ⟨fun hf=>?_,fun hf=>?_⟩
 ·rw [if_pos (by simpa using hf)]
  simp only [↓wR,RA,simprocAttr,TF,hf]
 have hf':sf (cr t) t d=true:=by simpa using hf
 rw [if_neg (by rw [hf'];decide)]
 simp only [↓wR,RA,simprocAttr,TF,hf]
 refine dg [0,3,17,18,19] (fun (i:Nat)=>[.sc (.int .u16 t.toNat),.ptr 0 0,.vl false 1 (d.names.map (ai.val false)),.sc (.int .i64 (d.names.length)),.sc (.int .i64 (i))]) (fun _=>[some (.row [.vl false 1 (d.names.map (ai.val false)),.vl false 1 (d.nums.map (cf.val false)),.vl false 1 (d.texts.map (ag.val false)),.vl false 1 (d.raw.map (bk.val false))] 0 2 116)]) (fun i=>i≤d.names.length∧kb d.names=kb (d.names.drop i)) (fun i=>d.names.length - i) 0 ⟨Nat.zero_le _,rfl⟩ (by simp only [↓wR,RA,simprocAttr,TF]<;>rfl) (by simp only [↓wR,RA,simprocAttr,TF]<;>rfl) ?_
 rintro i ⟨hi,hx⟩
 simp only [↓wR,RA,simprocAttr,TF]
 rw [be];refine ⟨fun h=>?_,fun h=>?_⟩
 ·obtain ⟨c,hc,hd1,hlt⟩:=dq (decide_eq_true h)
  rw [Pr hd1] at hx
  simp only [↓wR,RA,simprocAttr,TF,h,hc,o0,(hd.name c (List.mem_of_getElem? hc)).fit]
  rw [ca];refine ⟨fun h1=>?_,fun h1=>?_⟩
  ·have he:da c≠0:=by simpa using h1
   rw [if_pos he] at hx
   rw [if_pos (by rw [hx];exact he),hx]
   simp only [↓wR,RA,simprocAttr,TF,h1]
  ·have he:da c=0:=by simpa using h1
   rw [if_neg (by omega)] at hx
   simp only [↓wR,RA,simprocAttr,TF,h1];repeat (simp (disch:=omega) only [ah,bw,bz,bu,bt];try simp only [↓wR,RA,simprocAttr,TF,h1])
   exact ⟨i+1,⟨hlt,hx⟩,by omega,by (first|rfl|trivial|omega|((try (simp (disch:=omega) only [ah]));(try (simp only [FB]));first|done|rfl|omega))⟩
 rw [en (decide_eq_false h)] at hx
 rw [if_neg (by rw [hx];decide)]
 simp only [↓wR,RA,simprocAttr,TF,h,tz,hd]
 rw [be];refine ⟨fun h2=>?_,fun h2=>?_⟩
 ·rw [if_pos (by omega)]
  simp only [↓wR,RA,simprocAttr,TF,h2]
 ·rw [if_neg (by omega)]
  simp only [↓wR,RA,simprocAttr,TF,h2]
noncomputable def re (x:UInt16 × bo × Unit):Option AV:=if cq x.2.1 then some ((r1 (au .i64)).E true (du x.1 x.2.1)) else none
set_option maxRecDepth 2000000 in
theorem A1 (x:UInt16 × bo × Unit) (r:AV) (h:re x=some r):bb PP 117 ((aC cy (aC ba a0)).E x) r:=by
 by_cases hc:cq x.2.1
 case neg=>simp only [re,if_neg hc] at h;cases h
 simp only [re,if_pos hc] at h
 cases h
 exact ar (an.cons (ak agb) (an.cons (ak Dy) (an.cons (ak akb) (an.cons (ak pj) (an.cons (ak Fw) (an.nil PP)))))) Tryz.func117 (by kernel_rfl) (by kernel_rfl) (by kernel_rfl) (Nat.le_of_ble_eq_true (by kernel_rfl)) (r1 (au .i64)) true (du x.1 x.2.1) (aad x.1 x.2.1 hc)
noncomputable abbrev J9:Nat × Bool × (List AV→M AV):=(117,true,cg (aC cy (aC ba a0)) re)
noncomputable def Ep (t:UInt16) (d:bo):List UInt8:=if du t d≠0 then [] else mf t d
theorem aaf (t:UInt16) (d:bo) (hd:cq d):wl PP [J9,Sg] 0 (Tryz.f179.body.getD .skip) (ct PP Tryz.f179.results.toList (fun r st=>(r2 (cj bk) (au .i64)).get false st.h r=some (Ep t d,du t d))) (bp 0 [cy.val false t,ba.val false d]) (bf []):=by
 unfold Tryz.f179
 simp only [gh,bn]
 simp only [↓wR,RA,simprocAttr,TF,re,hd]
 unfold Ep
 rw [ca];refine ⟨fun h=>?_,fun h=>?_⟩
 ·have he:du t d≠0:=by simpa using h
  rw [if_pos he]
  simp only [↓wR,RA,simprocAttr,TF,h]
 ·have he:du t d=0:=by simpa using h
  rw [if_neg (by omega)]
  simp only [↓wR,RA,simprocAttr,TF,h,tz,hd,he]
noncomputable def zq (x:UInt16 × bo × Unit):Option AV:=if cq x.2.1 then some ((r2 (cj bk) (au .i64)).E false ((Ep x.1 x.2.1,du x.1 x.2.1))) else none
set_option maxRecDepth 2000000 in
theorem U2 (x:UInt16 × bo × Unit) (r:AV) (h:zq x=some r):bb PP 179 ((aC cy (aC ba a0)).E x) r:=by
 by_cases hc:cq x.2.1
 case neg=>simp only [zq,if_neg hc] at h;cases h
 simp only [zq,if_pos hc] at h
 cases h
 exact ar (an.cons (ak A1) (an.cons (ak Fw) (an.nil PP))) Tryz.func179 (by kernel_rfl) (by kernel_rfl) (by kernel_rfl) (Nat.le_of_ble_eq_true (by kernel_rfl)) (r2 (cj bk) (au .i64)) false ((Ep x.1 x.2.1,du x.1 x.2.1)) (aaf x.1 x.2.1 hc)
noncomputable abbrev aod:Nat × Bool × (List AV→M AV):=(179,true,cg (aC cy (aC ba a0)) zq)
theorem aqd (args:List AV):De PP 203 args (Cx.kl args):=
 Cx.D4 (fn:=(PP.funcs[203]?).getD default) (by kernel_rfl) (by kernel_rfl) (by kernel_rfl) (by kernel_rfl) (by kernel_rfl) args
noncomputable abbrev aw5:Nat × Bool × (List AV→M AV):=(203,true,Cx.kl)
theorem avz:an PP [aw5]:=an.cons aqd (an.nil PP)
noncomputable def Wa (a b:List UInt8):Int:=Lib.compareBytes a b
theorem Rq (a b:List UInt8):wl PP [aw5] 0 (Tryz.f181.body.getD .skip) (ct PP Tryz.f181.results.toList (fun r st=>(r1 (au .i64)).get true st.h r=some (Wa a b))) (bp 0 [(cj bk).val false a,(cj bk).val false b]) (bf []):=by
 unfold Tryz.f181
 simp only [nh]
 simp only [↓wR,RA,simprocAttr,TF,Wa]
noncomputable def xb (x:List UInt8 × List UInt8 × Unit):Option AV:=some ((r1 (au .i64)).E true (Wa x.1 x.2.1))
theorem Nz (x:List UInt8 × List UInt8 × Unit) (r:AV) (h:xb x=some r):bb PP 181 ((aC (cj bk) (aC (cj bk) a0)).E x) r:=by
 cases h
 exact ar avz Tryz.func181 (by kernel_rfl) (by kernel_rfl) (by kernel_rfl) (Nat.le_of_ble_eq_true (by kernel_rfl)) (r1 (au .i64)) true (Wa x.1 x.2.1) (Rq x.1 x.2.1)
noncomputable abbrev adn:Nat × Bool × (List AV→M AV):=(181,true,cg (aC (cj bk) (aC (cj bk) a0)) xb)
theorem Fh (s:ByteArray):(fold s).size=s.size:=by
 show (s.data.toList.map low).toArray.size=s.data.size
 simp
theorem Ae (n:Name):bq (dz n)=bq n:=by
 unfold bq dz
 rw [List.foldl_map]
 simp only [Fh]
theorem aqp (l:List Name):ko bq (l.map dz)=ko bq l:=by
 induction l with
 |nil=>rfl
 |cons a l ih=>simp only [ko,List.map_cons,List.foldr_cons,Ae] at ih ⊢;rw [ih]
theorem cq.fold {d:bo} (h:cq d) (t:UInt16):cq (k8 t d):=by
 unfold k8
 split
 ·unfold cq B7 at *
  simp only [aqp];exact h
 ·exact h
noncomputable def A8 (t:UInt16) (a b:bo):Int:=if du t (k8 t a)≠0∨du t (k8 t b)≠0 then 0 else Wa (Ep t (k8 t a)) (Ep t (k8 t b))
noncomputable def wx (t:UInt16) (a b:bo):Bool:=decide (du t a=0) && decide (du t b=0) && decide (A8 t a b=0)
theorem V8 (t:UInt16) (a b:bo) (ha:cq a) (hb:cq b):wl PP [asj,aod,adn] 0 (Tryz.f140.body.getD .skip) (ct PP Tryz.f140.results.toList (fun r st=>(r1 (au .i64)).get true st.h r=some (A8 t a b))) (bp 0 [cy.val false t,ba.val false a,ba.val false b]) (bf []):=by
 have fa:=ha.fold t
 have fb:=hb.fold t
 unfold Tryz.f140
 simp only [gh,bn]
 simp only [↓wR,RA,simprocAttr,TF,Cr,zq,xb,ha,hb,fa,fb]
 unfold A8
 rw [ca];refine ⟨fun h=>?_,fun h=>?_⟩
 ·have he:du t (k8 t a)≠0:=by simpa using h
  rw [if_pos (.inl he)]
  simp only [↓wR,RA,simprocAttr,TF,h]
 have he:du t (k8 t a)=0:=by simpa using h
 simp only [↓wR,RA,simprocAttr,TF,h]
 rw [ca];refine ⟨fun h2=>?_,fun h2=>?_⟩
 ·have he2:du t (k8 t b)≠0:=by simpa using h2
  rw [if_pos (.inr he2)]
  simp only [↓wR,RA,simprocAttr,TF,h2]
 ·have he2:du t (k8 t b)=0:=by simpa using h2
  rw [if_neg (by omega)]
  simp only [↓wR,RA,simprocAttr,TF,h2,xb]
noncomputable def ml (x:UInt16 × bo × bo × Unit):Option AV:=if cq x.2.1∧cq x.2.2.1 then some ((r1 (au .i64)).E true (A8 x.1 x.2.1 x.2.2.1)) else none
set_option maxRecDepth 2000000 in
theorem Em (x:UInt16 × bo × bo × Unit) (r:AV) (h:ml x=some r):bb PP 140 ((aC cy (aC ba (aC ba a0))).E x) r:=by
 by_cases hc:cq x.2.1∧cq x.2.2.1
 case neg=>simp only [ml,if_neg hc] at h;cases h
 simp only [ml,if_pos hc] at h
 cases h
 exact ar (an.cons (ak Zh) (an.cons (ak U2) (an.cons (ak Nz) (an.nil PP)))) Tryz.func140 (by kernel_rfl) (by kernel_rfl) (by kernel_rfl) (Nat.le_of_ble_eq_true (by kernel_rfl)) (r1 (au .i64)) true (A8 x.1 x.2.1 x.2.2.1) (V8 x.1 x.2.1 x.2.2.1 hc.1 hc.2)
noncomputable abbrev Gj:Nat × Bool × (List AV→M AV):=(140,true,cg (aC cy (aC ba (aC ba a0))) ml)
theorem afc (t:UInt16) (a b:bo) (ha:cq a) (hb:cq b):wl PP [J9,Gj] 0 (Tryz.f159.body.getD .skip) (ct PP Tryz.f159.results.toList (fun r st=>(r1 bd).get true st.h r=some (wx t a b))) (bp 0 [cy.val false t,ba.val false a,ba.val false b]) (bf []):=by
 unfold Tryz.f159
 simp only [gh,bn]
 simp only [↓wR,RA,simprocAttr,TF,re,ha,hb]
 unfold wx
 rw [b9];refine ⟨fun ⟨h,e⟩=>?_,fun ⟨h,e⟩=>?_⟩
 ·rw [decide_eq_true e]
  simp only [↓wR,RA,simprocAttr,TF,h,re,ha,hb]
  rw [b9];refine ⟨fun ⟨h2,e2⟩=>?_,fun ⟨h2,e2⟩=>?_⟩
  ·rw [decide_eq_true e2]
   simp only [↓wR,RA,simprocAttr,TF,h2,ml,ha,hb]
   rfl
  ·rw [decide_eq_false e2]
   simp only [↓wR,RA,simprocAttr,TF,h2]
   rfl
 ·rw [decide_eq_false e]
  simp only [↓wR,RA,simprocAttr,TF,h]
  rfl
noncomputable def Cs (x:UInt16 × bo × bo × Unit):Option AV:=if cq x.2.1∧cq x.2.2.1 then some ((r1 bd).E true (wx x.1 x.2.1 x.2.2.1)) else none
set_option maxRecDepth 2000000 in
theorem Ze (x:UInt16 × bo × bo × Unit) (r:AV) (h:Cs x=some r):bb PP 159 ((aC cy (aC ba (aC ba a0))).E x) r:=by
 by_cases hc:cq x.2.1∧cq x.2.2.1
 case neg=>simp only [Cs,if_neg hc] at h;cases h
 simp only [Cs,if_pos hc] at h
 cases h
 exact ar (an.cons (ak A1) (an.cons (ak Em) (an.nil PP))) Tryz.func159 (by kernel_rfl) (by kernel_rfl) (by kernel_rfl) (Nat.le_of_ble_eq_true (by kernel_rfl)) (r1 bd) true (wx x.1 x.2.1 x.2.2.1) (afc x.1 x.2.1 x.2.2.1 hc.1 hc.2)
noncomputable abbrev aqw:Nat × Bool × (List AV→M AV):=(159,true,cg (aC cy (aC ba (aC ba a0))) Cs)
end Go.Proofs.YtjagjbceegbaiaaGreat
end
section
set_option maxRecDepth 100000
namespace Go.Vm
variable [TK]
noncomputable section
theorem M4 {α:Type} (C:c8 α) (fr:Bool) (h:Tr bh) (l:List AV) (ha:C.agg=true):C.dec fr h l=C.gy fr h (.agg l):=by
 rw [xn _ _ _ _ rfl (by rw [ha];rfl)];rfl
theorem akt {α β:Type} (A:c8 α) (B:c8 β) (fr:Bool) (h:Tr bh) (l:List AV):(kr A B).dec fr h l=match A.dec fr h (l.take A.sz),B.dec fr h (l.drop A.sz) with|some x,some y=>some (x,y)|_,_=>none:=rfl
theorem Z5 {α:Type} (C:c8 α) (fr h) (x:AV):(cj C).dec fr h [x]=gx C fr h x:=rfl
theorem Zz (fr h) (x:AV):ai.dec fr h [x]=gx ag fr h x:=rfl
theorem ako {P:Program} {T:dv} {l:Nat} {az:Nat} {L:SL} {st:St} {Q:QI} {ps:List Tmp} {ra rb:Code} {L0:SL} {α:Type} {b:Code} (keep:List Nat) (V : α→List AV) (O : α→List (Option bh)) (I : α→Prop) (μ : α→Nat) (x : α) (hx:I x)
 (hv:jo az (gv az keep L st) (ey az keep L st) (V x) (O x))
 (step:∀ x,I x→oq P T l (nb ps (fun p=>wl P T p ra) (fun p=>wl P T p rb) L0) az b (yx (vw az keep (fun vs os=>∃ y,I y ∧ μ y < μ x∧vs=V y∧os=O y) (fun _ _ _=>False)) Q) none (ic keep (V x)) (bf (O x))):oq P T l (nb ps (fun p=>wl P T p ra) (fun p=>wl P T p rb) L0) az (.loop b) Q none L st:=by
 have mono:∀ (Q1 Q2:QL),(∀ e L st,Q1 e L st→Q2 e L st)→∀ L st,oq P T l (nb ps (fun p=>wl P T p ra) (fun p=>wl P T p rb) L0) az b (yx Q1 Q) none L st→oq P T l (nb ps (fun p=>wl P T p ra) (fun p=>wl P T p rb) L0) az b (yx Q2 Q) none L st:=fun Q1 Q2 h L st hh=>Qg (Od P T) b _ _ (fun e pe L st q=>by
  cases e with
  |normal=>exact ⟨q.1,h _ _ _ q.2⟩
  |ret=>exact q
  |exit i=>exact q) none L st hh
 refine ⟨rfl,se.asi (B:=fun Q' L st=>oq P T l _ az b (yx Q' Q) none L st) keep V O I μ x hx hv mono (fun x hi=>mono _ _ (fun e L' st' hq=>?_) _ _ (step x hi))⟩
 cases e with
 |normal=>
  obtain ⟨y,h1,h2,h3,h4⟩:=hq
  refine ⟨y,h1,h2,?_⟩
  rw [h3,h4];exact .refl _ _ _
 |exit i=>exact hq.elim
 |ret=>exact hq.elim
theorem Jz (k fr h n cells kk st et) (hn:n=cells.length) (hro:F7 fr st 1 (.int k) et=true):mr (au k) fr h 0 n (.row cells kk st et)=pr (au k) fr h cells:=vn (au k) rfl fr h n cells kk st et hn hro
def i6 (n:Nat) (r:AV) (st:St):List Nat:=reach st.h fk (r.names++nf st.h (dw 0 n)) (dw 0 n)
def jq (n:Nat) (r:AV) (st:St):AV:=r.dm (fun o=>idx (i6 n r st) o 0)
def jk (n:Nat) (r:AV) (st:St):St:=bf (j7 st.h (fun o=>idx (i6 n r st) o 0) (i6 n r st))
theorem ahw {g g':Gh} {st st':St} {w w':World} {r:AV} {v:Value} (hn:st.nx≤1000) (hfr:∀ o,st.nx≤o→g.inj o=none) (hs:Step g st.h w st.nx st'.nx g' st'.h w') (hok:Ok g' st'.h w') (hr:Rel g' w' r v) :
 ∃ g'',st.nx≤(jk st.nx r st').nx∧Step g st.h w st.nx (jk st.nx r st').nx g'' (jk st.nx r st').h w'∧Ok g'' (jk st.nx r st').h w'∧Rel g'' w' (jq st.nx r st') v:=by
 have hN:=xr st'.h fk (r.names++nf st'.h (dw 0 st.nx)) (dw 0 st.nx) (p9 _ _)
 change (i6 st.nx r st').Nodup∧(∃ q,i6 st.nx r st'=dw 0 st.nx++q)∧(i6 st.nx r st').length≤_ at hN
 have hτ:∀ o p,(fun o=>idx (i6 st.nx r st') o 0) o=some p→(i6 st.nx r st')[p]? = some o:=fun o p h=>Uw _ o p h
 unfold jk jq
 generalize i6 st.nx r st'=N at hN hτ
 obtain ⟨hnd,⟨rest,hpre⟩,hlen⟩:=hN
 rw [ja] at hlen
 have hlim:N.length≤di:=by simp only [fk,di] at *;omega
 have ed:∀ i x,(bf (j7 st'.h (fun o=>idx N o 0) N)).h.get i=some x→∃ o y,N[i]? = some o∧st'.h.get o=some y∧y.dm (fun o=>idx N o 0)=some x:=by
  intro i x hx
  simp only [bf] at hx
  rw [u7 _ _ _ (by rw [i7];omega),if_pos (Nat.zero_le _),Nat.sub_zero,vk] at hx
  cases hi:N[i]? with
  |none=>rw [hi] at hx;cases hx
  |some o=>
   rw [hi] at hx
   simp only [Option.map_some,Option.join_some] at hx
   cases hy:st'.h.get o with
   |none=>rw [hy] at hx;cases hx
   |some y=>rw [hy] at hx;exact ⟨o,y,rfl,hy,hx⟩
 have hinj:∀ i o,N[i]? = some o→(g'.dm N).inj i=g'.inj o:=fun i o h=>by simp [Gh.dm,h]
 have hlow:∀ o,o<st.nx→N[o]? = some o:=fun o ho=>by rw [hpre,List.getElem?_append_left (by rw [ja];exact ho),Df _ _ _ ho,Nat.zero_add]
 have hnx:(bf (j7 st'.h (fun o=>idx N o 0) N)).nx=N.length:=by simp only [bf,i7]
 have hle:st.nx≤N.length:=by rw [hpre,List.length_append,ja];omega
 rw [hnx]
 refine ⟨g'.dm N,hle,⟨⟨hs.ext.b0,fun o p ho=>?_,hs.ext.K,hs.ext.cell,hs.ext.sg,hs.ext.lp,hs.ext.whole⟩,hs.size,hs.os,hs.tape,hs.output,hs.frame,fun o ho hr=>?_,fun i b base hi hj=>?_,hs.oj⟩,⟨hok.size,fun i x hx=>?_,fun i j x y b base base' hij hx hy hb hb'=>?_,hok.K⟩,hr.dm hτ⟩
 ·have hlt:o<st.nx:=by
   rcases Nat.lt_or_ge o st.nx with h|h
   ·exact h
   ·rw [hfr o h] at ho;cases ho
  rw [hinj o o (hlow o hlt)];exact hs.ext.inj o p ho
 ·rcases Nat.lt_or_ge o st.nx with h|h
  ·rw [hinj o o (hlow o h)];exact hs.fresh o ho (by omega)
  ·simp [Gh.dm,List.getElem?_eq_none (show N.length≤o by omega)]
 ·obtain ⟨x,hx⟩:=Option.isSome_iff_exists.1 hi
  obtain ⟨o,y,h1,h2,_⟩:=ed i x hx
  rw [hinj i o h1] at hj
  exact hs.own o b base (by rw [h2];rfl) hj
 ·obtain ⟨o,y,h1,h2,h3⟩:=ed i x hx
  refine (hok.qg o y h2).imp (fun q=>⟨by rw [hinj i o h1];exact q.1,by obtain ⟨s0,e0,rfl⟩:=q.2;simp only [bh.dm,AV.dm.go,Option.some.injEq] at h3;exact ⟨s0,e0,h3.symm⟩⟩) ?_
  rintro ⟨b,base,q1,q2,q3⟩
  exact ⟨b,base,by rw [hinj i o h1];exact q1,q2,q3.dm hτ h3⟩
 ·obtain ⟨o,y1,h1,h2,_⟩:=ed i x hx
  obtain ⟨o',y2,h1',h2',_⟩:=ed j y hy
  rw [hinj i o h1] at hb
  rw [hinj j o' h1'] at hb'
  have hne:o≠o':=by
   intro e
   subst e
   obtain ⟨hi,ei⟩:=List.getElem?_eq_some_iff.1 h1
   obtain ⟨hj,ej⟩:=List.getElem?_eq_some_iff.1 h1'
   exact hij ((List.getElem_inj hnd).1 (ei.trans ej.symm))
  exact hok.sep o o' _ _ b base base' hne h2 h2' hb hb'
theorem fc {P:Program} {f:Nat} {args:List AV} {st:St} {R:AV→St→Prop} (R0:AV→St→Prop) (hn:Nat.ble st.nx 1000=true) (h1:zt P f args st (fun r st'=>R0 (jq st.nx r st') (jk st.nx r st'))) (h2:∀ r st',R0 r st'→R r st'):zt P f args st R:=by
 intro g w vs hok hfr hrel
 rcases h1 g w vs hok hfr hrel with ⟨v,w',g',r,st',q1,q2,q3,q4,q5,q6⟩|⟨q1,q2⟩
 ·obtain ⟨g'',p1,p2,p3,p4⟩:=ahw (Nat.le_of_ble_eq_true hn) hfr q4 q5 q6
  exact .inl ⟨v,w',g'',_,_,q1,h2 _ _ q2,p1,p2,p3,p4⟩
 ·refine .inr ⟨q1,q2.mono ?_⟩
  rintro e w' ⟨v,g',r,st',rfl,q2,q3,q4,q5,q6⟩
  obtain ⟨g'',p1,p2,p3,p4⟩:=ahw (Nat.le_of_ble_eq_true hn) hfr q4 q5 q6
  exact ⟨v,g'',_,_,rfl,h2 _ _ q2,p1,p2,p3,p4⟩
theorem Jh (l) (n:Name):j3 (ai.val l n)=some n.length:=by
 rw [bn];show some (List.map (ag.val l) n).length=_;rw [List.length_map]
theorem ai4 (a b:Operand):(#[a]++(none:Option Operand).toArray++(some b).toArray++(none:Option Operand).toArray).toList=[a,b]:=id rfl
theorem ahp (a b:Operand):(#[a]++(some b).toArray++(none:Option Operand).toArray++(none:Option Operand).toArray).toList=[a,b]:=id rfl
theorem dv4 : 4 / 4=1:=rfl
theorem dv5 : 5 / 5=1:=rfl
theorem ain (k fr h n):(au k).dec fr h [.sc (.int k n)]=some n:=(au k).rt fr h true n (fun _=>rfl)
theorem Ju (l:Bool) (d:bo):(ba.val l d).cells=[.vl l 1 (d.names.map (ai.val l)),.vl l 1 (d.nums.map (cf.val l)),.vl l 1 (d.texts.map (ag.val l)),.vl l 1 (d.raw.map (bk.val l))]:=id rfl
theorem Mj (fr h l) (n:Name) (hl:(l || !fr)=true):gx ag fr h (ai.val l n)=some n:=ue ag fr h l n 1 rfl hl
def abi {α:Type} (C:c8 α) (h:Tr bh) (off:Nat) (x:bh):Option α:=
 match x with
 |.row cells _ _ _=>bif Nat.ble (off+C.sz) cells.length then C.dec false h ((cells.drop off).take C.sz) else none
 |_=>none
def Wi {α:Type} (C:c8 α) (h:Tr bh) (a:AV):Option α:=
 match a with
 |.dj l=>bif Nat.ble C.sz l.length then C.dec false h (l.take C.sz) else none
 |.ptr o off=>(h.get o).bind (abi C h off)
 |_=>none
theorem Qf {α:Type} (C:c8 α) (h o off):Wi C h (.ptr o off)=(h.get o).bind (abi C h off):=id rfl
theorem Fa {α:Type} (C:c8 α) (h l):Wi C h (.dj l)=bif Nat.ble C.sz l.length then C.dec false h (l.take C.sz) else none:=id rfl
theorem Qu {α:Type} (C:c8 α) (h off cells k s e):abi C h off (.row cells k s e)=bif Nat.ble (off+C.sz) cells.length then C.dec false h ((cells.drop off).take C.sz) else none:=id rfl
theorem awg {α:Type} (C:c8 α) {g h w K b0 a v x} (hok:Ok g h w) (hl:uq g h K) (hr:Rel g w a v) (hd:Wi C h a=some x):Rel (gK b0 K) w (.dj (C.cells false x)) v:=by
 have fin:∀ (b off:Nat) (vs:List Value),bm g w ((C.cells false x).map fun _=>AV.bad) vs→bm (gK b0 K) w (C.cells false x) vs→(∀ j u,vs[j]? = some u→K b (off+j)∧w.cell? ⟨b,off+j,none⟩=some u)→Rel (gK b0 K) w (.dj (C.cells false x)) (.pointer (some ⟨b,off,none⟩)):=by
  intro b off vs _ hrl hc
  refine .dj _ b off (fun j=>vs.getD j undef) (fun j a hj=>?_) (fun j a hj=>?_)
  ·obtain ⟨u,hu,_⟩:=hrl.get hj
   have:=hc j u hu
   exact ⟨this.1,by rw [this.2,List.getD_eq_getElem?_getD,hu];rfl⟩
  ·obtain ⟨u,hu,hrel⟩:=hrl.get hj
   show Rel _ _ a (vs.getD j undef)
   rw [List.getD_eq_getElem?_getD,hu];exact hrel
 have bads:∀ vs:List Value,bm (gK b0 K) w (C.cells false x) vs→bm g w ((C.cells false x).map fun _=>AV.bad) vs:=fun vs h=>⟨by simpa using h.1,fun i a v ha _=>by
  rw [List.getElem?_map,Option.map_eq_some_iff] at ha
  obtain ⟨_,_,rfl⟩:=ha
  exact .bad _⟩
 cases hr with
 |dj l b off c h1 h2=>
  rw [Fa] at hd
  cases hb:Nat.ble C.sz l.length with
  |false=>rw [hb] at hd;cases hd
  |true=>
   rw [hb,cond_true] at hd
   have hle:=Nat.le_of_ble_eq_true hb
   have hlist:bm g w (l.take C.sz) (jy 0 C.sz c):=by
    refine ⟨by simp [jy];omega,fun i a v ha hv=>?_⟩
    rw [List.getElem?_take] at ha
    by_cases hi:i<C.sz
    ·rw [if_pos hi] at ha
     simp only [jy,List.getElem?_map,List.getElem?_range hi,Option.map_some,Option.some.injEq,Nat.zero_add] at hv
     subst hv
     exact h2 i a ha
    ·rw [if_neg hi] at ha;cases ha
   have q:=C.ok (b0:=b0) hok hl (fun e=>by cases e) hlist hd
   refine fin b off _ (bads _ q) q (fun j u hu=>?_)
   have hj:j<C.sz:=by have:=(List.getElem?_eq_some_iff.1 hu).1;simpa [jy] using this
   simp only [jy,List.getElem?_map,List.getElem?_range hj,Option.map_some,Option.some.injEq,Nat.zero_add] at hu
   subst hu
   have:=h1 j _ (List.getElem?_eq_getElem (by omega))
   exact ⟨hl.K _ _ this.1,this.2⟩
 |ptr o off b base hi=>
  rw [Qf,Option.bind_eq_some_iff] at hd
  obtain ⟨y,hy,hd⟩:=hd
  obtain ⟨b',base',hi',hbb,hrow⟩:=hok.obj o y hy
  rw [hi] at hi';cases hi'
  cases y with
  |map es=>cases hd
  |loop=>cases hd
  |row cells k st et=>
   rw [Qu] at hd
   cases hle:Nat.ble (off+C.sz) cells.length with
   |false=>rw [hle] at hd;cases hd
   |true=>
    rw [hle,cond_true] at hd
    have hle':=Nat.le_of_ble_eq_true hle
    obtain ⟨cs,fz,r1,r2,r3,_⟩:=hrow
    have hpart:bm g w ((cells.drop off).take C.sz) (jy (base+off) C.sz (fun j=>cs.getD j undef)):=by
     refine ⟨by simp [jy];omega,fun i a v ha hv=>?_⟩
     rw [List.getElem?_take,List.getElem?_drop] at ha
     by_cases hil:i<C.sz
     ·rw [if_pos hil] at ha
      obtain ⟨u,hu,hrel⟩:=r3 _ a ha
      simp only [jy,List.getElem?_map,List.getElem?_range hil,Option.map_some,Option.some.injEq] at hv
      subst hv
      rw [Array.getD_eq_getD_getElem?,Nat.add_assoc,hu]
      exact hrel
     ·rw [if_neg hil] at ha;cases ha
    have q:=C.ok (b0:=b0) hok hl (fun e=>by cases e) hpart hd
    refine fin b (base+off) _ (bads _ q) q (fun j u hv=>?_)
    have hj:j<C.sz:=by have:=(List.getElem?_eq_some_iff.1 hv).1;simpa [jy] using this
    simp only [jy,List.getElem?_map,List.getElem?_range hj,Option.map_some,Option.some.injEq] at hv
    obtain ⟨u,hu,_⟩:=r3 (off+j) (cells[off+j]'(by omega)) (by simp)
    have hrows:=hl.rows o cells k st et hy b base hi (off+j) (.inr (by omega))
    rw [← Nat.add_assoc] at hrows hu
    refine ⟨hrows,?_⟩
    rw [ku r1,hu,← hv,Array.getD_eq_getD_getElem?,hu]
    rfl
 |_=>cases hd
def aP {α β:Type} (C:c8 α) (R:AC β):AC (α × β) where
 E p:=.dj (C.cells false p.1)::R.E p.2
 D h l:=match l with
  | []=>none
  |a::r=>match Wi C h a,R.D h r with
   |some x,some y=>some (x,y)
   |_,_=>none
 rt h p:=by
  have:Wi C h (.dj (C.cells false p.1))=some p.1:=by
   rw [Fa,C.len,Nat.ble_self_eq_true,cond_true,List.take_of_length_le (by rw [C.len];exact Nat.le_refl _)]
   exact C.rt false h false p.1 (fun e=>by cases e)
  simp only [this,R.rt]
 ok:=by
  intro g h w K b0 l vs x hok hl hr hd
  match l,hd with
  |a::r,hd=>
   simp only at hd
   split at hd
   ·rename_i x1 y1 hx hy
    simp at hd;subst hd
    match vs,hr with
    | [],hr=>have:=hr.1;simp at this
    |v::vs,hr=>exact bm.cons (awg C hok hl hr.head hx) (R.ok hok hl hr.tail hy)
   ·cases hd
theorem ayt {α β:Type} (C:c8 α) (R:AC β) (h:Tr bh) (a:AV) (r:List AV):(aP C R).get h (a::r)=match Wi C h a,R.get h r with|some x,some y=>some (x,y)|_,_=>none:=id rfl
theorem Jm (f) (l:List bo) (d:bo):cellsOf ba f (l++[d])=cellsOf ba f l++[.vl f 1 (d.names.map (ai.val f)),.vl f 1 (d.nums.map (cf.val false)),.vl f 1 (d.texts.map (ag.val false)),.vl f 1 (d.raw.map (bk.val false))]:=by rw [Oa,Ow];rfl
structure bj where
 owner:Name
 type:UInt16
 cls:UInt16
 j9:UInt32
 data:List bo
def mkS (owner:Name) (type:UInt16) (cls:UInt16) (j9:UInt32) (data:List bo):bj:=⟨owner,type,cls,j9,data⟩
theorem aif (x:bj):mkS x.owner x.type x.cls x.j9 x.data=x:=id rfl
def aq:c8 bj:=zc (kr ai (kr cy (kr cy (kr cf (cj ba))))) (fun x=>(x.owner,x.type,x.cls,x.j9,x.data)) (fun p=>⟨p.1,p.2.1,p.2.2.1,p.2.2.2.1,p.2.2.2.2⟩) (fun _=>rfl) (fun _=>rfl)
theorem jb (l:Bool) (x:bj):aq.val l x = .agg [.vl l 1 (x.owner.map (ag.val l)),.sc (.int .u16 x.type.toNat),.sc (.int .u16 x.cls.toNat),.sc (.int .u32 x.j9.toNat),.vl l 4 (x.data.map (ba.val l))]:=id rfl
theorem X1:aq.sz=5:=id rfl
theorem Sc (fr:Bool) (h:Tr bh) (y0 y1 y2 y3 y4:AV):aq.gy fr h (.agg [y0,y1,y2,y3,y4])=match gx ag fr h y0,cy.dec fr h [y1],cy.dec fr h [y2],cf.dec fr h [y3],gx ba fr h y4 with
 |some v0,some v1,some v2,some v3,some v4=>some (mkS v0 v1 v2 v3 v4)
 |_,_,_,_,_=>none:=by
 rw [xn _ _ _ _ rfl rfl]
 have h1:aq.dec fr h (AV.agg [y0,y1,y2,y3,y4]).cells=Option.map (fun p=>(⟨p.1,p.2.1,p.2.2.1,p.2.2.2.1,p.2.2.2.2⟩:bj)) ((kr ai (kr cy (kr cy (kr cf (cj ba))))).dec fr h [y0,y1,y2,y3,y4]):=rfl
 rw [h1]
 simp only [akt,Bk,ta,E6,x0,Dg,xu,List.take_succ_cons,List.take_zero,List.drop_succ_cons,List.drop_zero,Z5,Zz]
 cases (gx ag fr h y0)<;>cases (cy.dec fr h [y1])<;>cases (cy.dec fr h [y2])<;>cases (cf.dec fr h [y3])<;>cases (gx ba fr h y4)<;>rfl
theorem Ez (l) (xs:List bj) (x:bj):cellsOf aq l (xs++[x])=cellsOf aq l xs++[.vl l 1 (x.owner.map (ag.val false)),.sc (.int .u16 x.type.toNat),.sc (.int .u16 x.cls.toNat),.sc (.int .u32 x.j9.toNat),.vl l 4 (x.data.map (ba.val l))]:=by rw [Oa,Ow];rfl
structure ay where
 origin:Name
 aj:List bj
def mkZ (origin:Name) (aj:List bj):ay:=⟨origin,aj⟩
theorem ahf (x:ay):mkZ x.origin x.aj=x:=id rfl
def bc:c8 ay:=zc (kr ai (cj aq)) (fun x=>(x.origin,x.aj)) (fun p=>⟨p.1,p.2⟩) (fun _=>rfl) (fun _=>rfl)
theorem dr (l:Bool) (x:ay):bc.val l x = .agg [.vl l 1 (x.origin.map (ag.val l)),.vl l 5 (x.aj.map (aq.val l))]:=id rfl
theorem A6 (l:Bool) (x:ay):bc.cells l x=[.vl l 1 (x.origin.map (ag.val l)),.vl l 5 (x.aj.map (aq.val l))]:=id rfl
theorem I2:bc.sz=2:=id rfl
theorem Ge (fr:Bool) (h:Tr bh) (y0 y1:AV):bc.gy fr h (.agg [y0,y1])=match gx ag fr h y0,gx aq fr h y1 with
 |some v0,some v1=>some (mkZ v0 v1)
 |_,_=>none:=by
 rw [xn _ _ _ _ rfl rfl]
 have h1:bc.dec fr h (AV.agg [y0,y1]).cells=Option.map (fun p=>(⟨p.1,p.2⟩:ay)) ((kr ai (cj aq)).dec fr h [y0,y1]):=rfl
 rw [h1]
 simp only [akt,Bk,ta,E6,x0,Dg,xu,List.take_succ_cons,List.take_zero,List.drop_succ_cons,List.drop_zero,Z5,Zz]
 cases (gx ag fr h y0)<;>cases (gx aq fr h y1)<;>rfl
theorem Mk (fr:Bool) (h:Tr bh) (y0 y1:AV):bc.dec fr h [y0,y1]=match gx ag fr h y0,gx aq fr h y1 with
 |some v0,some v1=>some (mkZ v0 v1)
 |_,_=>none:=(M4 bc fr h _ rfl).trans (Ge fr h y0 y1)
structure auh where
 addr:UInt32
 akp:List Int
structure aa5 where
 akp:List ay
 azr:List auh
 hints:List UInt32
structure qd where
 kind:Int
 node:Name
 i3:Name
def vy (kind:Int) (node:Name) (i3:Name):qd:=⟨kind,node,i3⟩
theorem ai1 (x:qd):vy x.kind x.node x.i3=x:=id rfl
def dk:c8 qd:=zc (kr (au .u8) (kr ai ai)) (fun x=>(x.kind,x.node,x.i3)) (fun p=>⟨p.1,p.2.1,p.2.2⟩) (fun _=>rfl) (fun _=>rfl)
theorem Ga (l:Bool) (x:qd):dk.val l x = .agg [.sc (.int .u8 x.kind),.vl l 1 (x.node.map (ag.val l)),.vl l 1 (x.i3.map (ag.val l))]:=id rfl
theorem To:dk.sz=3:=id rfl
theorem Gn (fr:Bool) (h:Tr bh) (y0 y1 y2:AV):dk.gy fr h (.agg [y0,y1,y2])=match (au .u8).dec fr h [y0],gx ag fr h y1,gx ag fr h y2 with
 |some v0,some v1,some v2=>some (vy v0 v1 v2)
 |_,_,_=>none:=by
 rw [xn _ _ _ _ rfl rfl]
 have h1:dk.dec fr h (AV.agg [y0,y1,y2]).cells=Option.map (fun p=>(⟨p.1,p.2.1,p.2.2⟩:qd)) ((kr (au .u8) (kr ai ai)).dec fr h [y0,y1,y2]):=rfl
 rw [h1]
 simp only [akt,Bk,ta,E6,x0,Dg,xu,List.take_succ_cons,List.take_zero,List.drop_succ_cons,List.drop_zero,Z5,Zz]
 cases ((au .u8).dec fr h [y0])<;>cases (gx ag fr h y1)<;>cases (gx ag fr h y2)<;>rfl
theorem Kb (fr:Bool) (h:Tr bh) (y0 y1 y2:AV):dk.dec fr h [y0,y1,y2]=match (au .u8).dec fr h [y0],gx ag fr h y1,gx ag fr h y2 with
 |some v0,some v1,some v2=>some (vy v0 v1 v2)
 |_,_,_=>none:=(M4 dk fr h _ rfl).trans (Gn fr h y0 y1 y2)
structure aks where
 turn:Int
 aj:List bj
 to:Name
def mkT (turn:Int) (aj:List bj) (to:Name):aks:=⟨turn,aj,to⟩
structure tk where
 z:ay
 e:Int
def mkL (z:ay) (e:Int):tk:=⟨z,e⟩
theorem at6 (z e):(mkL z e).z=z:=id rfl
def mb:c8 tk:=zc (kr bc (au .i64)) (fun x=>(x.z,x.e)) (fun p=>⟨p.1,p.2⟩) (fun _=>rfl) (fun _=>rfl)
theorem Ax (l:Bool) (x:tk):mb.cells l x=[.vl l 1 (x.z.origin.map (ag.val l)),.vl l 5 (x.z.aj.map (aq.val l)),.sc (.int .i64 x.e)]:=id rfl
theorem Q8:mb.sz=3:=id rfl
theorem afg (fr:Bool) (h:Tr bh) (y00 y01 y1:AV):mb.gy fr h (.agg [y00,y01,y1])=match bc.gy fr h (.agg [y00,y01]),(au .i64).dec fr h [y1] with
 |some v0,some v1=>some (mkL v0 v1)
 |_,_=>none:=by
 rw [xn _ _ _ _ rfl rfl]
 have h1:mb.dec fr h (AV.agg [y00,y01,y1]).cells=Option.map (fun p=>(⟨p.1,p.2⟩:tk)) ((kr bc (au .i64)).dec fr h [y00,y01,y1]):=rfl
 rw [h1]
 simp only [akt,Bk,ta,E6,x0,Dg,xu,List.take_succ_cons,List.take_zero,List.drop_succ_cons,List.drop_zero,Z5,Zz,I2,M4 bc fr h _ rfl]
 cases (bc.gy fr h (.agg [y00,y01]))<;>cases ((au .i64).dec fr h [y1])<;>rfl
theorem K3 (fr:Bool) (h:Tr bh) (y00 y01 y1:AV):mb.dec fr h [y00,y01,y1]=match bc.gy fr h (.agg [y00,y01]),(au .i64).dec fr h [y1] with
 |some v0,some v1=>some (mkL v0 v1)
 |_,_=>none:=(M4 mb fr h _ rfl).trans (afg fr h y00 y01 y1)
structure Kl where
 at0:Int
 aa:Bool
 answer:List bj
 authority:List bj
 I8:List bj
def Xu (at0:Int) (aa:Bool) (answer:List bj) (authority:List bj) (I8:List bj):Kl:=⟨at0,aa,answer,authority,I8⟩
theorem ae:type_of% @Jh∧type_of% @Jz∧type_of% @ai4∧type_of% @ahp∧type_of% @dv4∧type_of% @dv5∧type_of% @ain∧type_of% @Qf∧type_of% @Fa∧type_of% @Qu∧type_of% @ayt∧type_of% @Mj∧type_of% @Ju∧type_of% @Pt∧type_of% @Bs∧type_of% @Dw∧type_of% @aif∧type_of% @jb∧type_of% @X1∧type_of% @Sc∧type_of% @ahf∧type_of% @Mk∧type_of% @dr∧type_of% @I2∧type_of% @Ge∧type_of% @ai1∧type_of% @Kb∧type_of% @Ga∧type_of% @To∧type_of% @Gn∧type_of% @at6∧type_of% @K3∧type_of% @Q8:=
 ⟨@Jh,@Jz,@ai4,@ahp,@dv4,@dv5,@ain,@Qf,@Fa,@Qu,@ayt,@Mj,@Ju,@Pt,@Bs,@Dw,@aif,@jb,@X1,@Sc,@ahf,@Mk,@dr,@I2,@Ge,@ai1,@Kb,@Ga,@To,@Gn,@at6,@K3,@Q8⟩
end
end Go.Vm
end
section
namespace Go.Proofs.YtjagjbceegbaiaaGreat
open Go.Vm
set_option maxRecDepth 2000000
noncomputable def Av (t:UInt16) (l:List bo) (d:bo):Bool:=l.any fun x=>wx t x d
theorem ayp (t:UInt16) (l:List bo) (d:bo) (hl:∀ x ∈ l,cq x) (hn:l.length≤16777216) (hd:cq d):wl PP [] 0 (Tryz.f119.body.getD .skip) (ct PP Tryz.f119.results.toList (fun r st=>(r1 bd).get true st.h r=some (Av t l d))) (bp 0 [cy.val false t,(cj ba).val false l,ba.val false d]) (bf []):=by
 unfold Tryz.f119
 simp only [nh,gh]
 simp only [↓wR,RA,simprocAttr,TF,ae]
 refine cz (T:=[]) (an.nil PP) mixed Tryz.func157 rfl (by kernel_rfl) (by kernel_rfl) (by kernel_rfl) (by kernel_rfl) ?_;unfold Tryz.f157
 simp only [↓wR,RA,simprocAttr,TF,ae]
 refine cz (T:=[]) (an.nil PP) mixed Tryz.func193 rfl (by kernel_rfl) (by kernel_rfl) (by kernel_rfl) (by kernel_rfl) ?_;unfold Tryz.f193
 simp only [↓wR,RA,simprocAttr,TF,ae]
 refine dg [0,1,7,8] (fun (i:Nat)=>[.vl false 4 (l.map (ba.val false)),.fn (.func 158) [] [.ptr 0 0,.ptr 1 0],.sc (.int .i64 (l.length)),.sc (.int .i64 (i))]) (fun _=>[some (.row [.sc (.int .u16 t.toNat)] 0 2 50),some (.row [.vl false 1 (d.names.map (ai.val false)),.vl false 1 (d.nums.map (cf.val false)),.vl false 1 (d.texts.map (ag.val false)),.vl false 1 (d.raw.map (bk.val false))] 0 2 116)]) (fun i=>i≤l.length∧Av t l d=Av t (l.drop i) d) (fun i=>l.length - i) 0 ⟨Nat.zero_le _,rfl⟩ (by simp only [↓wR,RA,simprocAttr,TF,ae]<;>rfl) (by simp only [↓wR,RA,simprocAttr,TF,ae]<;>rfl) ?_
 rintro i ⟨hi,hx⟩
 simp only [↓wR,RA,simprocAttr,TF,ae]
 rw [be];refine ⟨fun h=>?_,fun h=>?_⟩
 ·obtain ⟨c,hc,hd1,hlt⟩:=dq (decide_eq_true h)
  have hx':Av t l d=(wx t c d || Av t (l.drop (i+1)) d):=by rw [hx,hd1];rfl
  simp only [↓wR,RA,simprocAttr,TF,ae,h,hc];repeat (simp (disch:=omega) only [ah,bw,bz,bu,bt];try simp only [↓wR,RA,simprocAttr,TF,ae,h,hc])
  refine cz (T:=[aqw]) (an.cons (ak Ze) (an.nil PP)) mixed Tryz.func158 rfl (by kernel_rfl) (by kernel_rfl) (by kernel_rfl) (by kernel_rfl) ?_;unfold Tryz.f158
  simp only [↓wR,RA,simprocAttr,TF,ae,Cs,hl c (List.mem_of_getElem? hc),hd]
  rw [ca];refine ⟨fun h1=>?_,fun h1=>?_⟩
  ·rw [h1,Bool.true_or] at hx'
   simp only [↓wR,RA,simprocAttr,TF,ae,h1]
   rw [hx']
   done
  ·rw [h1,Bool.false_or] at hx'
   simp only [↓wR,RA,simprocAttr,TF,ae,h1];repeat (simp (disch:=omega) only [ah,bw,bz,bu,bt];try simp only [↓wR,RA,simprocAttr,TF,ae,h1])
   exact ⟨i+1,⟨hlt,hx'⟩,by omega,by (first|rfl|trivial|omega|((try (simp (disch:=omega) only [ah]));(try (simp only [FB]));first|done|rfl|omega))⟩
 ·rw [en (decide_eq_false h)] at hx
  simp only [↓wR,RA,simprocAttr,TF,ae,h]
  rw [hx];rfl
def m4 (l:List bo):Prop:=ko B7 l≤16777216
instance (l:List bo):Decidable (m4 l):=inferInstanceAs (Decidable (_≤_))
theorem m4.mem {l:List bo} (h:m4 l):∀ x ∈ l,cq x:=fun x hx=>by
 have h1:B7 x<ko B7 l:=Gx hx
 unfold m4 at h;unfold cq;omega
theorem m4.len {l:List bo} (h:m4 l):l.length≤16777216:=Nat.le_trans (Du B7 l) h
theorem Qo {α:Type} (f : α→Nat) (l:List α) (i:Nat):ko f (l.take i)≤ko f l:=by
 induction l generalizing i with
 |nil=>simp
 |cons a l ih=>
  cases i with
  |zero=>exact Nat.zero_le _
  |succ i=>have:=ih i;simp only [ko,List.take_succ_cons,List.foldr_cons] at this ⊢;omega
theorem m4.take {l:List bo} (h:m4 l) (i:Nat):m4 (l.take i):=Nat.le_trans (Qo B7 l i) h
noncomputable def Rn (x:UInt16 × List bo × bo × Unit):Option AV:=if m4 x.2.1∧cq x.2.2.1 then some ((r1 bd).E true (Av x.1 x.2.1 x.2.2.1)) else none
set_option maxRecDepth 2000000 in
theorem am0 (x:UInt16 × List bo × bo × Unit) (r:AV) (h:Rn x=some r):bb PP 119 ((aC cy (aC (cj ba) (aC ba a0))).E x) r:=by
 by_cases hc:m4 x.2.1∧cq x.2.2.1
 case neg=>simp only [Rn,if_neg hc] at h;cases h
 simp only [Rn,if_pos hc] at h
 cases h
 exact ar (an.nil PP) Tryz.func119 (by kernel_rfl) (by kernel_rfl) (by kernel_rfl) (Nat.le_of_ble_eq_true (by kernel_rfl)) (r1 bd) true (Av x.1 x.2.1 x.2.2.1) (ayp x.1 x.2.1 x.2.2.1 hc.1.mem hc.1.len hc.2)
noncomputable abbrev aA4:Nat × Bool × (List AV→M AV):=(119,true,cg (aC cy (aC (cj ba) (aC ba a0))) Rn)
def v5 (s:bj):Nat:=bq s.owner+ko B7 s.data
def dc (s:bj):Prop:=v5 s≤16777216
instance (s:bj):Decidable (dc s):=inferInstanceAs (Decidable (_≤_))
theorem dc.owner {s:bj} (h:dc s):aw s.owner:=by unfold dc v5 at h;unfold aw;omega
theorem dc.data {s:bj} (h:dc s):m4 s.data:=by unfold dc v5 at h;unfold m4;omega
noncomputable def pw (t:UInt16):List bo→List bo→Int
 |_,[]=>0
 |pre,d::r=>if du t d≠0 then du t d else if Av t pre d=true then 10 else pw t (pre++[d]) r
noncomputable def ov (s:bj):Int:=
 if da s.owner≠0 then da s.owner else if s.data.length=0 then 9 else if 512<s.data.length then 3 else pw s.type [] s.data
theorem Pp (t:UInt16) {l:List bo} {i:Nat} {c:bo} (hc:l[i]? = some c):pw t (l.take i) (l.drop i)=if du t c≠0 then du t c else if Av t (l.take i) c=true then 10 else pw t (l.take (i+1)) (l.drop (i+1)):=by
 obtain ⟨hi,rfl⟩:=List.getElem?_eq_some_iff.1 hc
 rw [List.drop_eq_getElem_cons hi,pw,List.take_succ_eq_append_getElem hi]
theorem agy (s:bj) (hs:dc s):wl PP [eu,J9,aA4] 0 (Tryz.f138.body.getD .skip) (ct PP Tryz.f138.results.toList (fun r st=>(r1 (au .i64)).get true st.h r=some (ov s))) (bp 0 [aq.val false s]) (bf []):=by
 have ho:=hs.owner
 have hd:=hs.data
 have hn:=hd.len
 unfold Tryz.f138
 simp only [jb]
 simp only [↓wR,RA,simprocAttr,TF,ae,o0,ho.fit]
 unfold ov
 rw [ca];refine ⟨fun h=>?_,fun h=>?_⟩
 ·have he:da s.owner≠0:=by simpa using h
  rw [if_pos he]
  simp only [↓wR,RA,simprocAttr,TF,ae,h]
 have he:da s.owner=0:=by simpa using h
 rw [if_neg (by omega)]
 simp only [↓wR,RA,simprocAttr,TF,ae,h]
 rw [b9];refine ⟨fun ⟨h1,e1⟩=>?_,fun ⟨h1,e1⟩=>?_⟩
 ·rw [if_pos (by omega)]
  simp only [↓wR,RA,simprocAttr,TF,ae,h1]
 rw [if_neg (by omega)]
 simp only [↓wR,RA,simprocAttr,TF,ae,h1]
 rw [be];refine ⟨fun h2=>?_,fun h2=>?_⟩
 ·rw [if_pos (by omega)]
  simp only [↓wR,RA,simprocAttr,TF,ae,h2]
 rw [if_neg (by omega)]
 simp only [↓wR,RA,simprocAttr,TF,ae,h2]
 refine dg [1,24,25,26] (fun (i:Nat)=>[.ptr 0 0,.vl false 4 (s.data.map (ba.val false)),.sc (.int .i64 (s.data.length)),.sc (.int .i64 (i))]) (fun _=>[some (.row [.vl false 1 (s.owner.map (ag.val false)),.sc (.int .u16 s.type.toNat),.sc (.int .u16 s.cls.toNat),.sc (.int .u32 s.j9.toNat),.vl false 4 (s.data.map (ba.val false))] 0 2 63)]) (fun i=>i≤s.data.length∧pw s.type [] s.data=pw s.type (s.data.take i) (s.data.drop i)) (fun i=>s.data.length - i) 0 ⟨Nat.zero_le _,rfl⟩ (by simp only [↓wR,RA,simprocAttr,TF,ae]<;>rfl) (by simp only [↓wR,RA,simprocAttr,TF,ae]<;>rfl) ?_
 rintro i ⟨hi,hx⟩
 simp only [↓wR,RA,simprocAttr,TF,ae]
 rw [be];refine ⟨fun h3=>?_,fun h3=>?_⟩
 ·obtain ⟨c,hc,hd1,hlt⟩:=dq (decide_eq_true h3)
  rw [Pp _ hc] at hx
  have hcs:=hd.mem c (List.mem_of_getElem? hc)
  simp only [↓wR,RA,simprocAttr,TF,ae,h3,hc,re,hcs]
  rw [ca];refine ⟨fun h4=>?_,fun h4=>?_⟩
  ·have he4:du s.type c≠0:=by simpa using h4
   rw [if_pos he4] at hx
   simp only [↓wR,RA,simprocAttr,TF,ae,h4]
   rw [hx]
  ·have he4:du s.type c=0:=by simpa using h4
   rw [if_neg (by omega)] at hx
   simp only [↓wR,RA,simprocAttr,TF,ae,h4]
   refine ⟨by kernel_rfl,.inl ?_⟩
   simp only [↓wR,RA,simprocAttr,TF,ae,hi,Rn,hd.take i,hcs]
   refine ⟨by kernel_rfl,?_⟩
   rw [ca];refine ⟨fun h5=>?_,fun h5=>?_⟩
   ·rw [if_pos h5] at hx
    simp only [↓wR,RA,simprocAttr,TF,ae,h5]
    rw [hx]
   ·rw [if_neg (by rw [h5];decide)] at hx
    simp only [↓wR,RA,simprocAttr,TF,ae,h5];repeat (simp (disch:=omega) only [ah,bw,bz,bu,bt];try simp only [↓wR,RA,simprocAttr,TF,ae,h5])
    exact ⟨i+1,⟨hlt,hx⟩,by omega,by (first|rfl|trivial|omega|((try (simp (disch:=omega) only [ah]));(try (simp only [FB]));first|done|rfl|omega))⟩
 ·rw [en (decide_eq_false h3)] at hx
  simp only [↓wR,RA,simprocAttr,TF,ae,h3]
  rw [hx];rfl
noncomputable def x8 (x:bj × Unit):Option AV:=if dc x.1 then some ((r1 (au .i64)).E true (ov x.1)) else none
set_option maxRecDepth 2000000 in
theorem Jv (x:bj × Unit) (r:AV) (h:x8 x=some r):bb PP 138 ((aC aq a0).E x) r:=by
 by_cases hc:dc x.1
 case neg=>simp only [x8,if_neg hc] at h;cases h
 simp only [x8,if_pos hc] at h
 cases h
 exact ar (an.cons (ak pj) (an.cons (ak A1) (an.cons (ak am0) (an.nil PP)))) Tryz.func138 (by kernel_rfl) (by kernel_rfl) (by kernel_rfl) (Nat.le_of_ble_eq_true (by kernel_rfl)) (r1 (au .i64)) true (ov x.1) (agy x.1 hc)
noncomputable abbrev gm:Nat × Bool × (List AV→M AV):=(138,true,cg (aC aq a0) x8)
theorem arv {S:Nat→Prop} {M b0:Nat} {K:Nat→Nat→Prop} {w:World} {l:List ByteArray} {v:Value} (hS:∀ b,b0≤b→(∀ j,K b j)→S b) (hM:∀ s ∈ l,s.size≤M) (hr:Rel (gK b0 K) w (.vl true 1 (l.map (ag.val true))) v):qf S M w .str v:=by
 refine awx (l:=true) ag rfl rfl rfl (by decide) (fun x hx c hc s e=>?_) (fun x hx c hc=>?_) hS hr
 ·have hc':c ∈ [AV.sc (.string x)]:=hc
  rw [List.mem_singleton] at hc'
  rw [hc'] at e;cases e
  exact hM _ hx
 ·have hc':c ∈ [AV.sc (.string x)]:=hc
  rw [List.mem_singleton] at hc'
  exact ⟨_,hc'⟩
theorem size_le (n:Name):∀ s ∈ n,s.size≤bq n:=by
 intro s hs
 obtain ⟨i,hi,rfl⟩:=List.getElem_of_mem hs
 have h1:=C4 n i _ (List.getElem?_eq_getElem hi)
 have h2:=(iq n (i+1)).1
 omega
theorem Mr {S:Nat→Prop} {b0:Nat} {K:Nat→Nat→Prop} {w:World} {n:Name} {v:Value} (hS:∀ b,b0≤b→(∀ j,K b j)→S b) (hn:aw n) (hr:Rel (gK b0 K) w (.vl true 1 (n.map (ag.val true))) v):qf S 16777216 w .str v:=
 arv hS (fun s hs=>by have:=size_le n s hs;unfold aw at hn;omega) hr
end Go.Proofs.YtjagjbceegbaiaaGreat
end
namespace Go.Vm
variable [TK]
noncomputable section
def SW (P:Program) (nt:NT) (c:Code) (Q:QL) (L:SL) (st:St):Prop:=
 ∀ (N:Nat) (B:dy) (g:Gh) (a:Act) (w:World),B.j5→B.az=0→B.n0≤B.w.heap.size→fj B nt L st g a w→c.wpIn (eh none) N P (Fin B nt Q) a w
def te (keep:List Nat) (V:List AV) (O:List (Option bh)):QL:=fun e L st=>
 match e with
 |.normal=>gv 0 keep L st=V∧ey 0 keep L st=O
 |_=>False
theorem ek {keep V O L st}:te keep V O .normal L st=(gv 0 keep L st=V∧ey 0 keep L st=O):=rfl
variable {P : Program} [KP P] {nt : NT} {Q : QL} {L : SL} {st : St}
theorem Ua {T:dv} (hT:an P T) (hm:P.follows .mixedOrders=true) {c:Code} (hs:dt nt c=true) (h:wl P T 0 c Q L st):SW P nt c Q L st:=by
 intro N B g a w hnf hp hn0 hh
 refine wpIn_mono (piece hT hm (N:=N) hnf (by omega) hn0 hs (by rw [hp];exact h) hh) ?_
 rintro ex a' w' ⟨e,L',st',g',rfl,hq,hh',_⟩
 exact ⟨e,L',st',g',rfl,hq,hh'.cur,hh'.sl,hh'.Ab⟩
theorem Hs {c:Code} {Q':QL} (hq:∀ e L st,Q e L st→Q' e L st) (h:SW P nt c Q L st):SW P nt c Q' L st:=by
 intro N B g a w hnf hp hn0 hh
 refine wpIn_mono (h N B g a w hnf hp hn0 hh) ?_
 rintro ex a' w' ⟨e,L',st',g',rfl,h0,h1,h2,h3⟩
 exact ⟨e,L',st',g',rfl,hq _ _ _ h0,h1,h2,h3⟩
theorem Kh {x y:Code} (h:SW P nt x (Gu (SW P nt y) Q) L st):SW P nt (.seq x y) Q L st:=by
 intro N B g a w hnf hp hn0 hh
 refine wpIn_seq (wpIn_mono (h N B g a w hnf hp hn0 hh) ?_)
 rintro ex a' w' ⟨e,L',st',g',rfl,hq,h1,h2,h3⟩
 cases e with
 |normal=>exact hq N B g' a' w' hnf hp hn0 ⟨h1,h2,h3⟩
 |ret=>exact ⟨.ret,L',st',g',rfl,hq,h1,h2,h3⟩
 |exit id=>exact ⟨.exit id,L',st',g',rfl,hq,h1,h2,h3⟩
theorem ad4 {id:Nat} {c:Code} (h:SW P nt c (Jb id Q) L st):SW P nt (.block id c) Q L st:=by
 intro N B g a w hnf hp hn0 hh
 refine wpIn_block (wpIn_mono (h N B g a w hnf hp hn0 hh) ?_)
 rintro ex a' w' ⟨e,L',st',g',rfl,hq,h1,h2,h3⟩
 cases e with
 |normal=>exact ⟨.normal,L',st',g',rfl,hq,h1,h2,h3⟩
 |ret=>exact ⟨.ret,L',st',g',rfl,hq,h1,h2,h3⟩
 |exit j=>
  simp only [Jb] at hq
  by_cases e:j=id
  ·subst e
   simp only [Nat.beq_refl,cond_true] at hq
   simp only [sh,Exit.inBlock,if_true]
   exact ⟨.normal,L',st',g',rfl,hq,h1,h2,h3⟩
  ·rw [ou e,cond_false] at hq
   simp only [sh,Exit.inBlock,if_neg e]
   exact ⟨.exit j,L',st',g',rfl,hq,h1,h2,h3⟩
theorem Hn {c:Code} (keep:List Nat) (V:List AV) (O:List (Option bh)) (hv:jo 0 (gv 0 keep L st) (ey 0 keep L st) V O) (h:SW P nt c Q (ic keep V) (bf O)):SW P nt c Q L st:=by
 intro N B g a w hnf hp hn0 hh
 obtain ⟨V',O',g1,⟨rfl,rfl⟩,k1,k2,k3,_⟩:=M0 (X:=fun vs os=>vs=V∧os=O) hnf (by omega) keep (by rw [hp];exact ⟨_,_,hv,rfl,rfl⟩) hh.cur hh.sl
 exact h N B g1 a w hnf hp hn0 ⟨k1,k2,k3 _ _ _ (By (by omega) keep hh.Ab)⟩
theorem xq {T:dv} (hT:an P T) (hm:P.follows .mixedOrders=true) {x y:Code} (keep:List Nat) (V:List AV) (O:List (Option bh)) (hs:dt nt x=true) (h:wl P T 0 x (te keep V O) L st) (k:SW P nt y Q (ic keep V) (bf O)):SW P nt (.seq x y) Q L st:=by
 refine Kh (Hs ?_ (Ua hT hm hs h))
 intro e L' st' hq
 cases e with
 |normal=>exact Hn keep V O (by rw [hq.1,hq.2];exact jo.refl _ _ _) k
 |ret=>exact hq.elim
 |exit id=>exact hq.elim
theorem ap0 {T:dv} (hT:an P T) (hm:P.follows .mixedOrders=true) {x:Code} (keep:List Nat) (V:List AV) (O:List (Option bh)) (hs:dt nt x=true) (h:wl P T 0 x (te keep V O) L st) (k:∀ L st,gv 0 keep L st=V→ey 0 keep L st=O→Q .normal L st):SW P nt x Q L st:=by
 refine Hs ?_ (Ua hT hm hs h)
 intro e L' st' hq
 cases e with
 |normal=>exact k L' st' hq.1 hq.2
 |ret=>exact hq.elim
 |exit id=>exact hq.elim
theorem avf {c:Code} {α:Type} (keep:List Nat) (V : α→List AV) (O : α→List (Option bh)) (I : α→Prop) (μ : α→Nat) (x : α) (hx:I x)
 (hv:jo 0 (gv 0 keep L st) (ey 0 keep L st) (V x) (O x))
 (step:∀ x,I x→SW P nt c (vw 0 keep (fun vs os=>∃ y,I y ∧ μ y < μ x∧vs=V y∧os=O y) Q) (ic keep (V x)) (bf (O x))):SW P nt (.loop c) Q L st:=by
 refine Hn keep (V x) (O x) hv ?_
 intro N B g a w hnf hp hn0 hh
 refine ajj (fun x a w=>I x∧∃ g,fj B nt (ic keep (V x)) (bf (O x)) g a w) μ ?_ x a w ⟨hx,g,hh⟩
 rintro x a w ⟨hi,g,hh⟩
 refine wpIn_mono (step x hi N B g a w hnf hp hn0 hh) ?_
 rintro ex a' w' ⟨e,L',st',g',rfl,hq,h1,h2,h3⟩
 cases e with
 |normal=>
  obtain ⟨y,hy,hlt,e1,e2⟩:=hq
  have hc:=fj.canon hnf (by omega) keep (⟨h1,h2,h3⟩:fj B nt L' st' g' a' w')
  rw [hp,e1,e2] at hc
  exact ⟨y,hlt,hy,_,hc⟩
 |ret=>exact ⟨.ret,L',st',g',rfl,hq,h1,h2,h3⟩
 |exit id=>exact ⟨.exit id,L',st',g',rfl,hq,h1,h2,h3⟩
def aka (k:Nat) (keep:List Nat) (V:List AV) (O:List (Option bh)):QL:=fun e L st=>
 match e with
 |.exit j=>j=k∧gv 0 keep L st=V∧ey 0 keep L st=O
 |_=>False
theorem avc {k keep V O L st j}:aka k keep V O (.exit j) L st=(j=k∧gv 0 keep L st=V∧ey 0 keep L st=O):=rfl
theorem aoz {T:dv} (hT:an P T) (hm:P.follows .mixedOrders=true) (n:Nat) {c:Code} (hsp:J7 (n+1) c=true) (hs:dt nt c=true) (h:wl P T 0 (kh (n+1) c) (Gu (SW P nt (dn (n+1) c)) Q) L st):SW P nt c Q L st:=by
 intro N B g a w hnf hp hn0 hh
 refine qq hT hm (N:=N) hnf (by omega) hn0 n c hsp hs (X:=Fin B nt Q) (Q:=Gu (SW P nt (dn (n+1) c)) Q) ?_ L st g a w (by rw [hp];exact h) hh
 intro e L' st' g' a' w' hq hh'
 cases e with
 |normal=>exact hq N B g' a' w' hnf hp hn0 hh'
 |ret=>exact ⟨.ret,L',st',g',rfl,hq,hh'.cur,hh'.sl,hh'.Ab⟩
 |exit id=>exact ⟨.exit id,L',st',g',rfl,hq,hh'.cur,hh'.sl,hh'.Ab⟩
theorem Va {f:Nat} {fn:Func} {body:Code} (hf:P.funcs[f]? = some fn) (hb:fn.body=some body) (he:l8 P f=true) {args:List AV} (hl:args.length≤fn.ntmps) {ρ:Type} (R:RC ρ) (fr:Bool) (x : ρ)
 (h:SW P fn.ntmps body (ct P fn.results.toList (fun r st=>R.get fr st.h r=some x)) (bp 0 args) (bf [])):bb P f args (R.E fr x):=
 E0 hf hb he hl R fr x (fun B g a w hnf hp _ hn0 hh=>h 0 B g a w hnf hp hn0 hh)
end
end Go.Vm
namespace Go.Vm
variable [TK]
noncomputable section
def uz (P:Program) (N:Nat) (ops:Array Oper) (l:List Oper) (X:Exit→Act→World→Prop) (a:Act) (w:World):Prop:=
 ∀ is:List Nat,is.map (fun i=>ops[i]?)=l.map some→wpOpsIn (eh none) N P ops X is a w
theorem Bw {P:Program} {N id:Nat} {ops:Array Oper} {X:Exit→Act→World→Prop} {a:Act} {w:World} (h:uz P N ops ops.toList X a w):(Code.region id ops false).wpIn (eh none) N P X a w:=
 wpIn_region (h (List.range ops.size) (F2 ops))
theorem ack {P:Program} [KP P] {T:dv} (hT:an P T) {B:dy} {nt:NT} (hnf:B.j5) {N:Nat} {ops:Array Oper} {l:List Oper} {K:SL→St→Prop} {X:Exit→Act→World→Prop} {L st g a w} (hg:kp nt ops=true) (hd:oa nt ops=true) (hm:∀ o ∈ l,o ∈ ops)
 (h:opsL P T ops l K L st) (hh:fj B nt L st g a w) (hK:∀ L st g a w,K L st→fj B nt L st g a w→X .normal a w):uz P N ops l X a w:=fun is his=>
 ail hT hnf hg hd (fun L st g w a hk hc hr hm=>hK L st g a w hk ⟨hc,hr,hm⟩) l is hm his L st g w a h hh.cur hh.sl hh.Ab
theorem Wv {o:Oper} {f:Nat} {d:Option Nat} {args:List Nat} (h:Cm o=some (d,f,args)):∃ ts pos af ty,o=⟨d,.call { callee:=.value (.func f),args:=(args.map Operand.tmp).toArray,argTypes:=ts },ty,pos,af,none⟩:=by
 obtain ⟨dst,op,ty,pos,af,gd⟩:=o
 unfold Cm at h
 split at h
 ·rename_i f' aa ats h1 h2
  simp only [Option.map_eq_some_iff,Prod.mk.injEq] at h
  obtain ⟨ts,h3,rfl,rfl,rfl⟩:=h
  subst h1 h2
  refine ⟨ats,pos,af,ty,?_⟩
  rw [← Vo h3]
 ·cases h
theorem aqg {P:Program} [KP P] {T:dv} (hT:an P T) {B:dy} {nt:NT} (hnf:B.j5) {N:Nat} {ops:Array Oper} {l1 l2:List Oper} {o:Oper} {K:SL→St→Prop} {X:Exit→Act→World→Prop} {L st g a w} (hg:kp nt ops=true) (hd:oa nt ops=true) (hm:∀ o ∈ l1,o ∈ ops) (hmo:o ∈ ops)
 {f:Nat} {args:List Nat} {d:Option Nat} (hl:Cm o=some (d,f,args)) (he:l8 P f=true)
 (h:opsL P T ops l1 K L st) (hh:fj B nt L st g a w)
 (hK:∀ L' st' g' a' w',K L' st'→fj B nt L' st' g' a' w'→Calls P f (args.map fun t=>a'.tmps.getD t undef).toArray w' (fun e w''=>∃ r,e = .returned r∧∀ a'',a''.defers=a'.defers→a''.tmps.size=a'.tmps.size→(∀ t,d≠some t→a''.tmps.getD t undef=a'.tmps.getD t undef)→(∀ dd,d=some dd→a''.tmps.getD dd undef=r)→uz P N ops l2 X a'' w'')) :
 uz P N ops (l1++o::l2) X a w:=by
 obtain ⟨ts,pos,af,ty,rfl⟩:=Wv hl
 have key:∀ (l:List Oper) (is:List Nat),(∀ o ∈ l,o ∈ ops)→is.map (fun i=>ops[i]?)=(l++(⟨d,.call { callee:=.value (.func f),args:=(args.map Operand.tmp).toArray,argTypes:=ts },ty,pos,af,none⟩:Oper)::l2).map some→∀ L st g a w,opsL P T ops l K L st→fj B nt L st g a w→wpOpsIn (eh none) N P ops X is a w:=by
  intro l
  induction l with
  |nil=>
   intro is _ his L st g a w h hh
   rw [List.nil_append] at his
   match is,his with
   |i::is,his=>
    simp only [List.map_cons,List.cons.injEq] at his
    obtain ⟨hi,his⟩:=his
    have hK':=hK L st g a w h hh
    simp only [wpOpsIn,hi]
    have hw:Region.wanted (⟨d,.call { callee:=.value (.func f),args:=(args.map Operand.tmp).toArray,argTypes:=ts },ty,pos,af,none⟩:Oper) (yielded ops a.tmps)=true:=by simp [Region.wanted]
    rw [hw,if_pos rfl]
    refine ⟨i4 none P _ a w,?_⟩
    rw [Oper.semAt_eq _ _ _ (by intro c e;cases e)]
    have hrun:(execOp a.eval (⟨d,.call { callee:=.value (.func f),args:=(args.map Operand.tmp).toArray,argTypes:=ts },ty,pos,af,none⟩:Oper)).run P w=(callFunc f (args.map fun t=>a.tmps.getD t undef).toArray).run P w:=by
     rw [Aq (h:=f) (first:=#[]) (captured:=#[]) (f:=.func f) rfl rfl]
     congr 2
     apply Array.ext'
     simp [Act.eval]
    rw [hrun,oz he]
    refine ⟨(fun h=>(by cases h)),(ni (ro:=none) (n:=N - 1) hK').mono ?_⟩
    rintro e w' ⟨r,rfl,hX⟩
    have hdd:=fun dd (e:d=some dd)=>j4 hd hmo dd e
    show wpOpsIn (eh none) N P ops X is (a.put d r) w'
    refine hX _ (put_defers _ _ _) ?_ (fun t ht=>?_) (fun dd e=>?_) is his
    ·cases d with
     |none=>rfl
     |some dd=>show (a.tmps.setIfInBounds dd r).size=_;simp
    ·cases d with
     |none=>rfl
     |some dd=>
      have hne:dd≠t:=fun e=>ht (by rw [e])
      show (a.tmps.setIfInBounds dd r).getD t undef=a.tmps.getD t undef
      rw [Array.getD_eq_getD_getElem?,Array.getElem?_setIfInBounds,if_neg hne,Array.getD_eq_getD_getElem?]
    ·subst e
     have:=(NT.Er (hdd dd rfl)).1
     show (a.tmps.setIfInBounds dd r).getD dd undef=r
     rw [Array.getD_eq_getD_getElem?,Array.getElem?_setIfInBounds,if_pos rfl,if_pos (by rw [hh.sl.1.size];exact this)];rfl
   | [],his=>cases his
  |cons o l ih=>
   intro is hmem his L st g a w h hh
   obtain ⟨hc,hr,hdf⟩:=hh
   cases is with
   |nil=>cases his
   |cons i is=>
    simp only [List.cons_append,List.map_cons,List.cons.injEq] at his
    obtain ⟨hi,his⟩:=his
    have ho:=hmem o (by simp)
    simp only [wpOpsIn,hi]
    rcases tm hr (uu hg ho) h with ⟨hw,h1⟩|⟨hw,h1⟩
    ·rw [hw,if_pos rfl]
     unfold I6 yr at h1
     cases hop:fo P T o (dh L) st with
     |none=>
      rw [hop] at h1
      refine Eh hc.ok (fun o ho=>hc.fresh o ho (hnf o)) hr.eval h1 none N _ _ ?_
      rintro u w' ⟨g',v,st',q0,q1,q2,q3,q4⟩
      exact ih is (fun o ho=>hmem o (by simp [ho])) his _ st' g' _ w' q0 ⟨hc.step (hnf.qh _ _) ⟨q1,q2⟩ q3,(hr.ext q2.ext).put q4 (j4 hd ho),by rw [put_defers];exact hdf.step q2⟩
     |some p=>
      obtain ⟨v,st'⟩:=p
      rw [hop] at h1
      refine A5 hT hc.ok (hc.free (hnf.qh _ _)) hr.eval hop none N _ _ ?_
      rintro u w' ⟨g',q1,q2,q3⟩
      exact ih is (fun o ho=>hmem o (by simp [ho])) his _ st' g' _ w' h1 ⟨hc.step (hnf.qh _ _) ⟨uw hop,q1⟩ q2,(hr.ext q1.ext).put q3 (j4 hd ho),by rw [put_defers];exact hdf.step q1⟩
    ·rw [hw,if_neg (by simp)]
     refine ⟨i4 none P o a w,?_⟩
     exact ih is (fun o ho=>hmem o (by simp [ho])) his _ st g _ w h1 ⟨hc,hr.put (.sc _) (j4 hd ho),by rw [put_defers];exact hdf⟩
 intro is his
 exact key l1 is hm his L st g a w h hh
theorem ayk {b0:Nat} {K:Nat→Nat→Prop} {w:World} (hb:b0≤w.heap.size) (hK:∀ b j,K b j→b<w.heap.size):Ok (gK b0 K) .nil w:=
 ⟨hb,fun o x hx=>(by rw [Tr.get_nil] at hx;cases hx),fun o o' x x' b base base' _ hx=>(by rw [Tr.get_nil] at hx;cases hx),hK⟩
theorem bm.ayg {b0:Nat} {K K':Nat→Nat→Prop} {w:World} {l:List AV} {vs:List Value} (h:bm (gK b0 K) w l vs) (hf:∀ a ∈ l,a.fresh=true) (hKK:∀ b j,K b j→b0≤b→K' b j):bm (gK b0 K') w l vs:=
 ⟨h.1,fun i a v ha hv=>(h.2 i a v ha hv).fresh (g:=gK b0 K') (hf a (List.mem_of_getElem? ha)) (Nat.le_refl _) hKK⟩
theorem amh {α:Type} (C:c8 α) {b0 b1:Nat} {K K':Nat→Nat→Prop} {w:World} {x : α} {vs:List Value} (hb:b0≤w.heap.size) (hK:∀ b j,K' b j→b<w.heap.size) (hKK:∀ b j,K b j→b0≤b→K' b j) (hr:bm (gK b0 K) w (C.cells true x) vs):bm (gK b1 K') w (C.cells false x) vs:=
 C.ok (fr:=false) (ayk hb hK) (uq.nil _ _ (fun _ _ h=>h)) (fun e=>by cases e) (hr.ayg (C.fr x) hKK) (C.rt false .nil true x (fun e=>by cases e))
theorem ajk {g:Gh} {w:World} {b:Nat} {cs:Array Value} {e:TypeId} {fr:Nat × Nat} {cells:List AV} (h:w.heap[b]? = some (.cells cs e fr)) (hK:∀ j,g.K b j) (hr:bm g w cells cs.toList):Rel g w (.dj cells) (.pointer (some ⟨b,0,none⟩)):=by
 have hlen:cs.size=cells.length:=by rw [← hr.1];simp
 refine .dj _ b 0 (fun j=>cs.getD j undef) (fun j a ha=>⟨hK _,?_⟩) (fun j a ha=>?_)
 ·rw [Nat.zero_add]
  exact cell_of h (by have:=(List.getElem?_eq_some_iff.1 ha).1;omega)
 ·have hj:=(List.getElem?_eq_some_iff.1 ha).1
  refine hr.2 j a _ ha ?_
  rw [Array.getElem?_toList,Array.getD_eq_getD_getElem?,Array.getElem?_eq_getElem (by omega)];rfl
theorem fj.aw2 {B:dy} {nt L st g a w} (hh:fj B nt L st g a w) {α:Type} (C:c8 α) {t o k:Nat} {x : α} {et:TypeId} (hl:lk L t = .ptr o 0) (ho:st.h.get o=some (.row (C.cells true x) k 2 et)) {b1:Nat} {K':Nat→Nat→Prop} (hb:B.b0≤w.heap.size) (hK:∀ b j,K' b j→b<w.heap.size) (hKK:∀ b j,B.b0≤b→b<w.heap.size→K' b j) :
 Rel (gK b1 K') w (.dj (C.cells false x)) (a.tmps.getD t undef):=by
 obtain ⟨b,cs,e1,e2,e3,e4⟩:=hh.box hl ho
 rw [e1]
 exact ajk e3 (fun j=>hKK b j e2 (br e3)) (amh C hb hK (fun b j h1 h2=>hKK b j h2 h1) (hh.at2 C e4))
theorem bm.al8 {b0 b1:Nat} {K K':Nat→Nat→Prop} {w w':World} {l:List AV} {vs:List Value} (hb0:∀ b,b0≤b→(∀ j,K b j)→b1≤b) (hK:∀ b j,K b j→K' b j) (hh:∀ b j,K b j→w'.heap[b]? = w.heap[b]?) (h:bm (gK b0 K) w l vs):bm (gK b1 K') w' l vs:=
 ⟨h.1,fun i a v ha hv=>(h.2 i a v ha hv).stay hb0 hK hh⟩
theorem bm.aAv {S:Nat→Prop} {w1 D ds w} {K':Nat→Nat→Prop} (h:l6 S w1 D ds w) (hS:∀ b,b<w1.heap.size→¬ S b) (hK:∀ b j,b<w1.heap.size→K' b j) {l:List AV} {vs:List Value} (hr:bm (gK w1.heap.size (qb w1)) w1 l vs):bm (gK w.heap.size K') w l vs:=
 hr.al8 (K:=qb w1) (fun b h1 h2=>absurd (h2 0) (Nat.not_lt.2 h1)) (fun b j hk=>hK b j hk) (fun b _ (hk:b<w1.heap.size)=>h.low b hk (hS b hk))
theorem bm.win {S:Nat→Prop} {w3 D ds w4} {K':Nat→Nat→Prop} (h:l6 S w3 D ds w4) (hK:∀ b j,K' b j→b<w3.heap.size∧¬ S b) {l:List AV} {vs:List Value} (hr:bm (gK w3.heap.size K') w3 l vs):bm (gK w4.heap.size (qb w4)) w4 l vs:=
 hr.al8 (K:=K') (fun b h1 h2=>absurd (hK b 0 (h2 0)).1 (Nat.not_lt.2 h1)) (fun b j hk=>Nat.lt_of_lt_of_le (hK b j hk).1 h.size) (fun b j hk=>h.low b (hK b j hk).1 (hK b j hk).2)
theorem arz {P:Program} [KP P] {o:Oper} {a:Act} {g:Gh} {st st':St} {w:World} {ρ:Operand→AV} {r:AV} (hok:Ok g st.h w) (hf:lz g st st') (hr:l5 g w ρ a.eval) (h:mono (Ac P o ρ) st=some (r,st')) {v0:Value}
 (hx:∀ nx w',(execOp a.eval o).run P w = .ok nx w'→nx = .value v0) :
 C1 P o a w (fun v w'=>v=v0∧∃ g',Step g st.h w st.nx st'.nx g' st'.h w'∧Ok g' st'.h w'∧Rel g' w' r v):=by
 obtain ⟨h1,hle⟩:=rq h
 have hd:∀ c,o.op ≠ .defer c:=by
  intro c e
  unfold Ac at h1
  rw [e] at h1
  cases h1
 obtain ⟨nx,w',g',q1,q2,q3,q4⟩:=aav (P:=P) hok hf hr h1
 have e0:=hx nx w' q1
 subst e0
 intro ro N K Q hK
 refine ⟨i4 ro P o a w,?_⟩
 rw [Oper.semAt_eq _ _ _ hd,q1]
 rcases q4 with ⟨v,e,hv⟩|⟨e,_⟩
 ·cases e
  exact hK v0 w' ⟨rfl,g',q2,q3,hv⟩
 ·cases e
theorem th {P:Program} [KP P] {T:dv} (hT:an P T) {B:dy} {nt:NT} (hnf:B.j5) {N:Nat} {ops:Array Oper} {l2:List Oper} {o:Oper} {X:Exit→Act→World→Prop} {L st g a w} (hg:kp nt ops=true) (hd:oa nt ops=true) (hmo:o ∈ ops) (hgd:o.guard=none)
 {r:AV} {st':St} (h:mono (Ac P o (dh L)) st=some (r,st')) (hh:fj B nt L st g a w) {v0:Value} (hx:∀ nx w',(execOp a.eval o).run P w = .ok nx w'→nx = .value v0)
 (hK:∀ g' w',fj B nt (jl o.dst r L) st' g' (a.put o.dst v0) w'→uz P N ops l2 X (a.put o.dst v0) w'):uz P N ops (o::l2) X a w:=by
 intro is his
 obtain ⟨hc,hr,hdf⟩:=hh
 cases is with
 |nil=>cases his
 |cons i is=>
  simp only [List.map_cons,List.cons.injEq] at his
  obtain ⟨hi,his⟩:=his
  simp only [wpOpsIn,hi]
  have hw:Region.wanted o (yielded ops a.tmps)=true:=by simp [Region.wanted,hgd]
  rw [hw,if_pos rfl]
  refine arz hc.ok (hc.free (hnf.qh _ _)) hr.eval h hx none N _ _ ?_
  rintro u w' ⟨rfl,g',q1,q2,q3⟩
  exact hK g' w' ⟨hc.step (hnf.qh _ _) ⟨(rq h).2,q1⟩ q2,(hr.ext q1.ext).put q3 (j4 hd hmo),by rw [put_defers];exact hdf.step q1⟩ is his
theorem as7 {P:Program} {g:Gh} {st st':St} {w:World} {t:TypeId} {l c r:AV} {lv cv:Value} (hl:Rel g w l lv) (hc:Rel g w c cv) (h:mj P t l c st=some (r,st')) {n m:Int} (hn:su l=some n) (hm:su c=some m) {x:Value} {w2:World}
 (hx:(Instr.makeSlice t lv cv).run P w = .ok x w2):x = .slice (some ⟨w.heap.size,0,none⟩) n.toNat m.toNat:=by
 unfold mj at h
 cases he:np P t with
 |none=>simp [he,M.fail] at h
 |some e=>
 cases hsz:de P e with
 |none=>simp [he,hn,hm,hsz,M.fail] at h
 |some sz=>
 cases hz:fh P e with
 |none=>simp [he,hn,hm,hsz,hz,M.fail] at h
 |some z=>
 cases hby:jt P e with
 |none=>simp [he,hn,hm,hsz,hz,hby,M.fail] at h
 |some bytes=>
 simp only [he,hn,hm,hsz,hz,hby] at h
 rcases cd h with ⟨hcc,h2⟩|⟨_,h2⟩
 case inr=>cases h2
 simp only [Bool.and_eq_true,decide_eq_true_eq] at hcc
 obtain ⟨⟨⟨⟨c1,c2⟩,c3⟩,c4⟩,c5⟩:=hcc
 have c5:=Nat.eq_of_beq_eq_true c5
 obtain ⟨i,hi,rfl⟩:=Tk hby
 have hwl:IntKind.i64.wrap n=n:=yk c1 (by omega)
 have hwc:IntKind.i64.wrap m=m:=yk (by omega) (by omega)
 have n1:¬ (m<0):=by omega
 have n2:¬ (n<0):=by omega
 have n3:¬ (m<n):=by omega
 have n4:¬ ((i.bytes:Int) * m > 281474976710656):=by rw [Int.mul_comm];omega
 have a1:=Lb (P:=P) (w':=w) hl hn
 have a2:=Lb (P:=P) (w':=w) hc hm
 by_cases h0:m.toNat * sz=0
 ·simp [Instr.makeSlice,run_underlying (pk he),a1,a2,run_typeInfo hi,hwl,hwc,n1,n2,n3,n4,run_sizeOf hsz,h0,newRow] at hx
  exact hx.1.symm
 ·simp [Instr.makeSlice,run_underlying (pk he),a1,a2,run_typeInfo hi,hwl,hwc,n1,n2,n3,n4,run_sizeOf hsz,h0,newRow,kq hz] at hx
  exact hx.1.symm
theorem ap7 {P:Program} {g:Gh} {st st':St} {w:World} {a:Act} {o:Oper} {t:TypeId} {l c:Operand} {L:SL} {r:AV} (ho:o.op = .makeSlice t l c) (hl:Rel g w (dh L l) (a.eval l)) (hc:Rel g w (dh L c) (a.eval c)) (h:mj P t (dh L l) (dh L c) st=some (r,st')) {n m:Int} (hn:su (dh L l)=some n) (hm:su (dh L c)=some m) :
 ∀ nx w',(execOp a.eval o).run P w = .ok nx w'→nx = .value (.slice (some ⟨w.heap.size,0,none⟩) n.toNat m.toNat):=by
 intro nx w' hx
 obtain ⟨dst,op,ty,pos,af,gd⟩:=o
 subst ho
 cases hr:(Instr.makeSlice t (a.eval l) (a.eval c)).run P w with
 |ok x w2=>
  have h1:(execOp a.eval ⟨dst,.makeSlice t l c,ty,pos,af,gd⟩).run P w = .ok (.value x) w2:=by simp [execOp,hr]
  rw [h1] at hx
  cases hx
  rw [as7 hl hc h hn hm hr]
 |_=>
  simp [execOp,hr] at hx
theorem arl {P:Program} [KP P] {T:dv} (hT:an P T) {B:dy} {nt:NT} (hnf:B.j5) {N:Nat} {ops:Array Oper} {l1 l2:List Oper} {K:SL→St→Prop} {X:Exit→Act→World→Prop} {L st g a w} (hg:kp nt ops=true) (hd:oa nt ops=true) (hm:∀ o ∈ l1,o ∈ ops)
 (h:opsL P T ops l1 K L st) (hh:fj B nt L st g a w) (hK:∀ L' st' g' a' w',K L' st'→fj B nt L' st' g' a' w'→uz P N ops l2 X a' w'):uz P N ops (l1++l2) X a w:=by
 have key:∀ (l:List Oper) (is:List Nat),(∀ o ∈ l,o ∈ ops)→is.map (fun i=>ops[i]?)=(l++l2).map some→∀ L st g a w,opsL P T ops l K L st→fj B nt L st g a w→wpOpsIn (eh none) N P ops X is a w:=by
  intro l
  induction l with
  |nil=>
   intro is _ his L st g a w h hh
   exact hK L st g a w h hh is his
  |cons o l ih=>
   intro is hmem his L st g a w h hh
   obtain ⟨hc,hr,hdf⟩:=hh
   cases is with
   |nil=>cases his
   |cons i is=>
    simp only [List.cons_append,List.map_cons,List.cons.injEq] at his
    obtain ⟨hi,his⟩:=his
    have ho:=hmem o (by simp)
    simp only [wpOpsIn,hi]
    rcases tm hr (uu hg ho) h with ⟨hw,h1⟩|⟨hw,h1⟩
    ·rw [hw,if_pos rfl]
     unfold I6 yr at h1
     cases hop:fo P T o (dh L) st with
     |none=>
      rw [hop] at h1
      refine Eh hc.ok (fun o ho=>hc.fresh o ho (hnf o)) hr.eval h1 none N _ _ ?_
      rintro u w' ⟨g',v,st',q0,q1,q2,q3,q4⟩
      exact ih is (fun o ho=>hmem o (by simp [ho])) his _ st' g' _ w' q0 ⟨hc.step (hnf.qh _ _) ⟨q1,q2⟩ q3,(hr.ext q2.ext).put q4 (j4 hd ho),by rw [put_defers];exact hdf.step q2⟩
     |some p=>
      obtain ⟨v,st'⟩:=p
      rw [hop] at h1
      refine A5 hT hc.ok (hc.free (hnf.qh _ _)) hr.eval hop none N _ _ ?_
      rintro u w' ⟨g',q1,q2,q3⟩
      exact ih is (fun o ho=>hmem o (by simp [ho])) his _ st' g' _ w' h1 ⟨hc.step (hnf.qh _ _) ⟨uw hop,q1⟩ q2,(hr.ext q1.ext).put q3 (j4 hd ho),by rw [put_defers];exact hdf.step q1⟩
    ·rw [hw,if_neg (by simp)]
     refine ⟨i4 none P o a w,?_⟩
     exact ih is (fun o ho=>hmem o (by simp [ho])) his _ st g _ w h1 ⟨hc,hr.put (.sc _) (j4 hd ho),by rw [put_defers];exact hdf⟩
 intro is his
 exact key l1 is hm his L st g a w h hh
theorem afa {P:Program} {N:Nat} {ops:Array Oper} {X:Exit→Act→World→Prop} {a:Act} {w:World} (h:X .normal a w):uz P N ops [] X a w:=by
 intro is his
 cases is with
 |nil=>exact h
 |cons i is=>cases his
theorem Fb {P:Program} {a:Act} {o:Oper} {x:Operand} {w:World} {v:Value} (ho:o.op = .move x∨o.op = .assign x) (hv:a.eval x=v):∀ nx w',(execOp a.eval o).run P w = .ok nx w'→nx = .value v:=by
 intro nx w' hx
 obtain ⟨dst,op,ty,pos,af,gd⟩:=o
 rcases ho with ho|ho <;>
 ·subst ho
  simp only [execOp,hv] at hx
  cases hx
  rfl
theorem akg {P:Program} {g:Gh} {w:World} {a:Act} {o:Oper} {t e:TypeId} {x hi:Operand} {L:SL} {b len cap h sz:Nat} (ho:o.op = .slice t x none (some hi) none) (hρ:l5 g w (dh L) a.eval) (hx:a.eval x = .slice (some ⟨b,0,none⟩) len cap) (hc:len≤cap) (hcap : 0<cap)
 (hb:bounds (dh L) len none (some hi) none=some (0,h,false)) (hu:P.underlying t=some (.slice e)) (hs:de P e=some sz):∀ nx w',(execOp a.eval o).run P w = .ok nx w'→nx = .value (.slice (some ⟨b,0,none⟩) h cap):=by
 intro nx w' hr
 obtain ⟨_,_,m,h1,h2,h3,_,h5⟩:=ri (P:=P) (isS:=true) hρ hc hb
 have hm:=h5 rfl
 subst hm
 have h6:=sy (a:=some ⟨b,0,none⟩) hu hs h1
 obtain ⟨dst,op,ty,pos,af,gd⟩:=o
 subst ho
 have h7:(execOp a.eval ⟨dst,.slice t x none (some hi) none,ty,pos,af,gd⟩).run P w = .ok (.value (.slice (some ⟨b,0,none⟩) h m)) w:=by
  simp only [execOp,hx]
  have hne:¬ m=0:=by omega
  rw [if_neg hne] at h6
  simp only [Option.map_some,Option.map_none,Nat.zero_mul,Nat.sub_zero] at h6 ⊢
  simp [h6,Addr.add]
 rw [h7] at hr
 cases hr
 rfl
theorem atf {P:Program} [KP P] {g:Gh} {st st':St} {w:World} {a:Act} {o:Oper} {L:SL} {v0:Value} (hok:Ok g st.h w) (hf:lz g st st') (hr:l5 g w (dh L) a.eval) (h:mono (Ac P o (dh L)) st=some (.sc v0,st')) (hne:v0≠undef) :
 ∀ nx w',(execOp a.eval o).run P w = .ok nx w'→nx = .value v0:=by
 intro nx w' hx
 obtain ⟨nx2,w2,g',q1,q2,q3,q4⟩:=aav (P:=P) hok hf hr (rq h).1
 rw [hx] at q1
 cases q1
 rcases q4 with ⟨v,rfl,hv⟩|⟨rfl,e⟩
 ·rw [hv.exact rfl]
 ·cases e;exact (hne rfl).elim
theorem agu {P:Program} [KP P] {f:Nat} {fn:Func} {body:Code} (hf:P.funcs[f]? = some fn) (hb:fn.body=some body) {t:Nat} (hres:fn.results = #[.tmp t])
 {args:List AV} (hl:args.length≤fn.ntmps) {V:Nat→Value} {et:TypeId} {Good:Nat→Array Value→Prop}
 (h:∀ (B:dy) (g:Gh) (a:Act) (w:World),B.j5→B.az=0→(∀ b,¬ B.O b)→B.n0≤B.w.heap.size→B.b0=B.w.heap.size→fj B fn.ntmps (bp 0 args) (bf []) g a w→body.wpIn (eh none) 0 P (fun ex a' w'=>ex = .ret∧∃ L st g' b cs,fj B fn.ntmps L st g' a' w'∧a'.tmps.getD t undef=V b∧B.w.heap.size≤b∧w'.heap[b]? = some (.cells cs et (0,0))∧Good b cs) a w)
 {K:Nat→Nat→Prop} {w:World} {vs:List Value} (hK:∀ b j,K b j→b<w.heap.size) (hrel:bm (gK w.heap.size K) w args vs) :
 Calls P f vs.toArray w (fun e w'=>∃ b cs,e = .returned (V b)∧pc w w'∧w.heap.size≤b∧w'.heap[b]? = some (.cells cs et (0,0))∧Good b cs):=by
 refine ti (ro:=none) (n:=0) (callsIn_of_wp_marks hf hb trivial ?_)
 let B:dy:={ b0:=w.heap.size,w,K,O:=fun _=>False,az:=0,pb:=fun _=>none,n0:=w.heap.size }
 have hcur:js B (gK w.heap.size K) (bf []) w:=by
  refine ⟨⟨Nat.le_refl _,fun o x hx=>?_,fun o o' x x' b base base' _ hx=>?_,hK⟩,fun o _ _=>rfl,⟨rfl,(fun o ho=>(by rcases ho with ho|ho;cases ho;exact ho.elim)),fun _ _ h=>h,fun _ _ _=>rfl,Nat.le_refl _,rfl,rfl,rfl,fun _ _ _=>rfl,fun o b base ho=>?_,fun _ _ h=>.inl h,fun b cs e fr h=>⟨cs,fr,h,rfl⟩,fun b l h=>⟨l,h⟩,fun _ _ _ _ _ _=>rfl⟩,Nat.zero_le _⟩
  ·simp [bf,ll,Tr.get_nil] at hx
  ·simp [bf,ll,Tr.get_nil] at hx
  ·simp [bf,ll,Tr.get_nil] at ho
 refine wpIn_mono (h B (gK w.heap.size K) _ w (fun _ h=>h) rfl (fun _ h=>h) (Nat.le_refl _) rfl ⟨hcur,zg hrel hl,Marks.nil _ _ _ _⟩) ?_
 rintro ex a w' ⟨rfl,L,st,g,b,cs,hh,hv,hbb,hcs,hgd⟩
 show LeavesInM (eh none) 0 P fn a.tmps _ a.defers .returning w'
 have hbs:=hh.cur.base
 obtain ⟨bs,e1,e2,e3⟩:=hh.Ab
 have e1:=e1.trans (List.append_nil _)
 rw [e1]
 refine Bp (Good:=fun u=>pc w u∧u.heap[b]? = some (.cells cs et (0,0))) (S:=fun b=>w.heap.size≤b) ?_ ?_ bs w'
  ⟨⟨hbs.size,fun b hlt=>hbs.frame b hlt (fun h=>h),hbs.os,hbs.tape,hbs.output⟩,hcs⟩ e2 (fun b hb=>⟨(e3 b hb).1,(e3 b hb).2.1⟩)
 ·rintro u b' ⟨g2,g3⟩ hb1 hb3
  have hne:b'≠b:=fun e=>by subst e;rw [g3] at hb3;cases hb3
  exact ⟨⟨by rw [lg];exact g2.size,fun c hc=>(ec u _ (by omega)).trans (g2.heap c hc),g2.os,g2.tape,g2.output⟩,(ec u _ (by omega)).trans g3⟩
 ·rintro u ⟨g2,g3⟩
  refine ⟨V b,?_,b,cs,rfl,g2,hbb,g3,hgd⟩
  have hmap:(fn.results.mapM (rm a.tmps)).run P u = .ok #[V b] u:=by
   rw [Array.mapM_eq_mapM_toList,hres]
   simp [rm,hv]
  rw [Uj]
  simp only [Sem.run_bind,hmap,Result.andThen_ok,Sem.run_pure]
  rfl
theorem fj.less {B:dy} {nt nt':NT} {L L':SL} {st st':St} {g:Gh} {a:Act} {w:World} (hh:fj B nt L st g a w) (hnt:pv nt' a.tmps) (h:∀ t,lk L' t=lk L t∨lk L' t = .bad) (hn:st'.nx=st.nx) (hg:∀ o,st'.h.get o=st.h.get o):fj B nt' L' st' g a w:=by
 have h2:fj B nt' L' st g a w:=⟨hh.cur,⟨hnt,fun t=>by
  rcases h t with e|e
  ·rw [e];exact hh.sl.2 t
  ·rw [e];exact .bad _⟩,hh.Ab⟩
 exact h2.congr hn hg
theorem fj.aAs {B:dy} {nt L st g a w} (hh:fj B nt L st g a w) {t o k n sz:Nat} {cells:List AV} {et:TypeId} (hn:n≠0) (hl:lk L t = .sl o 0 n sz) (ho:st.h.get o=some (.row cells k 0 et)) :
 ∃ b cap cs,a.tmps.getD t undef = .slice (some ⟨b,0,none⟩) n cap∧B.b0≤b∧w.heap[b]? = some (.cells cs et (0,0))∧∀ (i:Nat) x,cells[i]? = some x→∃ c,cs[i]? = some c∧Rel g w x c:=by
 have h1:=hh.sl.2 t
 rw [hl] at h1
 obtain ⟨v,hv⟩:∃ v,a.tmps.getD t undef=v:=⟨_,rfl⟩
 rw [hv] at h1 ⊢
 cases h1 with
 |sx _ _ _ a=>exact (hn rfl).elim
 |tu _ _ _=>exact (hn rfl).elim
 |sl _ _ _ _ b base cap hi hc hm hr=>
  obtain ⟨b',base',q1,q2,cs,fr,q3,q4,q5,q6,q7,q8,q9,q10⟩:=hh.cur.ok.obj o _ ho ⟨_,hi⟩
  rw [hi] at q1;cases q1
  have hf:=q8 (by decide)
  have hs:=q10 rfl
  have e1:=hs.1
  subst hf e1
  exact ⟨b,cap,cs,rfl,by rw [← hh.cur.base.b0];exact q2,q3,fun i x hx=>by
   obtain ⟨c,hc,hr⟩:=q5 i x hx
   rw [Nat.zero_add] at hc
   exact ⟨c,hc,hr⟩⟩
theorem E4 {α:Type} (x : α) (st:St):mono (M.pure x) st=some (x,st):=by
 unfold mono M.pure
 simp only [Nat.ble_eq_true_of_le (Nat.le_refl _),cond_true]
theorem bb.calls {P:Program} [KP P] {f:Nat} {args:List AV} {r:AV} (h:bb P f args r) (he:l8 P f=true) {K:Nat→Nat→Prop} {w:World} {vs:List Value} (hK:∀ b j,K b j→b<w.heap.size) (hrel:bm (gK w.heap.size K) w args vs) :
 Calls P f vs.toArray w (fun e w'=>∃ v,e = .returned v∧pc w w'∧Rel (gK w.heap.size (Iz K w w')) w' r v):=by
 rcases h K w vs hK hrel with ⟨v,h1,_⟩|⟨_,h2⟩
 ·rw [oz he] at h1;cases h1
 ·exact h2
theorem alg {o:Oper} {f:Nat} {d:Option Nat} {args:List Nat} (h:Cm { o with guard:=none }=some (d,f,args)):∃ ts pos af ty gd,o=⟨d,.call { callee:=.value (.func f),args:=(args.map Operand.tmp).toArray,argTypes:=ts },ty,pos,af,gd⟩:=by
 obtain ⟨ts,pos,af,ty,e⟩:=Wv h
 obtain ⟨dst,op,ty',pos',af',gd⟩:=o
 simp only [Oper.mk.injEq] at e
 obtain ⟨rfl,rfl,rfl,rfl,rfl,_⟩:=e
 exact ⟨ts,_,_,_,_,rfl⟩
theorem akr {P:Program} [KP P] {T:dv} (hT:an P T) {B:dy} {nt:NT} (hnf:B.j5) {N:Nat} {ops:Array Oper} {l1 l2:List Oper} {o:Oper} {K:SL→St→Prop} {X:Exit→Act→World→Prop} {L st g a w} (hg:kp nt ops=true) (hd:oa nt ops=true) (hm:∀ o ∈ l1,o ∈ ops) (hmo:o ∈ ops)
 {f:Nat} {args:List Nat} {d:Option Nat} (hl:Cm { o with guard:=none }=some (d,f,args)) (he:l8 P f=true)
 (h:opsL P T ops l1 K L st) (hh:fj B nt L st g a w)
 (hgo:∀ L' st',K L' st'→guarded ops L' o.guard True False)
 (hK:∀ L' st' g' a' w',K L' st'→fj B nt L' st' g' a' w'→Calls P f (args.map fun t=>a'.tmps.getD t undef).toArray w' (fun e w''=>∃ r,e = .returned r∧∀ a'',a''.defers=a'.defers→a''.tmps.size=a'.tmps.size→(∀ t,d≠some t→a''.tmps.getD t undef=a'.tmps.getD t undef)→(∀ dd,d=some dd→a''.tmps.getD dd undef=r)→uz P N ops l2 X a'' w'')) :
 uz P N ops (l1++o::l2) X a w:=by
 obtain ⟨ts,pos,af,ty,gd,rfl⟩:=alg hl
 have key:∀ (l:List Oper) (is:List Nat),(∀ o ∈ l,o ∈ ops)→is.map (fun i=>ops[i]?)=(l++(⟨d,.call { callee:=.value (.func f),args:=(args.map Operand.tmp).toArray,argTypes:=ts },ty,pos,af,gd⟩:Oper)::l2).map some→∀ L st g a w,opsL P T ops l K L st→fj B nt L st g a w→wpOpsIn (eh none) N P ops X is a w:=by
  intro l
  induction l with
  |nil=>
   intro is _ his L st g a w h hh
   rw [List.nil_append] at his
   match is,his with
   |i::is,his=>
    simp only [List.map_cons,List.cons.injEq] at his
    obtain ⟨hi,his⟩:=his
    have hK':=hK L st g a w h hh
    simp only [wpOpsIn,hi]
    have hw:Region.wanted (⟨d,.call { callee:=.value (.func f),args:=(args.map Operand.tmp).toArray,argTypes:=ts },ty,pos,af,gd⟩:Oper) (yielded ops a.tmps)=true:=by
     rcases tm hh.sl (uu hg hmo) (hgo L st h) with ⟨q,_⟩|⟨_,q⟩
     ·exact q
     ·exact q.elim
    rw [hw,if_pos rfl]
    refine ⟨i4 none P _ a w,?_⟩
    rw [Oper.semAt_eq _ _ _ (by intro c e;cases e)]
    have hrun:(execOp a.eval (⟨d,.call { callee:=.value (.func f),args:=(args.map Operand.tmp).toArray,argTypes:=ts },ty,pos,af,gd⟩:Oper)).run P w=(callFunc f (args.map fun t=>a.tmps.getD t undef).toArray).run P w:=by
     rw [Aq (h:=f) (first:=#[]) (captured:=#[]) (f:=.func f) rfl rfl]
     congr 2
     apply Array.ext'
     simp [Act.eval]
    rw [hrun,oz he]
    refine ⟨(fun h=>(by cases h)),(ni (ro:=none) (n:=N - 1) hK').mono ?_⟩
    rintro e w' ⟨r,rfl,hX⟩
    have hdd:=fun dd (e:d=some dd)=>j4 hd hmo dd e
    show wpOpsIn (eh none) N P ops X is (a.put d r) w'
    refine hX _ (put_defers _ _ _) ?_ (fun t ht=>?_) (fun dd e=>?_) is his
    ·cases d with
     |none=>rfl
     |some dd=>show (a.tmps.setIfInBounds dd r).size=_;simp
    ·cases d with
     |none=>rfl
     |some dd=>
      have hne:dd≠t:=fun e=>ht (by rw [e])
      show (a.tmps.setIfInBounds dd r).getD t undef=a.tmps.getD t undef
      rw [Array.getD_eq_getD_getElem?,Array.getElem?_setIfInBounds,if_neg hne,Array.getD_eq_getD_getElem?]
    ·subst e
     have:=(NT.Er (hdd dd rfl)).1
     show (a.tmps.setIfInBounds dd r).getD dd undef=r
     rw [Array.getD_eq_getD_getElem?,Array.getElem?_setIfInBounds,if_pos rfl,if_pos (by rw [hh.sl.1.size];exact this)];rfl
   | [],his=>cases his
  |cons o l ih=>
   intro is hmem his L st g a w h hh
   obtain ⟨hc,hr,hdf⟩:=hh
   cases is with
   |nil=>cases his
   |cons i is=>
    simp only [List.cons_append,List.map_cons,List.cons.injEq] at his
    obtain ⟨hi,his⟩:=his
    have ho:=hmem o (by simp)
    simp only [wpOpsIn,hi]
    rcases tm hr (uu hg ho) h with ⟨hw,h1⟩|⟨hw,h1⟩
    ·rw [hw,if_pos rfl]
     unfold I6 yr at h1
     cases hop:fo P T o (dh L) st with
     |none=>
      rw [hop] at h1
      refine Eh hc.ok (fun o ho=>hc.fresh o ho (hnf o)) hr.eval h1 none N _ _ ?_
      rintro u w' ⟨g',v,st',q0,q1,q2,q3,q4⟩
      exact ih is (fun o ho=>hmem o (by simp [ho])) his _ st' g' _ w' q0 ⟨hc.step (hnf.qh _ _) ⟨q1,q2⟩ q3,(hr.ext q2.ext).put q4 (j4 hd ho),by rw [put_defers];exact hdf.step q2⟩
     |some p=>
      obtain ⟨v,st'⟩:=p
      rw [hop] at h1
      refine A5 hT hc.ok (hc.free (hnf.qh _ _)) hr.eval hop none N _ _ ?_
      rintro u w' ⟨g',q1,q2,q3⟩
      exact ih is (fun o ho=>hmem o (by simp [ho])) his _ st' g' _ w' h1 ⟨hc.step (hnf.qh _ _) ⟨uw hop,q1⟩ q2,(hr.ext q1.ext).put q3 (j4 hd ho),by rw [put_defers];exact hdf.step q1⟩
    ·rw [hw,if_neg (by simp)]
     refine ⟨i4 none P o a w,?_⟩
     exact ih is (fun o ho=>hmem o (by simp [ho])) his _ st g _ w h1 ⟨hc,hr.put (.sc _) (j4 hd ho),by rw [put_defers];exact hdf⟩
 intro is his
 exact key l1 is hm his L st g a w h hh
theorem abc {S:Nat→Prop} {m:Nat} {xx:Bool} {w w':World} (h:u6 S m xx w w') {b sz:Nat} {cs:Array Value} {e:TypeId} (hb:w.heap[b]? = some (.cells cs e (0,0))) (hs:TK.sz e=some sz) (hz:sz≠4) :
 ∃ cs':Array Value,w'.heap[b]? = some (.cells cs' e (0,0))∧cs'.size=cs.size∧∀ (j:Nat) x,cs[j]? = some x→sv x = .no→cs'[j]? = some x:=by
 obtain ⟨cs',q1,q2,q3⟩:=h.cells b cs e _ hb
 refine ⟨cs',q1,q2,fun j x hx hn=>?_⟩
 have hlt:j<cs'.size:=by rw [q2];exact (Array.getElem?_eq_some_iff.1 hx).1
 have hx':=Array.getElem?_eq_getElem hlt
 rw [hx',(q3 j x _ hx hx').same hs hz hn]
theorem Vr {cs:Array Value} (h:cs.size=3):∃ a b c,cs.toList=[a,b,c]:=by
 have h2:cs.toList.length=3:=by simpa using h
 match hc:cs.toList,h2 with
 | [a,b,c],_=>exact ⟨a,b,c,rfl⟩
theorem at3 {cs:Array Value} {a b c:Value} (h:cs.toList=[a,b,c]):cs[0]? = some a∧cs[1]? = some b∧cs[2]? = some c:=by
 refine ⟨?_,?_,?_⟩<;>rw [← Array.getElem?_toList,h]<;>rfl
end
end Go.Vm
section
namespace Go.Proofs.YtjagjbceegbaiaaGreat
open Go.Vm
set_option maxRecDepth 2000000
theorem alw (s:bj) (hs:dc s):wl PP [A2,arh] 0 (Tryz.f81.body.getD .skip) (ct PP Tryz.f81.results.toList (fun r st=>(r1 aq).get true st.h r=some s)) (bp 0 [aq.val false s]) (bf []):=by
 have ho:=hs.owner
 have hd:=hs.data
 have hn:=hd.len
 unfold Tryz.f81
 simp only [jb]
 simp only [↓wR,RA,simprocAttr,TF,ae,pd,ho]
 refine gz [2,13,14,15,3] (fun (x:List bo)=>[.ptr 0 0,.vl false 4 (s.data.map (ba.val false)),.sc (.int .i64 (s.data.length)),.sc (.int .i64 (x.length)),.ptr 1 0]) (fun x=>[some (.row [.sc (.slice none 0 0),.sc (.int .u16 0),.sc (.int .u16 0),.sc (.int .u32 0),.sc (.slice none 0 0)] 0 2 63),some (.row [ai.val true s.owner,.sc (.int .u16 s.type.toNat),.sc (.int .u16 s.cls.toNat),.sc (.int .u32 s.j9.toNat),.sl 2 0 x.length 4] 0 2 63),some (.row (cellsOf ba true x) 0 0 116)]) (fun x=>x.length≤s.data.length∧x++s.data.drop x.length=s.data) (fun x=>s.data.length - x.length) [] ⟨Nat.zero_le _,rfl⟩ (by simp only [↓wR,RA,simprocAttr,TF,ae];(refine jo.lax [] (by first|exact Nat.le_of_ble_eq_true rfl|(simp [di];omega)) ?_ ?_<;>repeat' first|exact er.nil|exact cp.nil|exact ft.same _|exact ft.nil _ _ _|exact ft.oi _ _|exact cp.refl _ _|apply er.cons|apply cp.ghost|apply cp.same|apply cp.row)) ?_
 rintro x ⟨hi,hx⟩
 simp only [↓wR,RA,simprocAttr,TF,ae]
 rw [be];refine ⟨fun h=>?_,fun h=>?_⟩
 ·obtain ⟨c,hc,hd1,hlt⟩:=dq (decide_eq_true h)
  rw [hd1] at hx
  have hcs:=hd.mem c (List.mem_of_getElem? hc)
  simp only [↓wR,RA,simprocAttr,TF,ae,h,hc]
  refine ⟨by kernel_rfl,.inl ?_⟩
  have hlim:(x.length * 4+4) * 96≤140737488355328:=by omega
  simp only [↓wR,RA,simprocAttr,TF,ae,Cc,hcs,hlim]
  refine ⟨by kernel_rfl,x++[c],⟨by simp;omega,by simpa using hx⟩,by simp;omega,by (first|rfl|trivial|omega|((try (simp (disch:=omega) only [ah]));(try (simp only [FB]));first|done|rfl|omega)),?_⟩
  rw [Jm,List.length_append];rfl
 ·rw [en (decide_eq_false h)] at hx
  rw [List.append_nil] at hx
  subst hx
  simp only [↓wR,RA,simprocAttr,TF,ae,h]
noncomputable def Ao (x:bj × Unit):Option AV:=if dc x.1 then some ((r1 aq).E true (x.1)) else none
set_option maxRecDepth 2000000 in
theorem aa0 (x:bj × Unit) (r:AV) (h:Ao x=some r):bb PP 81 ((aC aq a0).E x) r:=by
 by_cases hc:dc x.1
 case neg=>simp only [Ao,if_neg hc] at h;cases h
 simp only [Ao,if_pos hc] at h
 cases h
 exact ar (an.cons (ak qj) (an.cons (ak Y8) (an.nil PP))) Tryz.func81 (by kernel_rfl) (by kernel_rfl) (by kernel_rfl) (Nat.le_of_ble_eq_true (by kernel_rfl)) (r1 aq) true (x.1) (alw x.1 hc)
noncomputable abbrev av7:Nat × Bool × (List AV→M AV):=(81,true,cg (aC aq a0) Ao)
def Pj (z:ay):Nat:=bq z.origin+ko v5 z.aj
def bg (z:ay):Prop:=Pj z≤16777216
instance (z:ay):Decidable (bg z):=inferInstanceAs (Decidable (_≤_))
theorem bg.origin {z:ay} (h:bg z):aw z.origin:=by unfold bg Pj at h;unfold aw;omega
theorem bg.set {z:ay} (h:bg z):∀ s ∈ z.aj,dc s:=fun s hs=>by
 have h1:v5 s<ko v5 z.aj:=Gx hs
 unfold bg Pj at h;unfold dc;omega
theorem bg.len {z:ay} (h:bg z):z.aj.length≤16777216:=by have:=Du v5 z.aj;unfold bg Pj at h;omega
def Bh (n top:Name):Bool:=decide (top.length<n.length) && c7 n top
theorem aqu (n top:Name) (hn:aw n) (ht:aw top):wl PP [yg] 0 (Tryz.f79.body.getD .skip) (ct PP Tryz.f79.results.toList (fun r st=>(r1 bd).get true st.h r=some (Bh n top))) (bp 0 [ai.val false n,ai.val false top]) (bf []):=by
 unfold Tryz.f79
 simp only [bn]
 simp only [↓wR,RA,simprocAttr,TF,ae]
 unfold Bh
 rw [be];refine ⟨fun h=>?_,fun h=>?_⟩
 ·rw [decide_eq_true (show top.length<n.length by omega)]
  simp only [↓wR,RA,simprocAttr,TF,ae,h,nn,hn,ht]
 ·rw [decide_eq_false (show ¬ top.length<n.length by omega)]
  simp only [↓wR,RA,simprocAttr,TF,ae,h]
  rfl
noncomputable def Hx (x:Name × Name × Unit):Option AV:=if aw x.1∧aw x.2.1 then some ((r1 bd).E true (Bh x.1 x.2.1)) else none
set_option maxRecDepth 2000000 in
theorem afp (x:Name × Name × Unit) (r:AV) (h:Hx x=some r):bb PP 79 ((aC ai (aC ai a0)).E x) r:=by
 by_cases hc:aw x.1∧aw x.2.1
 case neg=>simp only [Hx,if_neg hc] at h;cases h
 simp only [Hx,if_pos hc] at h
 cases h
 exact ar (an.cons (ak pn) (an.nil PP)) Tryz.func79 (by kernel_rfl) (by kernel_rfl) (by kernel_rfl) (Nat.le_of_ble_eq_true (by kernel_rfl)) (r1 bd) true (Bh x.1 x.2.1) (aqu x.1 x.2.1 hc.1 hc.2)
noncomputable abbrev aw6:Nat × Bool × (List AV→M AV):=(79,true,cg (aC ai (aC ai a0)) Hx)
def wc (z:ay) (n:Name):List bj:=z.aj.filter fun s=>eg s.owner n
theorem ap9 {l:List bj} {p:bj→Bool} {i:Nat} {c:bj} (h:l.drop i=c::l.drop (i+1)):(l.drop i).filter p=(if p c=true then [c] else [])++(l.drop (i+1)).filter p:=by
 rw [h,List.filter_cons];split<;>rfl
theorem ajb {l:List bj} (p:bj→Bool):(l.filter p).length≤l.length:=List.length_filter_le _ _
theorem azl (z:ay) (n:Name) (hz:bg z) (hn:aw n):wl PP [fi,av7] 0 (Tryz.f44.body.getD .skip) (ct PP Tryz.f44.results.toList (fun r st=>(r1 (cj aq)).get true st.h r=some (wc z n))) (bp 0 [bc.val false z,ai.val false n]) (bf []):=by
 have hl:=hz.len
 unfold Tryz.f44
 simp only [dr,bn]
 simp only [↓wR,RA,simprocAttr,TF,ae]
 refine gz [1,9,10,11,5] (fun (x:Nat × List bj)=>[.vl false 1 (n.map (ag.val false)),.vl false 5 (z.aj.map (aq.val false)),.sc (.int .i64 (z.aj.length)),.sc (.int .i64 (x.1)),.sl 0 0 x.2.length 5]) (fun x=>[some (.row (cellsOf aq true x.2) 0 0 63)]) (fun x=>x.1≤z.aj.length∧x.2++(z.aj.drop x.1).filter (fun s=>eg s.owner n)=wc z n) (fun x=>z.aj.length - x.1) (0,[]) ⟨Nat.zero_le _,rfl⟩ (by simp only [↓wR,RA,simprocAttr,TF,ae];(refine jo.lax [] (by first|exact Nat.le_of_ble_eq_true rfl|(simp [di];omega)) ?_ ?_<;>repeat' first|exact er.nil|exact cp.nil|exact ft.same _|exact ft.nil _ _ _|exact ft.oi _ _|exact cp.refl _ _|apply er.cons|apply cp.ghost|apply cp.same|apply cp.row)) ?_
 rintro ⟨i,x⟩ ⟨hi,hx⟩
 simp only at hi hx
 have hxl:x.length≤z.aj.length:=by
  have h1:=ajb (l:=z.aj) (fun s=>eg s.owner n)
  have h2:=congrArg List.length hx
  simp only [List.length_append,wc] at h2
  omega
 simp only [↓wR,RA,simprocAttr,TF,ae]
 rw [be];refine ⟨fun h=>?_,fun h=>?_⟩
 ·obtain ⟨c,hc,hd1,hlt⟩:=dq (decide_eq_true h)
  rw [ap9 hd1] at hx
  have hcs:=hz.set c (List.mem_of_getElem? hc)
  simp only [↓wR,RA,simprocAttr,TF,ae,h,hc,lh,hcs.owner,hn]
  rw [ca];refine ⟨fun h1=>?_,fun h1=>?_⟩
  ·rw [if_pos h1] at hx
   have hlim:(x.length * 5+5) * 64≤140737488355328:=by omega
   simp only [↓wR,RA,simprocAttr,TF,ae,h1,Ao,hcs,hlim];repeat (simp (disch:=omega) only [ah,bw,bz,bu,bt];try simp only [↓wR,RA,simprocAttr,TF,ae,h1,Ao,hcs,hlim])
   refine ⟨(i+1,x++[c]),⟨hlt,by rw [← hx];simp⟩,by simp;omega,by (first|rfl|trivial|omega|((try (simp (disch:=omega) only [ah]));(try (simp only [FB]));first|done|rfl|omega)),?_⟩
   rw [Ez]
  ·rw [if_neg (by rw [h1];decide)] at hx
   simp only [↓wR,RA,simprocAttr,TF,ae,h1];repeat (simp (disch:=omega) only [ah,bw,bz,bu,bt];try simp only [↓wR,RA,simprocAttr,TF,ae,h1])
   exact ⟨(i+1,x),⟨hlt,hx⟩,by simp;omega,by (first|rfl|trivial|omega|((try (simp (disch:=omega) only [ah]));(try (simp only [FB]));first|done|rfl|omega)),by (first|rfl|trivial|omega|((try (simp (disch:=omega) only [ah]));(try (simp only [FB]));first|done|rfl|omega))⟩
 ·rw [en (decide_eq_false h)] at hx
  rw [List.filter_nil,List.append_nil] at hx
  subst hx
  simp only [↓wR,RA,simprocAttr,TF,ae,h]
noncomputable def aah (x:ay × Name × Unit):Option AV:=if bg x.1∧aw x.2.1 then some ((r1 (cj aq)).E true (wc x.1 x.2.1)) else none
set_option maxRecDepth 2000000 in
theorem asf (x:ay × Name × Unit) (r:AV) (h:aah x=some r):bb PP 44 ((aC bc (aC ai a0)).E x) r:=by
 by_cases hc:bg x.1∧aw x.2.1
 case neg=>simp only [aah,if_neg hc] at h;cases h
 simp only [aah,if_pos hc] at h
 cases h
 exact ar (an.cons (ak om) (an.cons (ak aa0) (an.nil PP))) Tryz.func44 (by kernel_rfl) (by kernel_rfl) (by kernel_rfl) (Nat.le_of_ble_eq_true (by kernel_rfl)) (r1 (cj aq)) true (wc x.1 x.2.1) (azl x.1 x.2.1 hc.1 hc.2)
noncomputable abbrev zAt:Nat × Bool × (List AV→M AV):=(44,true,cg (aC bc (aC ai a0)) aah)
def Ar (n:Name) (b:Option Name):Bool:=match b with|none=>true|some m=>decide (n.length<m.length)
def j6 (z:ay) (n:Name) (best:Option Name) (s:bj):Option Name:=
 if (decide ((s.type.toNat:Int)=2) && (Bh s.owner z.origin && (c7 n s.owner && Ar s.owner best)))=true then some s.owner else best
def k6 (z:ay) (n:Name):Option Name:=z.aj.foldl (j6 z n) none
theorem J6 {z:ay} {n:Name} (hz:bg z):∀ (l:List bj) (b:Option Name),(∀ s ∈ l,s ∈ z.aj)→(∀ m,b=some m→aw m)→∀ m,l.foldl (j6 z n) b=some m→aw m:=by
 intro l
 induction l with
 |nil=>intro b _ hb m hm;exact hb m hm
 |cons s l ih=>
  intro b hl hb m hm
  refine ih (j6 z n b s) (fun x hx=>hl x (by simp [hx])) (fun q hq=>?_) m hm
  unfold j6 at hq
  split at hq
  ·cases hq;exact (hz.set s (hl s (by simp))).owner
  ·exact hb q hq
theorem axp (z:ay) (n:Name) (hz:bg z) (hn:aw n):wl PP [yg,aw6,A2] 0 (Tryz.f42.body.getD .skip) (ct PP Tryz.f42.results.toList (fun r st=>(r2 ai bd).get true st.h r=some ((k6 z n).getD [],(k6 z n).isSome))) (bp 0 [bc.val false z,ai.val false n]) (bf []):=by
 have hl:=hz.len
 unfold Tryz.f42
 simp only [dr,bn]
 simp only [↓wR,RA,simprocAttr,TF,ae]
 refine cz (T:=[]) (an.nil PP) mixed Tryz.func78 rfl (by kernel_rfl) (by kernel_rfl) (by kernel_rfl) (by kernel_rfl) ?_;unfold Tryz.f78
 simp only [↓wR,RA,simprocAttr,TF,ae]
 refine ⟨[2,3,6,7,10],?_⟩
 have hib:Br PP 131=some (Tryz.f131.ntmps,Tryz.f131.body.getD .skip):=by kernel_rfl
 simp only [↓wR,RA,simprocAttr,TF,ae,hib]
 refine ⟨by kernel_rfl,fun l=>?_⟩
 unfold Tryz.f131
 simp only [↓wR,RA,simprocAttr,TF,ae]
 refine ako [0,2,7,8,9] (fun (x:Nat × Option Name)=>[.sc (.func (.yield l) #[] #[]),.ptr 5 0,.vl false 5 (z.aj.map (aq.val false)),.sc (.int .i64 (z.aj.length)),.sc (.int .i64 (x.1))]) (fun x=>[some (.row [.vl false 1 (z.origin.map (ag.val false)),.vl false 5 (z.aj.map (aq.val false))] 0 2 26),some (.row [.vl false 1 (n.map (ag.val false))] 0 2 23),some (.row [.vl false 1 ((x.2.getD []).map (ag.val false))] 0 2 23),some (.row [.sc (.bool (x.2.isSome))] 0 2 4),some (.row [.vl false 1 (z.origin.map (ag.val false)),.vl false 5 (z.aj.map (aq.val false))] 0 2 26),some (.row [.sc (.int .u16 2)] 0 2 50)]) (fun x=>x.1≤z.aj.length∧k6 z n=(z.aj.drop x.1).foldl (j6 z n) x.2∧∀ m,x.2=some m→aw m) (fun x=>z.aj.length - x.1) (0,none) ⟨Nat.zero_le _,rfl,fun m hm=>by cases hm⟩ (by simp only [↓wR,RA,simprocAttr,TF,ae];(refine jo.lax [] (by first|exact Nat.le_of_ble_eq_true rfl|(simp [di];omega)) ?_ ?_<;>repeat' first|exact er.nil|exact cp.nil|exact ft.same _|exact ft.nil _ _ _|exact ft.oi _ _|exact cp.refl _ _|apply er.cons|apply cp.ghost|apply cp.same|apply cp.row)) ?_
 rintro ⟨i,b⟩ ⟨hi,hx,hb⟩
 simp only at hi hx hb
 simp only [↓wR,RA,simprocAttr,TF,ae]
 rw [vq];refine ⟨fun h=>?_,fun h=>?_⟩
 ·obtain ⟨c,hc,hd1,hlt⟩:=dq h
  have hcs:=hz.set c (List.mem_of_getElem? hc)
  have hstep:k6 z n=(z.aj.drop (i+1)).foldl (j6 z n) (j6 z n b c):=by rw [hx,hd1];rfl
  simp only [↓wR,RA,simprocAttr,TF,ae,h,hc]
  rw [vq];refine ⟨fun h2=>?_,fun h2=>?_⟩
  ·have e2:(c.type.toNat:Int)=2:=by simpa using h2
   simp only [↓wR,RA,simprocAttr,TF,ae,h2]
   refine z9 [0,2,7,8,9,17,19] ?_
   simp only [↓wR,RA,simprocAttr,TF,ae,zf,nb,Hx,hcs.owner,hz.origin]
   rw [ca];refine ⟨fun h3=>?_,fun h3=>?_⟩
   ·simp only [↓wR,RA,simprocAttr,TF,ae,h3,nn,hcs.owner,hn]
    rw [ca];refine ⟨fun h4=>?_,fun h4=>?_⟩
    ·cases b with
     |none=>
      have hb2:j6 z n none c=some c.owner:=by simp [j6,e2,h3,h4,Ar]
      rw [hb2] at hstep
      simp only [↓wR,RA,simprocAttr,TF,ae,h4,Option.isSome_none];repeat (simp (disch:=omega) only [ah,bw,bz,bu,bt];try simp only [↓wR,RA,simprocAttr,TF,ae,h4,Option.isSome_none])
      exact ⟨(i+1,some c.owner),⟨hlt,hstep,fun m hm=>by cases hm;exact hcs.owner⟩,by simp;omega,by (first|rfl|trivial|omega|((try (simp (disch:=omega) only [ah]));(try (simp only [FB]));first|done|rfl|omega)),by (first|rfl|trivial|omega|((try (simp (disch:=omega) only [ah]));(try (simp only [FB]));first|done|rfl|omega))⟩
     |some m=>
      simp only [↓wR,RA,simprocAttr,TF,ae,h4]
      rw [be];refine ⟨fun h5=>?_,fun h5=>?_⟩
      ·have hb2:j6 z n (some m) c=some c.owner:=by simp [j6,e2,h3,h4,Ar];omega
       rw [hb2] at hstep
       simp only [↓wR,RA,simprocAttr,TF,ae,h5];repeat (simp (disch:=omega) only [ah,bw,bz,bu,bt];try simp only [↓wR,RA,simprocAttr,TF,ae,h5])
       exact ⟨(i+1,some c.owner),⟨hlt,hstep,fun m hm=>by cases hm;exact hcs.owner⟩,by simp;omega,by (first|rfl|trivial|omega|((try (simp (disch:=omega) only [ah]));(try (simp only [FB]));first|done|rfl|omega)),by (first|rfl|trivial|omega|((try (simp (disch:=omega) only [ah]));(try (simp only [FB]));first|done|rfl|omega))⟩
      ·have hb2:j6 z n (some m) c=some m:=by simp [j6,e2,h3,h4,Ar];omega
       rw [hb2] at hstep
       simp only [↓wR,RA,simprocAttr,TF,ae,h5];repeat (simp (disch:=omega) only [ah,bw,bz,bu,bt];try simp only [↓wR,RA,simprocAttr,TF,ae,h5])
       exact ⟨(i+1,some m),⟨hlt,hstep,hb⟩,by simp;omega,by (first|rfl|trivial|omega|((try (simp (disch:=omega) only [ah]));(try (simp only [FB]));first|done|rfl|omega)),by (first|rfl|trivial|omega|((try (simp (disch:=omega) only [ah]));(try (simp only [FB]));first|done|rfl|omega))⟩
    ·have hb2:j6 z n b c=b:=by simp [j6,h4]
     rw [hb2] at hstep
     simp only [↓wR,RA,simprocAttr,TF,ae,h4];repeat (simp (disch:=omega) only [ah,bw,bz,bu,bt];try simp only [↓wR,RA,simprocAttr,TF,ae,h4])
     exact ⟨(i+1,b),⟨hlt,hstep,hb⟩,by simp;omega,by (first|rfl|trivial|omega|((try (simp (disch:=omega) only [ah]));(try (simp only [FB]));first|done|rfl|omega)),by (first|rfl|trivial|omega|((try (simp (disch:=omega) only [ah]));(try (simp only [FB]));first|done|rfl|omega))⟩
   ·have hb2:j6 z n b c=b:=by simp [j6,h3]
    rw [hb2] at hstep
    simp only [↓wR,RA,simprocAttr,TF,ae,h3];repeat (simp (disch:=omega) only [ah,bw,bz,bu,bt];try simp only [↓wR,RA,simprocAttr,TF,ae,h3])
    exact ⟨(i+1,b),⟨hlt,hstep,hb⟩,by simp;omega,by (first|rfl|trivial|omega|((try (simp (disch:=omega) only [ah]));(try (simp only [FB]));first|done|rfl|omega)),by (first|rfl|trivial|omega|((try (simp (disch:=omega) only [ah]));(try (simp only [FB]));first|done|rfl|omega))⟩
  ·have e2:¬ (c.type.toNat:Int)=2:=by simpa using h2
   have hb2:j6 z n b c=b:=by simp [j6,e2]
   rw [hb2] at hstep
   simp only [↓wR,RA,simprocAttr,TF,ae,h2];repeat (simp (disch:=omega) only [ah,bw,bz,bu,bt];try simp only [↓wR,RA,simprocAttr,TF,ae,h2])
   exact ⟨(i+1,b),⟨hlt,hstep,hb⟩,by simp;omega,by (first|rfl|trivial|omega|((try (simp (disch:=omega) only [ah]));(try (simp only [FB]));first|done|rfl|omega)),by (first|rfl|trivial|omega|((try (simp (disch:=omega) only [ah]));(try (simp only [FB]));first|done|rfl|omega))⟩
 ·rw [en h] at hx
  simp only [↓wR,RA,simprocAttr,TF,ae,h]
  cases b with
  |none=>
   have hc0:k6 z n=none:=hx
   simp only [↓wR,RA,simprocAttr,TF,ae,Option.isSome_none]
   rw [hc0]
   rfl
  |some m=>
   have hc0:k6 z n=some m:=hx
   simp only [↓wR,RA,simprocAttr,TF,ae,pd,hb m rfl]
   rw [hc0]
   rfl
noncomputable def Ff (x:ay × Name × Unit):Option AV:=if bg x.1∧aw x.2.1 then some ((r2 ai bd).E true (((k6 x.1 x.2.1).getD [],(k6 x.1 x.2.1).isSome))) else none
set_option maxRecDepth 2000000 in
theorem W6 (x:ay × Name × Unit) (r:AV) (h:Ff x=some r):bb PP 42 ((aC bc (aC ai a0)).E x) r:=by
 by_cases hc:bg x.1∧aw x.2.1
 case neg=>simp only [Ff,if_neg hc] at h;cases h
 simp only [Ff,if_pos hc] at h
 cases h
 exact ar (an.cons (ak pn) (an.cons (ak afp) (an.cons (ak qj) (an.nil PP)))) Tryz.func42 (by kernel_rfl) (by kernel_rfl) (by kernel_rfl) (Nat.le_of_ble_eq_true (by kernel_rfl)) (r2 ai bd) true (((k6 x.1 x.2.1).getD [],(k6 x.1 x.2.1).isSome)) (axp x.1 x.2.1 hc.1 hc.2)
noncomputable abbrev axz:Nat × Bool × (List AV→M AV):=(42,true,cg (aC bc (aC ai a0)) Ff)
def mi (z:ay) (n:Name):Bool:=c7 n z.origin && (eg n z.origin || z.aj.any fun s=>c7 s.owner n)
theorem avh (z:ay) (n:Name) (hz:bg z) (hn:aw n):wl PP [yg,fi] 0 (Tryz.f46.body.getD .skip) (ct PP Tryz.f46.results.toList (fun r st=>(r1 bd).get true st.h r=some (mi z n))) (bp 0 [bc.val false z,ai.val false n]) (bf []):=by
 have hl:=hz.len
 unfold Tryz.f46
 simp only [dr,bn]
 simp only [↓wR,RA,simprocAttr,TF,ae,nn,hn,hz.origin]
 unfold mi
 rw [ca];refine ⟨fun h=>?_,fun h=>?_⟩
 ·have h':c7 n z.origin=false:=by simpa using h
  simp only [↓wR,RA,simprocAttr,TF,ae,h,h']
  rfl
 have h':c7 n z.origin=true:=by simpa using h
 simp only [↓wR,RA,simprocAttr,TF,ae,h,h',lh,hn,hz.origin]
 rw [ca];refine ⟨fun h2=>?_,fun h2=>?_⟩
 ·simp only [↓wR,RA,simprocAttr,TF,ae,h2]
 simp only [↓wR,RA,simprocAttr,TF,ae,h2]
 refine cz (T:=[]) (an.nil PP) mixed Tryz.func82 rfl (by kernel_rfl) (by kernel_rfl) (by kernel_rfl) (by kernel_rfl) ?_;unfold Tryz.f82
 simp only [↓wR,RA,simprocAttr,TF,ae]
 refine cz (T:=[]) (an.nil PP) mixed Tryz.func132 rfl (by kernel_rfl) (by kernel_rfl) (by kernel_rfl) (by kernel_rfl) ?_;unfold Tryz.f132
 simp only [↓wR,RA,simprocAttr,TF,ae]
 refine dg [0,1,7,8] (fun (i:Nat)=>[.vl false 5 (z.aj.map (aq.val false)),.fn (.func 83) [] [.ptr 1 0],.sc (.int .i64 (z.aj.length)),.sc (.int .i64 (i))]) (fun _=>[some (.row [.vl false 1 (z.origin.map (ag.val false)),.vl false 5 (z.aj.map (aq.val false))] 0 2 26),some (.row [.vl false 1 (n.map (ag.val false))] 0 2 23)]) (fun i=>i≤z.aj.length∧(z.aj.any fun s=>c7 s.owner n)=((z.aj.drop i).any fun s=>c7 s.owner n)) (fun i=>z.aj.length - i) 0 ⟨Nat.zero_le _,rfl⟩ (by simp only [↓wR,RA,simprocAttr,TF,ae]<;>rfl) (by simp only [↓wR,RA,simprocAttr,TF,ae]<;>rfl) ?_
 rintro i ⟨hi,hx⟩
 simp only [↓wR,RA,simprocAttr,TF,ae]
 rw [be];refine ⟨fun h3=>?_,fun h3=>?_⟩
 ·obtain ⟨c,hc,hd1,hlt⟩:=dq (decide_eq_true h3)
  rw [hd1,List.any_cons] at hx
  have hcs:=hz.set c (List.mem_of_getElem? hc)
  simp only [↓wR,RA,simprocAttr,TF,ae,h3,hc];repeat (simp (disch:=omega) only [ah,bw,bz,bu,bt];try simp only [↓wR,RA,simprocAttr,TF,ae,h3,hc])
  refine cz (T:=[yg]) (an.cons (ak pn) (an.nil PP)) mixed Tryz.func83 rfl (by kernel_rfl) (by kernel_rfl) (by kernel_rfl) (by kernel_rfl) ?_;unfold Tryz.f83
  simp only [↓wR,RA,simprocAttr,TF,ae,nn,hcs.owner,hn]
  rw [ca];refine ⟨fun h4=>?_,fun h4=>?_⟩
  ·rw [h4,Bool.true_or] at hx
   simp only [↓wR,RA,simprocAttr,TF,ae,h4]
   rw [hx]
  ·rw [h4,Bool.false_or] at hx
   simp only [↓wR,RA,simprocAttr,TF,ae,h4];repeat (simp (disch:=omega) only [ah,bw,bz,bu,bt];try simp only [↓wR,RA,simprocAttr,TF,ae,h4])
   exact ⟨i+1,⟨hlt,hx⟩,by omega,by (first|rfl|trivial|omega|((try (simp (disch:=omega) only [ah]));(try (simp only [FB]));first|done|rfl|omega))⟩
 ·rw [en (decide_eq_false h3),List.any_nil] at hx
  simp only [↓wR,RA,simprocAttr,TF,ae,h3]
  rw [hx]<;>rfl
noncomputable def Nb (x:ay × Name × Unit):Option AV:=if bg x.1∧aw x.2.1 then some ((r1 bd).E true (mi x.1 x.2.1)) else none
set_option maxRecDepth 2000000 in
theorem W4 (x:ay × Name × Unit) (r:AV) (h:Nb x=some r):bb PP 46 ((aC bc (aC ai a0)).E x) r:=by
 by_cases hc:bg x.1∧aw x.2.1
 case neg=>simp only [Nb,if_neg hc] at h;cases h
 simp only [Nb,if_pos hc] at h
 cases h
 exact ar (an.cons (ak pn) (an.cons (ak om) (an.nil PP))) Tryz.func46 (by kernel_rfl) (by kernel_rfl) (by kernel_rfl) (Nat.le_of_ble_eq_true (by kernel_rfl)) (r1 bd) true (mi x.1 x.2.1) (avh x.1 x.2.1 hc.1 hc.2)
noncomputable abbrev axx:Nat × Bool × (List AV→M AV):=(46,true,cg (aC bc (aC ai a0)) Nb)
theorem aqc (t:UInt16):wl PP [] 0 (Tryz.f196.body.getD .skip) (ct PP Tryz.f196.results.toList (fun r st=>(r1 bd).get true st.h r=some false)) (bp 0 [cy.val false t]) (bf []):=by
 unfold Tryz.f196
 simp only [↓wR,RA,simprocAttr,TF,ae,bne_self_eq_false]
noncomputable def Vz (x:UInt16 × Unit):Option AV:=some ((r1 bd).E true (false))
set_option maxRecDepth 2000000 in
theorem af0 (x:UInt16 × Unit) (r:AV) (h:Vz x=some r):bb PP 196 ((aC cy a0).E x) r:=by
 cases h
 exact ar (an.nil PP) Tryz.func196 (by kernel_rfl) (by kernel_rfl) (by kernel_rfl) (Nat.le_of_ble_eq_true (by kernel_rfl)) (r1 bd) true (false) (aqc x.1)
noncomputable abbrev axu:Nat × Bool × (List AV→M AV):=(196,true,cg (aC cy a0) Vz)
def Vd (a b:UInt16):Int:=if (a.toNat:Int)<b.toNat then -1 else if (b.toNat:Int)<a.toNat then 1 else 0
theorem av4 (a b:UInt16):wl PP [axu] 0 (Tryz.f167.body.getD .skip) (ct PP Tryz.f167.results.toList (fun r st=>(r1 (au .i64)).get true st.h r=some (Vd a b))) (bp 0 [cy.val false a,cy.val false b]) (bf []):=by
 unfold Tryz.f167
 unfold Vd
 simp only [↓wR,RA,simprocAttr,TF,ae,Vz]
 rw [be];refine ⟨fun h=>?_,fun h=>?_⟩
 ·rw [if_pos h]
  simp only [↓wR,RA,simprocAttr,TF,ae,h]
 ·rw [if_neg h]
  simp only [↓wR,RA,simprocAttr,TF,ae,h]
  rw [be];refine ⟨fun h2=>?_,fun h2=>?_⟩
  ·rw [if_pos h2]
   simp only [↓wR,RA,simprocAttr,TF,ae,h2]
  ·rw [if_neg h2]
   simp only [↓wR,RA,simprocAttr,TF,ae,h2]
noncomputable def aep (x:UInt16 × UInt16 × Unit):Option AV:=some ((r1 (au .i64)).E true (Vd x.1 x.2.1))
set_option maxRecDepth 2000000 in
theorem akx (x:UInt16 × UInt16 × Unit) (r:AV) (h:aep x=some r):bb PP 167 ((aC cy (aC cy a0)).E x) r:=by
 cases h
 exact ar (an.cons (ak af0) (an.nil PP)) Tryz.func167 (by kernel_rfl) (by kernel_rfl) (by kernel_rfl) (Nat.le_of_ble_eq_true (by kernel_rfl)) (r1 (au .i64)) true (Vd x.1 x.2.1) (av4 x.1 x.2.1)
noncomputable abbrev aAc:Nat × Bool × (List AV→M AV):=(167,true,cg (aC cy (aC cy a0)) aep)
def Lc:List Int→Int
 | []=>0
 |a::r=>if a≠0 then a else Lc r
theorem azd (l:List Int) (hl:l.length≤16777216):wl PP [] 0 (Tryz.f165.body.getD .skip) (ct PP Tryz.f165.results.toList (fun r st=>(r1 (au .i64)).get true st.h r=some (Lc l))) (bp 0 [(cj (au .i64)).val false l]) (bf []):=by
 unfold Tryz.f165
 rw [nh]
 simp only [↓wR,RA,simprocAttr,TF,ae]
 refine dg [3,6,7,8] (fun (i:Nat)=>[.sc (.int .i64 (0)),.vl false 1 (l.map ((au .i64).val false)),.sc (.int .i64 (l.length)),.sc (.int .i64 (i))]) (fun _=>[]) (fun i=>i≤l.length∧Lc l=Lc (l.drop i)) (fun i=>l.length - i) 0 ⟨Nat.zero_le _,rfl⟩ (by simp only [↓wR,RA,simprocAttr,TF,ae]<;>rfl) (by simp only [↓wR,RA,simprocAttr,TF,ae]<;>rfl) ?_
 rintro i ⟨hi,hx⟩
 simp only [↓wR,RA,simprocAttr,TF,ae]
 rw [be];refine ⟨fun h=>?_,fun h=>?_⟩
 ·obtain ⟨c,hc,hd1,hlt⟩:=dq (decide_eq_true h)
  rw [hd1,Lc] at hx
  simp only [↓wR,RA,simprocAttr,TF,ae,h,hc]
  rw [c6];refine ⟨fun ⟨h2,e2⟩=>?_,fun ⟨h2,e2⟩=>?_⟩
  ·rw [if_pos e2] at hx
   simp only [↓wR,RA,simprocAttr,TF,ae,h2]
   rw [hx]
  ·rw [if_neg (by omega)] at hx
   simp only [↓wR,RA,simprocAttr,TF,ae,h2];repeat (simp (disch:=omega) only [ah,bw,bz,bu,bt];try simp only [↓wR,RA,simprocAttr,TF,ae,h2])
   exact ⟨i+1,⟨hlt,hx⟩,by omega,by (first|rfl|trivial|omega|((try (simp (disch:=omega) only [ah]));(try (simp only [FB]));first|done|rfl|omega))⟩
 ·rw [en (decide_eq_false h)] at hx
  simp only [↓wR,RA,simprocAttr,TF,ae,h]
  rw [hx];rfl
noncomputable def aeu (x:List Int × Unit):Option AV:=if x.1.length≤16777216 then some ((r1 (au .i64)).E true (Lc x.1)) else none
set_option maxRecDepth 2000000 in
theorem aqt (x:List Int × Unit) (r:AV) (h:aeu x=some r):bb PP 165 ((aC (cj (au .i64)) a0).E x) r:=by
 by_cases hc:x.1.length≤16777216
 case neg=>simp only [aeu,if_neg hc] at h;cases h
 simp only [aeu,if_pos hc] at h
 cases h
 exact ar (an.nil PP) Tryz.func165 (by kernel_rfl) (by kernel_rfl) (by kernel_rfl) (Nat.le_of_ble_eq_true (by kernel_rfl)) (r1 (au .i64)) true (Lc x.1) (azd x.1 hc)
noncomputable abbrev orC:Nat × Bool × (List AV→M AV):=(165,true,cg (aC (cj (au .i64)) a0) aeu)
noncomputable def xy (a b:bj):Int:=Lc [Ij a.owner b.owner,Vd a.type b.type]
theorem akd (a b:bj) (ha:dc a) (hb:dc b):wl PP [agq,aAc,orC] 0 (Tryz.f139.body.getD .skip) (ct PP Tryz.f139.results.toList (fun r st=>(r1 (au .i64)).get true st.h r=some (xy a b))) (bp 0 [aq.val false a,aq.val false b]) (bf []):=by
 unfold Tryz.f139
 simp only [jb]
 simp only [↓wR,RA,simprocAttr,TF,ae]
 refine ⟨by kernel_rfl,.inl ?_⟩
 simp only [↓wR,RA,simprocAttr,TF,ae,u1,aep,aeu,ha.owner,hb.owner]
 exact ⟨by kernel_rfl,rfl⟩
noncomputable def yj (x:bj × bj × Unit):Option AV:=if dc x.1∧dc x.2.1 then some ((r1 (au .i64)).E true (xy x.1 x.2.1)) else none
set_option maxRecDepth 2000000 in
theorem Zb (x:bj × bj × Unit) (r:AV) (h:yj x=some r):bb PP 139 ((aC aq (aC aq a0)).E x) r:=by
 by_cases hc:dc x.1∧dc x.2.1
 case neg=>simp only [yj,if_neg hc] at h;cases h
 simp only [yj,if_pos hc] at h
 cases h
 exact ar (an.cons (ak Ql) (an.cons (ak akx) (an.cons (ak aqt) (an.nil PP)))) Tryz.func139 (by kernel_rfl) (by kernel_rfl) (by kernel_rfl) (Nat.le_of_ble_eq_true (by kernel_rfl)) (r1 (au .i64)) true (xy x.1 x.2.1) (akd x.1 x.2.1 hc.1 hc.2)
noncomputable abbrev adh:Nat × Bool × (List AV→M AV):=(139,true,cg (aC aq (aC aq a0)) yj)
noncomputable def nw (t:UInt16):List bo→Bool
 |a::b::r=>if 0≤A8 t a b then false else nw t (b::r)
 |_=>true
noncomputable def ga (z:ay) (i:Nat) (s:bj):Bool:=
 (match i with|0=>true|k+1=>match z.aj[k]? with|some a=>decide (¬ (xy a s ≥ 0))|none=>true) && nw s.type s.data
theorem qu (k:Nat):((k:Int)+1).toNat=k+1:=by omega
theorem ye (k:Nat):(0:Int)≤(k:Int)+1:=by omega
theorem F3 (t:UInt16) {l:List bo} {k:Nat} {a b:bo} (ha:l[k]? = some a) (hb:l[k+1]? = some b):nw t (l.drop k)=if 0≤A8 t a b then false else nw t (l.drop (k+1)):=by
 rw [Bn ha,Bn hb];rfl
theorem Dk (t:UInt16) {l:List bo} {k:Nat} (h:l.length≤k+1):nw t (l.drop k)=true:=by
 have:(l.drop k).length≤1:=by rw [List.length_drop];omega
 match hd:l.drop k with
 | []=>rfl
 | [a]=>rfl
 |a::b::r=>rw [hd] at this;simp at this
theorem ata (l:tk) (i:Nat) (s:bj) (hz:bg l.z) (hs:dc s) (hi:i≤l.z.aj.length):wl PP [adh,Gj] 0 (Tryz.f96.body.getD .skip) (ct PP Tryz.f96.results.toList (fun r st=>(r1 bd).get true st.h r=some (ga l.z i s))) (bp 0 [.dj (mb.cells false l),(au .i64).val false i,aq.val false s]) (bf []):=by
 have hd:=hs.data
 have hn:=hd.len
 have hl:=hz.len
 unfold Tryz.f96
 simp only [jb]
 simp only [↓wR,RA,simprocAttr,TF,ae,Ax]
 refine ⟨by kernel_rfl,.inl ?_⟩
 rw [be];refine ⟨fun h=>?_,fun h=>?_⟩
 ·cases i with
  |zero=>omega
  |succ k=>
  obtain ⟨a,ha⟩:∃ a,l.z.aj[k]? = some a:=⟨_,List.getElem?_eq_getElem (by omega)⟩
  have has:=hz.set a (List.mem_of_getElem? ha)
  simp only [↓wR,RA,simprocAttr,TF,ae,h,ha,Int.natCast_add,Int.add_sub_cancel,yj,has,hs];repeat (simp (disch:=omega) only [ah,bw,bz,bu,bt];try simp only [↓wR,RA,simprocAttr,TF,ae,h,ha,Int.natCast_add,Int.add_sub_cancel,yj,has,hs])
  refine ⟨by kernel_rfl,?_⟩
  rw [be];refine ⟨fun h2=>?_,fun h2=>?_⟩
  ·have hv:ga l.z (k+1) s=false:=by simp only [ga,ha];simp [h2]
   simp only [↓wR,RA,simprocAttr,TF,ae,h2]
   rw [hv]
  have hv:ga l.z (k+1) s=nw s.type s.data:=by simp only [ga,ha];simp [h2]
  clear ha
  simp only [↓wR,RA,simprocAttr,TF,ae,h2]
  refine dg [5,7] (fun (k:Nat)=>[.ptr 0 0,.sc (.int .i64 ((k:Int)+1))]) (fun _=>[some (.row [.vl false 1 (s.owner.map (ag.val false)),.sc (.int .u16 s.type.toNat),.sc (.int .u16 s.cls.toNat),.sc (.int .u32 s.j9.toNat),.vl false 4 (s.data.map (ba.val false))] 0 2 63)]) (fun k=>(k=0∨k+1≤s.data.length)∧nw s.type s.data=nw s.type (s.data.drop k)) (fun k=>s.data.length - k) 0 ⟨.inl rfl,rfl⟩ (by simp only [↓wR,RA,simprocAttr,TF,ae]<;>rfl) (by simp only [↓wR,RA,simprocAttr,TF,ae]<;>rfl) ?_
  rintro k ⟨hk,hx⟩
  simp only [↓wR,RA,simprocAttr,TF,ae]
  rw [be];refine ⟨fun h5=>?_,fun h5=>?_⟩
  ·obtain ⟨a,ha⟩:∃ a,s.data[k]? = some a:=⟨_,List.getElem?_eq_getElem (by omega)⟩
   obtain ⟨b,hb⟩:∃ b,s.data[k+1]? = some b:=⟨_,List.getElem?_eq_getElem (by omega)⟩
   rw [F3 _ ha hb] at hx
   have has:=hd.mem a (List.mem_of_getElem? ha)
   have hbs:=hd.mem b (List.mem_of_getElem? hb)
   simp only [↓wR,RA,simprocAttr,TF,ae,h5]
   refine ⟨by kernel_rfl,.inl ?_⟩
   simp only [↓wR,RA,simprocAttr,TF,ae,ha,hb,Int.add_sub_cancel,qu,ye,ml,has,hbs];repeat (simp (disch:=omega) only [ah,bw,bz,bu,bt];try simp only [↓wR,RA,simprocAttr,TF,ae,ha,hb,Int.add_sub_cancel,qu,ye,ml,has,hbs])
   refine ⟨by kernel_rfl,?_⟩
   rw [be];refine ⟨fun h6=>?_,fun h6=>?_⟩
   ·rw [if_pos h6] at hx
    simp only [↓wR,RA,simprocAttr,TF,ae,h6]
    rw [hv,hx]
   ·rw [if_neg h6] at hx
    simp only [↓wR,RA,simprocAttr,TF,ae,h6];repeat (simp (disch:=omega) only [ah,bw,bz,bu,bt];try simp only [↓wR,RA,simprocAttr,TF,ae,h6])
    exact ⟨k+1,⟨.inr (by omega),hx⟩,by omega,by (first|rfl|trivial|omega|((try (simp (disch:=omega) only [ah]));(try (simp only [FB]));first|done|rfl|omega))⟩
  ·rw [Dk _ (by omega)] at hx
   simp only [↓wR,RA,simprocAttr,TF,ae,h5]
   rw [hv,hx]
 ·simp only [↓wR,RA,simprocAttr,TF,ae,h]
  have hi0:i=0:=by omega
  have hv:ga l.z i s=nw s.type s.data:=by rw [hi0];simp [ga]
  refine ⟨by kernel_rfl,?_⟩
  refine dg [5,7] (fun (k:Nat)=>[.ptr 0 0,.sc (.int .i64 ((k:Int)+1))]) (fun _=>[some (.row [.vl false 1 (s.owner.map (ag.val false)),.sc (.int .u16 s.type.toNat),.sc (.int .u16 s.cls.toNat),.sc (.int .u32 s.j9.toNat),.vl false 4 (s.data.map (ba.val false))] 0 2 63)]) (fun k=>(k=0∨k+1≤s.data.length)∧nw s.type s.data=nw s.type (s.data.drop k)) (fun k=>s.data.length - k) 0 ⟨.inl rfl,rfl⟩ (by simp only [↓wR,RA,simprocAttr,TF,ae]<;>rfl) (by simp only [↓wR,RA,simprocAttr,TF,ae]<;>rfl) ?_
  rintro k ⟨hk,hx⟩
  simp only [↓wR,RA,simprocAttr,TF,ae]
  rw [be];refine ⟨fun h5=>?_,fun h5=>?_⟩
  ·obtain ⟨a,ha⟩:∃ a,s.data[k]? = some a:=⟨_,List.getElem?_eq_getElem (by omega)⟩
   obtain ⟨b,hb⟩:∃ b,s.data[k+1]? = some b:=⟨_,List.getElem?_eq_getElem (by omega)⟩
   rw [F3 _ ha hb] at hx
   have has:=hd.mem a (List.mem_of_getElem? ha)
   have hbs:=hd.mem b (List.mem_of_getElem? hb)
   simp only [↓wR,RA,simprocAttr,TF,ae,h5]
   refine ⟨by kernel_rfl,.inl ?_⟩
   simp only [↓wR,RA,simprocAttr,TF,ae,ha,hb,Int.add_sub_cancel,qu,ye,ml,has,hbs];repeat (simp (disch:=omega) only [ah,bw,bz,bu,bt];try simp only [↓wR,RA,simprocAttr,TF,ae,ha,hb,Int.add_sub_cancel,qu,ye,ml,has,hbs])
   refine ⟨by kernel_rfl,?_⟩
   rw [be];refine ⟨fun h6=>?_,fun h6=>?_⟩
   ·rw [if_pos h6] at hx
    simp only [↓wR,RA,simprocAttr,TF,ae,h6]
    rw [hv,hx]
   ·rw [if_neg h6] at hx
    simp only [↓wR,RA,simprocAttr,TF,ae,h6];repeat (simp (disch:=omega) only [ah,bw,bz,bu,bt];try simp only [↓wR,RA,simprocAttr,TF,ae,h6])
    exact ⟨k+1,⟨.inr (by omega),hx⟩,by omega,by (first|rfl|trivial|omega|((try (simp (disch:=omega) only [ah]));(try (simp only [FB]));first|done|rfl|omega))⟩
  ·rw [Dk _ (by omega)] at hx
   simp only [↓wR,RA,simprocAttr,TF,ae,h5]
   rw [hv,hx]
theorem anc (l:tk) (i:Int) (s:bj) (hz:bg l.z) (hs:dc s) (hi : 0≤i∧i≤l.z.aj.length):wl PP [adh,Gj] 0 (Tryz.f96.body.getD .skip) (ct PP Tryz.f96.results.toList (fun r st=>(r1 bd).get true st.h r=some (ga l.z i.toNat s))) (bp 0 [.dj (mb.cells false l),(au .i64).val false i,aq.val false s]) (bf []):=by
 have:=ata l i.toNat s hz hs (by omega)
 rwa [Int.toNat_of_nonneg hi.1] at this
noncomputable def Hd (x:tk × Int × bj × Unit):Option AV:=if (bg x.1.z∧dc x.2.2.1)∧0≤x.2.1∧x.2.1≤x.1.z.aj.length then some ((r1 bd).E true (ga x.1.z x.2.1.toNat x.2.2.1)) else none
set_option maxRecDepth 2000000 in
theorem Pm (x:tk × Int × bj × Unit) (r:AV) (h:Hd x=some r):bb PP 96 ((aP mb (aC (au .i64) (aC aq a0))).E x) r:=by
 by_cases hc:(bg x.1.z∧dc x.2.2.1)∧0≤x.2.1∧x.2.1≤x.1.z.aj.length
 case neg=>simp only [Hd,if_neg hc] at h;cases h
 simp only [Hd,if_pos hc] at h
 cases h
 exact ar (an.cons (ak Zb) (an.cons (ak Em) (an.nil PP))) Tryz.func96 (by kernel_rfl) (by kernel_rfl) (by kernel_rfl) (Nat.le_of_ble_eq_true (by kernel_rfl)) (r1 bd) true (ga x.1.z x.2.1.toNat x.2.2.1) (anc x.1 x.2.1 x.2.2.1 hc.1.1 hc.1.2 hc.2)
noncomputable abbrev jv:Nat × Bool × (List AV→M AV):=(96,true,cg (aP mb (aC (au .i64) (aC aq a0))) Hd)
def sr (i:Nat) (n:Name):Nat→List bj→Bool
 |_,[]=>false
 |k,o::r=>(decide (¬ (k:Int)=i) && eg o.owner n) || sr i n (k+1) r
def jc (z:ay) (i:Nat) (s:bj):Bool:=
 if ¬ (s.type.toNat:Int)=5 then true else if ¬ (s.data.length:Int)=1 then false else if eg s.owner z.origin=true then false else !sr i s.owner 0 z.aj
theorem atg (l:tk) (i:Nat) (s:bj) (hz:bg l.z) (hs:dc s):wl PP [fi] 0 (Tryz.f101.body.getD .skip) (ct PP Tryz.f101.results.toList (fun r st=>(r1 bd).get true st.h r=some (jc l.z i s))) (bp 0 [.dj (mb.cells false l),(au .i64).val false i,aq.val false s]) (bf []):=by
 have hl:=hz.len
 unfold Tryz.f101
 simp only [jb]
 simp only [↓wR,RA,simprocAttr,TF,ae,Ax]
 unfold jc
 rw [c6];refine ⟨fun ⟨h,e⟩=>?_,fun ⟨h,e⟩=>?_⟩
 ·rw [if_pos e]
  simp only [↓wR,RA,simprocAttr,TF,ae,h]
 rw [if_neg (by omega)]
 simp only [↓wR,RA,simprocAttr,TF,ae,h]
 refine ⟨by kernel_rfl,.inl ?_⟩
 rw [c6];refine ⟨fun ⟨h2,e2⟩=>?_,fun ⟨h2,e2⟩=>?_⟩
 ·rw [if_pos e2]
  simp only [↓wR,RA,simprocAttr,TF,ae,h2]
  exact by kernel_rfl
 rw [if_neg (by omega)]
 simp only [↓wR,RA,simprocAttr,TF,ae,h2,lh,hs.owner,hz.origin]
 refine ⟨by kernel_rfl,?_⟩
 rw [ca];refine ⟨fun h3=>?_,fun h3=>?_⟩
 ·rw [if_pos h3]
  simp only [↓wR,RA,simprocAttr,TF,ae,h3]
 rw [if_neg (by rw [h3];decide)]
 simp only [↓wR,RA,simprocAttr,TF,ae,h3]
 refine dg [1,5,30,31,32] (fun (k:Nat)=>[.sc (.int .i64 (i)),.ptr 0 0,.vl false 5 (l.z.aj.map (aq.val false)),.sc (.int .i64 (l.z.aj.length)),.sc (.int .i64 (k))]) (fun _=>[some (.row [.vl false 1 (s.owner.map (ag.val false)),.sc (.int .u16 s.type.toNat),.sc (.int .u16 s.cls.toNat),.sc (.int .u32 s.j9.toNat),.vl false 4 (s.data.map (ba.val false))] 0 2 63)]) (fun k=>k≤l.z.aj.length∧sr i s.owner 0 l.z.aj=sr i s.owner k (l.z.aj.drop k)) (fun k=>l.z.aj.length - k) 0 ⟨Nat.zero_le _,rfl⟩ (by simp only [↓wR,RA,simprocAttr,TF,ae]<;>rfl) (by simp only [↓wR,RA,simprocAttr,TF,ae]<;>rfl) ?_
 rintro k ⟨hk,hx⟩
 simp only [↓wR,RA,simprocAttr,TF,ae]
 rw [be];refine ⟨fun h4=>?_,fun h4=>?_⟩
 ·obtain ⟨c,hc,hd1,hlt⟩:=dq (decide_eq_true h4)
  rw [hd1,sr] at hx
  have hcs:=hz.set c (List.mem_of_getElem? hc)
  simp only [↓wR,RA,simprocAttr,TF,ae,h4,hc]
  rw [c6];refine ⟨fun ⟨h5,e5⟩=>?_,fun ⟨h5,e5⟩=>?_⟩
  ·rw [decide_eq_true e5,Bool.true_and] at hx
   simp only [↓wR,RA,simprocAttr,TF,ae,h5,lh,hcs.owner,hs.owner]
   rw [ca];refine ⟨fun h6=>?_,fun h6=>?_⟩
   ·rw [h6,Bool.true_or] at hx
    simp only [↓wR,RA,simprocAttr,TF,ae,h6]
    rw [hx];rfl
   ·rw [h6,Bool.false_or] at hx
    simp only [↓wR,RA,simprocAttr,TF,ae,h6];repeat (simp (disch:=omega) only [ah,bw,bz,bu,bt];try simp only [↓wR,RA,simprocAttr,TF,ae,h6])
    exact ⟨k+1,⟨hlt,hx⟩,by omega,by (first|rfl|trivial|omega|((try (simp (disch:=omega) only [ah]));(try (simp only [FB]));first|done|rfl|omega))⟩
  ·rw [decide_eq_false (by omega),Bool.false_and,Bool.false_or] at hx
   simp only [↓wR,RA,simprocAttr,TF,ae,h5];repeat (simp (disch:=omega) only [ah,bw,bz,bu,bt];try simp only [↓wR,RA,simprocAttr,TF,ae,h5])
   exact ⟨k+1,⟨hlt,hx⟩,by omega,by (first|rfl|trivial|omega|((try (simp (disch:=omega) only [ah]));(try (simp only [FB]));first|done|rfl|omega))⟩
 ·rw [en (decide_eq_false h4),sr] at hx
  simp only [↓wR,RA,simprocAttr,TF,ae,h4]
  rw [hx];rfl
theorem anx (l:tk) (i:Int) (s:bj) (hz:bg l.z) (hs:dc s) (hi : 0≤i):wl PP [fi] 0 (Tryz.f101.body.getD .skip) (ct PP Tryz.f101.results.toList (fun r st=>(r1 bd).get true st.h r=some (jc l.z i.toNat s))) (bp 0 [.dj (mb.cells false l),(au .i64).val false i,aq.val false s]) (bf []):=by
 have:=atg l i.toNat s hz hs
 rwa [Int.toNat_of_nonneg hi] at this
noncomputable def Dp (x:tk × Int × bj × Unit):Option AV:=if (bg x.1.z∧dc x.2.2.1)∧0≤x.2.1 then some ((r1 bd).E true (jc x.1.z x.2.1.toNat x.2.2.1)) else none
set_option maxRecDepth 2000000 in
theorem Of (x:tk × Int × bj × Unit) (r:AV) (h:Dp x=some r):bb PP 101 ((aP mb (aC (au .i64) (aC aq a0))).E x) r:=by
 by_cases hc:(bg x.1.z∧dc x.2.2.1)∧0≤x.2.1
 case neg=>simp only [Dp,if_neg hc] at h;cases h
 simp only [Dp,if_pos hc] at h
 cases h
 exact ar (an.cons (ak om) (an.nil PP)) Tryz.func101 (by kernel_rfl) (by kernel_rfl) (by kernel_rfl) (Nat.le_of_ble_eq_true (by kernel_rfl)) (r1 bd) true (jc x.1.z x.2.1.toNat x.2.2.1) (anx x.1 x.2.1 x.2.2.1 hc.1.1 hc.1.2 hc.2)
noncomputable abbrev jw:Nat × Bool × (List AV→M AV):=(101,true,cg (aP mb (aC (au .i64) (aC aq a0))) Dp)
def ju (s:bj):Bool:=if ¬ (s.cls.toNat:Int)=1 then false else if (s.type.toNat:Int)=0 then false else if (s.type.toNat:Int)=41 then false else !decide ((s.type.toNat:Int)=255)
theorem asm (i:Int) (s:bj):wl PP [] 0 (Tryz.f97.body.getD .skip) (ct PP Tryz.f97.results.toList (fun r st=>(r1 bd).get true st.h r=some (ju s))) (bp 0 [(au .i64).val false i,aq.val false s]) (bf []):=by
 unfold Tryz.f97
 simp only [jb]
 simp only [↓wR,RA,simprocAttr,TF,ae]
 unfold ju
 rw [b9];refine ⟨fun ⟨h,e⟩=>?_,fun ⟨h,e⟩=>?_⟩
 ·rw [if_neg (by omega)]
  simp only [↓wR,RA,simprocAttr,TF,ae,h]
  rw [c6];refine ⟨fun ⟨h2,e2⟩=>?_,fun ⟨h2,e2⟩=>?_⟩
  ·rw [if_neg e2]
   simp only [↓wR,RA,simprocAttr,TF,ae,h2]
   rw [c6];refine ⟨fun ⟨h3,e3⟩=>?_,fun ⟨h3,e3⟩=>?_⟩
   ·rw [if_neg e3]
    simp only [↓wR,RA,simprocAttr,TF,ae,h3]
    rfl
   ·rw [if_pos e3]
    simp only [↓wR,RA,simprocAttr,TF,ae,h3]
  ·rw [if_pos e2]
   simp only [↓wR,RA,simprocAttr,TF,ae,h2]
 ·rw [if_pos e]
  simp only [↓wR,RA,simprocAttr,TF,ae,h]
noncomputable def U1 (x:Int × bj × Unit):Option AV:=some ((r1 bd).E true (ju x.2.1))
set_option maxRecDepth 2000000 in
theorem N7 (x:Int × bj × Unit) (r:AV) (h:U1 x=some r):bb PP 97 ((aC (au .i64) (aC aq a0)).E x) r:=by
 cases h
 exact ar (an.nil PP) Tryz.func97 (by kernel_rfl) (by kernel_rfl) (by kernel_rfl) (Nat.le_of_ble_eq_true (by kernel_rfl)) (r1 bd) true (ju x.2.1) (asm x.1 x.2.1)
noncomputable abbrev jx:Nat × Bool × (List AV→M AV):=(97,true,cg (aC (au .i64) (aC aq a0)) U1)
theorem aon (i:Int) (s:bj) (z:ay) (hs:dc s) (hz:bg z):wl PP [yg] 0 (Tryz.f98.body.getD .skip) (ct PP Tryz.f98.results.toList (fun r st=>(r1 bd).get true st.h r=some (c7 s.owner z.origin))) (bp 0 [(au .i64).val false i,aq.val false s,.dj (bc.cells false z)]) (bf []):=by
 unfold Tryz.f98
 simp only [jb]
 simp only [↓wR,RA,simprocAttr,TF,ae,A6,nn,hs.owner,hz.origin]
noncomputable def Ef (x:Int × bj × ay × Unit):Option AV:=if dc x.2.1∧bg x.2.2.1 then some ((r1 bd).E true (c7 x.2.1.owner x.2.2.1.origin)) else none
set_option maxRecDepth 2000000 in
theorem Kd (x:Int × bj × ay × Unit) (r:AV) (h:Ef x=some r):bb PP 98 ((aC (au .i64) (aC aq (aP bc a0))).E x) r:=by
 by_cases hc:dc x.2.1∧bg x.2.2.1
 case neg=>simp only [Ef,if_neg hc] at h;cases h
 simp only [Ef,if_pos hc] at h
 cases h
 exact ar (an.cons (ak pn) (an.nil PP)) Tryz.func98 (by kernel_rfl) (by kernel_rfl) (by kernel_rfl) (Nat.le_of_ble_eq_true (by kernel_rfl)) (r1 bd) true (c7 x.2.1.owner x.2.2.1.origin) (aon x.1 x.2.1 x.2.2.1 hc.1 hc.2)
noncomputable abbrev iy:Nat × Bool × (List AV→M AV):=(98,true,cg (aC (au .i64) (aC aq (aP bc a0))) Ef)
def je (s:bj):Bool:=if ¬ (s.type.toNat:Int)=2 then true else match s.owner[0]? with|none=>true|some a=>!decide (a=nm)
theorem avw (i:Int) (s:bj) (hs:dc s):wl PP [] 0 (Tryz.f102.body.getD .skip) (ct PP Tryz.f102.results.toList (fun r st=>(r1 bd).get true st.h r=some (je s))) (bp 0 [(au .i64).val false i,aq.val false s]) (bf []):=by
 have hn:=hs.owner.lt
 unfold Tryz.f102
 simp only [jb]
 simp only [↓wR,RA,simprocAttr,TF,ae]
 unfold je
 rw [c6];refine ⟨fun ⟨h,e⟩=>?_,fun ⟨h,e⟩=>?_⟩
 ·rw [if_pos e]
  simp only [↓wR,RA,simprocAttr,TF,ae,h]
 rw [if_neg (by omega)]
 simp only [↓wR,RA,simprocAttr,TF,ae,h]
 rw [b9];refine ⟨fun ⟨h2,e2⟩=>?_,fun ⟨h2,e2⟩=>?_⟩
 ·have hnil:s.owner=[]:=List.eq_nil_of_length_eq_zero (by omega)
  have h0:s.owner[0]? = none:=by rw [hnil];rfl
  rw [h0]
  simp only [↓wR,RA,simprocAttr,TF,ae,h2]
 ·obtain ⟨a,ha⟩:∃ a,s.owner[0]? = some a:=⟨_,List.getElem?_eq_getElem (by omega)⟩
  have h0 : 0<s.owner.length:=by omega
  rw [ha]
  simp only [↓wR,RA,simprocAttr,TF,ae,h2,ha,h0]
  rfl
noncomputable def Hz (x:Int × bj × Unit):Option AV:=if dc x.2.1 then some ((r1 bd).E true (je x.2.1)) else none
set_option maxRecDepth 2000000 in
theorem Rf (x:Int × bj × Unit) (r:AV) (h:Hz x=some r):bb PP 102 ((aC (au .i64) (aC aq a0)).E x) r:=by
 by_cases hc:dc x.2.1
 case neg=>simp only [Hz,if_neg hc] at h;cases h
 simp only [Hz,if_pos hc] at h
 cases h
 exact ar (an.nil PP) Tryz.func102 (by kernel_rfl) (by kernel_rfl) (by kernel_rfl) (Nat.le_of_ble_eq_true (by kernel_rfl)) (r1 bd) true (je x.2.1) (avw x.1 x.2.1 hc)
noncomputable abbrev lf:Nat × Bool × (List AV→M AV):=(102,true,cg (aC (au .i64) (aC aq a0)) Hz)
def k5 (z:ay) (s:bj):Bool:=
 match k6 z s.owner with
 |none=>true
 |some c=>if (s.type.toNat:Int)=1 then true else if (s.type.toNat:Int)=28 then true else if (s.type.toNat:Int)=2 then eg c s.owner else false
theorem ays (i:Int) (s:bj) (z:ay) (hs:dc s) (hz:bg z):wl PP [axz,fi] 0 (Tryz.f103.body.getD .skip) (ct PP Tryz.f103.results.toList (fun r st=>(r1 bd).get true st.h r=some (k5 z s))) (bp 0 [(au .i64).val false i,aq.val false s,.dj (bc.cells false z)]) (bf []):=by
 have hsm:=J6 (n:=s.owner) hz z.aj none (fun _ h=>h) (fun m hm=>by cases hm)
 change ∀ m,k6 z s.owner=some m→aw m at hsm
 unfold Tryz.f103
 simp only [jb]
 unfold k5
 cases hc:k6 z s.owner with
 |none=>
  simp only [↓wR,RA,simprocAttr,TF,ae,A6,Ff,hs.owner,hz,hc,Option.isSome_none]
  done
 |some c=>
  simp only [↓wR,RA,simprocAttr,TF,ae,A6,Ff,hs.owner,hz,hc]
  rw [b9];refine ⟨fun ⟨h,e⟩=>?_,fun ⟨h,e⟩=>?_⟩
  ·rw [if_pos e]
   simp only [↓wR,RA,simprocAttr,TF,ae,h]
  rw [if_neg e]
  simp only [↓wR,RA,simprocAttr,TF,ae,h]
  rw [b9];refine ⟨fun ⟨h2,e2⟩=>?_,fun ⟨h2,e2⟩=>?_⟩
  ·rw [if_pos e2]
   simp only [↓wR,RA,simprocAttr,TF,ae,h2]
  rw [if_neg e2]
  simp only [↓wR,RA,simprocAttr,TF,ae,h2]
  rw [b9];refine ⟨fun ⟨h3,e3⟩=>?_,fun ⟨h3,e3⟩=>?_⟩
  ·rw [if_pos e3]
   simp only [↓wR,RA,simprocAttr,TF,ae,h3,lh,hs.owner,hsm c hc]
  ·rw [if_neg e3]
   simp only [↓wR,RA,simprocAttr,TF,ae,h3]
noncomputable def Np (x:Int × bj × ay × Unit):Option AV:=if dc x.2.1∧bg x.2.2.1 then some ((r1 bd).E true (k5 x.2.2.1 x.2.1)) else none
set_option maxRecDepth 2000000 in
theorem Yq (x:Int × bj × ay × Unit) (r:AV) (h:Np x=some r):bb PP 103 ((aC (au .i64) (aC aq (aP bc a0))).E x) r:=by
 by_cases hc:dc x.2.1∧bg x.2.2.1
 case neg=>simp only [Np,if_neg hc] at h;cases h
 simp only [Np,if_pos hc] at h
 cases h
 exact ar (an.cons (ak W6) (an.cons (ak om) (an.nil PP))) Tryz.func103 (by kernel_rfl) (by kernel_rfl) (by kernel_rfl) (Nat.le_of_ble_eq_true (by kernel_rfl)) (r1 bd) true (k5 x.2.2.1 x.2.1) (ays x.1 x.2.1 x.2.2.1 hc.1 hc.2)
noncomputable abbrev n9:Nat × Bool × (List AV→M AV):=(103,true,cg (aC (au .i64) (aC aq (aP bc a0))) Np)
def my (z:ay) (p:Nat × Nat) (s:bj):Nat × Nat:=
 if (s.type.toNat:Int)=6 then (p.1+1,if (eg s.owner z.origin && decide ((s.data.length:Int)=1))=true then p.2+1 else p.2) else p
def fv (z:ay):Nat × Nat:=z.aj.foldl (my z) (0,0)
theorem awu (k:tk) (hz:bg k.z):wl PP [fi] 0 (Tryz.f99.body.getD .skip) (ct PP Tryz.f99.results.toList (fun r st=>(r2 (au .i64) (au .i64)).get true st.h r=some (((fv k.z).1:Int),((fv k.z).2:Int)))) (bp 0 [.dj (mb.cells false k)]) (bf []):=by
 have hl:=hz.len
 unfold Tryz.f99
 simp only [↓wR,RA,simprocAttr,TF,ae,Ax]
 refine cz (T:=[]) (an.nil PP) mixed Tryz.func78 rfl (by kernel_rfl) (by kernel_rfl) (by kernel_rfl) (by kernel_rfl) ?_;unfold Tryz.f78
 simp only [↓wR,RA,simprocAttr,TF,ae]
 refine ⟨[1,4,5,11],?_⟩
 have hib:Br PP 131=some (Tryz.f131.ntmps,Tryz.f131.body.getD .skip):=by kernel_rfl
 simp only [↓wR,RA,simprocAttr,TF,ae,hib]
 refine ⟨by kernel_rfl,fun l=>?_⟩
 unfold Tryz.f131
 simp only [↓wR,RA,simprocAttr,TF,ae]
 refine Fl [0,2,7,8,9] (fun (x:Nat × Nat × Nat)=>[.sc (.func (.yield l) #[] #[]),.ptr 4 0,.vl false 5 (k.z.aj.map (aq.val false)),.sc (.int .i64 (k.z.aj.length)),.sc (.int .i64 (x.1))]) (fun x=>[some (.row [.dj [.vl false 1 (k.z.origin.map (ag.val false)),.vl false 5 (k.z.aj.map (aq.val false)),.sc (.int .i64 (k.e))]] 0 2 144),some (.row [.sc (.int .i64 (x.2.1:Int))] 0 2 3),some (.row [.sc (.int .i64 (x.2.2:Int))] 0 2 3),some (.row [.vl false 1 (k.z.origin.map (ag.val false)),.vl false 5 (k.z.aj.map (aq.val false))] 0 2 26),some (.row [.sc (.int .u16 6)] 0 2 50)]) (fun x=>x.1≤k.z.aj.length∧x.2.1≤x.1∧x.2.2≤x.1∧fv k.z=(k.z.aj.drop x.1).foldl (my k.z) x.2) (fun x=>k.z.aj.length - x.1) (0,0,0) ⟨Nat.zero_le _,Nat.le_refl _,Nat.le_refl _,rfl⟩ (by simp only [↓wR,RA,simprocAttr,TF,ae]<;>rfl) (by simp only [↓wR,RA,simprocAttr,TF,ae]<;>rfl) ?_
 rintro ⟨i,n,m⟩ ⟨hi,hn,hm,hx⟩
 simp only at hi hn hm hx
 simp only [↓wR,RA,simprocAttr,TF,ae]
 rw [vq];refine ⟨fun h=>?_,fun h=>?_⟩
 ·obtain ⟨c,hc,hd1,hlt⟩:=dq h
  have hcs:=hz.set c (List.mem_of_getElem? hc)
  have hstep:fv k.z=(k.z.aj.drop (i+1)).foldl (my k.z) (my k.z (n,m) c):=by rw [hx,hd1];rfl
  simp only [↓wR,RA,simprocAttr,TF,ae,h,hc]
  rw [vq];refine ⟨fun h2=>?_,fun h2=>?_⟩
  ·have e2:(c.type.toNat:Int)=6:=by simpa using h2
   simp only [↓wR,RA,simprocAttr,TF,ae,h2]
   refine z9 [0,2,7,8,9,17,19] ?_
   simp only [↓wR,RA,simprocAttr,TF,ae,zf,nb];repeat (simp (disch:=omega) only [ah,bw,bz,bu,bt];try simp only [↓wR,RA,simprocAttr,TF,ae,zf,nb])
   refine ⟨by kernel_rfl,.inl ?_⟩
   simp only [↓wR,RA,simprocAttr,TF,ae,lh,hcs.owner,hz.origin]
   have fin:∀ q,my k.z (n,m) c=(n+1,q)→q≤i+1→fv k.z=(k.z.aj.drop (i+1)).foldl (my k.z) (n+1,q):=fun q hq _=>by rw [hstep,hq]
   rw [ca];refine ⟨fun h3=>?_,fun h3=>?_⟩
   ·simp only [↓wR,RA,simprocAttr,TF,ae,h3]
    refine ⟨by kernel_rfl,?_⟩
    rw [b9];refine ⟨fun ⟨h4,e4⟩=>?_,fun ⟨h4,e4⟩=>?_⟩
    ·have hq:my k.z (n,m) c=(n+1,m+1):=by simp [my,e2,h3,e4]
     simp only [↓wR,RA,simprocAttr,TF,ae,h4];repeat (simp (disch:=omega) only [ah,bw,bz,bu,bt];try simp only [↓wR,RA,simprocAttr,TF,ae,h4])
     exact ⟨(i+1,n+1,m+1),⟨hlt,by simp;omega,by simp;omega,fin _ hq (by omega)⟩,by simp;omega,by (first|rfl|trivial|omega|((try (simp (disch:=omega) only [ah]));(try (simp only [FB]));first|done|rfl|omega)),by (first|rfl|trivial|omega|((try (simp (disch:=omega) only [ah]));(try (simp only [FB]));first|done|rfl|omega))⟩
    ·have hq:my k.z (n,m) c=(n+1,m):=by simp [my,e2,h3,e4]
     simp only [↓wR,RA,simprocAttr,TF,ae,h4];repeat (simp (disch:=omega) only [ah,bw,bz,bu,bt];try simp only [↓wR,RA,simprocAttr,TF,ae,h4])
     exact ⟨(i+1,n+1,m),⟨hlt,by simp;omega,by simp;omega,fin _ hq (by omega)⟩,by simp;omega,by (first|rfl|trivial|omega|((try (simp (disch:=omega) only [ah]));(try (simp only [FB]));first|done|rfl|omega)),by (first|rfl|trivial|omega|((try (simp (disch:=omega) only [ah]));(try (simp only [FB]));first|done|rfl|omega))⟩
   ·have hq:my k.z (n,m) c=(n+1,m):=by simp [my,e2,h3]
    simp only [↓wR,RA,simprocAttr,TF,ae,h3]
    refine ⟨by kernel_rfl,?_⟩
    exact ⟨(i+1,n+1,m),⟨hlt,by simp;omega,by simp;omega,fin _ hq (by omega)⟩,by simp;omega,by (first|rfl|trivial|omega|((try (simp (disch:=omega) only [ah]));(try (simp only [FB]));first|done|rfl|omega)),by (first|rfl|trivial|omega|((try (simp (disch:=omega) only [ah]));(try (simp only [FB]));first|done|rfl|omega))⟩
  ·have e2:¬ (c.type.toNat:Int)=6:=by simpa using h2
   have hb2:my k.z (n,m) c=(n,m):=by simp [my,e2]
   rw [hb2] at hstep
   simp only [↓wR,RA,simprocAttr,TF,ae,h2];repeat (simp (disch:=omega) only [ah,bw,bz,bu,bt];try simp only [↓wR,RA,simprocAttr,TF,ae,h2])
   exact ⟨(i+1,n,m),⟨hlt,by simp;omega,by simp;omega,hstep⟩,by simp;omega,by (first|rfl|trivial|omega|((try (simp (disch:=omega) only [ah]));(try (simp only [FB]));first|done|rfl|omega)),by (first|rfl|trivial|omega|((try (simp (disch:=omega) only [ah]));(try (simp only [FB]));first|done|rfl|omega))⟩
 ·rw [en h] at hx
  simp only [↓wR,RA,simprocAttr,TF,ae,h]
  refine ⟨by kernel_rfl,.inl ?_⟩
  refine ⟨by kernel_rfl,?_⟩
  rw [hx];rfl
noncomputable def Kq (x:tk × Unit):Option AV:=if bg x.1.z then some ((r2 (au .i64) (au .i64)).E true ((((fv x.1.z).1:Int),((fv x.1.z).2:Int)))) else none
set_option maxRecDepth 2000000 in
theorem Qy (x:tk × Unit) (r:AV) (h:Kq x=some r):bb PP 99 ((aP mb a0).E x) r:=by
 by_cases hc:bg x.1.z
 case neg=>simp only [Kq,if_neg hc] at h;cases h
 simp only [Kq,if_pos hc] at h
 cases h
 exact ar (an.cons (ak om) (an.nil PP)) Tryz.func99 (by kernel_rfl) (by kernel_rfl) (by kernel_rfl) (Nat.le_of_ble_eq_true (by kernel_rfl)) (r2 (au .i64) (au .i64)) true ((((fv x.1.z).1:Int),((fv x.1.z).2:Int))) (awu x.1 hc)
noncomputable abbrev ld:Nat × Bool × (List AV→M AV):=(99,true,cg (aP mb a0) Kq)
end Go.Proofs.YtjagjbceegbaiaaGreat
end
