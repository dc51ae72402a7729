/- A piece of the proof. Proved: where the arguments are together of bulk at most 1048576, the law SetFinds returns true (whether sets are the same, and their order), and what it was given reads afterwards as it did before. No other conditions. -/
import Derived.WalkKit
import Derived.CallsIn
import Derived.RangeFuncIn
import Derived.RangeFuncLeaves
import Derived.Orders
import Derived.OrdersIn
import Derived.Scope
import Derived.RangeFuncOwn
import Derived.Stop.SameAnswer
import Derived.Laws.Externs
import Derived.Lib.Bytealg
import Derived.ProofKit
import Derived.OpenShut
import Derived.ReadAgain
import Derived.Deep.Slices
import Derived.ChangeSame
import Derived.Test.YtgencolcibpcaaaGreatProg
import Derived.KernelRfl
import Derived.Test.YtgencolcibpcaaaGreatRows
import Derived.Maps.RangeRun
import Derived.JoinedCond
import Derived.Test.YtgencolcibpcaaaGreatF2
set_option linter.unusedSimpArgs false
set_option linter.unusedVariables false
set_option linter.unusedSectionVars false
section
namespace Go.Proofs.YtgencolcibpcaaaGreat
open Go.Vm
noncomputable abbrev PP:=Tryz.prog
theorem mixed:PP.follows .mixedOrders=true:=by kernel_rfl
theorem au {T:dq} (hT:ai PP T) {f:Nat} {fn:Func} (hf:PP.funcs[f]? = some fn) (hb:fn.body.isSome=true) (he:mg PP f=true) (hs:dm fn.ntmps (fn.body.getD .skip)=true)
 {args:List AV} (hl:args.length≤fn.ntmps) {ρ:Type} (R:RC ρ) (fr:Bool) (x : ρ)
 (h:wl PP T 0 (fn.body.getD .skip) (cy PP fn.results.toList (fun r st=>R.get fr st.h r=some x)) (cf 0 args) (bk [])):bb PP f args (R.E fr x):=
 Pp (body:=fn.body.getD .skip) hT mixed hf (by cases hq:fn.body with|none=>rw [hq] at hb;cases hb|some b=>rfl) he hs hl R fr x h
def fo (s:ByteArray):Int:=if s.size<1∨63<s.size then 4 else 0
theorem Tt (s:ByteArray):wl PP [] 0 (Tryz.f159.body.getD .skip) (cy PP Tryz.f159.results.toList (fun r st=>(r1 (bo .i64)).get true st.h r=some (fo s))) (cf 0 [aq.val false s]) (bk []):=by
 unfold Tryz.f159
 simp only [↓wR,RA,simprocAttr,TF]
 rw [dg]
 refine ⟨fun h=>?_,fun h=>?_⟩
 ·have h1:s.size<1:=by simp at h;omega
  simp only [↓wR,RA,simprocAttr,TF,fo,h,h1,true_or]
 ·have h1:¬ s.size<1:=by simp at h;omega
  simp only [↓wR,RA,simprocAttr,TF,h]
  rw [dg]
  refine ⟨fun h=>?_,fun h=>?_⟩
  ·have h2 : 63<s.size:=by simp at h;omega
   simp only [↓wR,RA,simprocAttr,TF,fo,h2,or_true]
  ·have h2:¬ 63<s.size:=by simp at h;omega
   simp only [↓wR,RA,simprocAttr,TF,fo,h1,h2,or_self]
noncomputable def B8 (x:ByteArray × Unit):Option AV:=some ((r1 (bo .i64)).E true (fo x.1))
set_option maxRecDepth 2000000 in
theorem Mu (x:ByteArray × Unit) (r:AV) (h:B8 x=some r):bb PP 159 ((aC aq a0).E x) r:=by
 cases h
 exact au (ai.nil PP) Tryz.func159 (by kernel_rfl) (by kernel_rfl) (by kernel_rfl) (Nat.le_of_ble_eq_true (by kernel_rfl)) (r1 (bo .i64)) true (fo x.1) (Tt x.1)
noncomputable abbrev aer:Nat × Bool × (List AV→M AV):=(159,true,cx (aC aq a0) B8)
def bp (n:Name):Nat:=n.foldl (fun k s=>k+(s.size+1)) 1
theorem Tv (l:Name) (c:ByteArray):bp (l++[c])=bp l+(c.size+1):=by simp [bp]
theorem yj (n:Name) (i:Nat) (c:ByteArray) (h:n[i]? = some c):bp (n.take (i+1))=bp (n.take i)+(c.size+1):=by
 obtain ⟨hk,rfl⟩:=List.getElem?_eq_some_iff.1 h
 rw [List.take_succ_eq_append_getElem hk,Tv]
theorem yh (l:Name):∀ k,l.foldl (fun k s=>k+(s.size+1)) k=k+l.foldl (fun k s=>k+(s.size+1)) 0:=by
 induction l with
 |nil=>intro k;simp
 |cons a l ih=>intro k;simp only [List.foldl_cons];rw [ih,ih (0+_)];omega
theorem nm (a b:Name):bp (a++b)+1=bp a+bp b:=by
 simp only [bp,List.foldl_append]
 rw [yh b,yh b 1];omega
theorem g8 (n:Name) (i:Nat):bp (n.take i)≤bp n∧n.length<bp n:=by
 constructor
 ·have:=nm (n.take i) (n.drop i)
  rw [List.take_append_drop] at this
  have h1 : 1≤bp (n.drop i):=by simp only [bp];rw [yh];omega
  omega
 ·induction n with
  |nil=>simp [bp]
  |cons a l ih=>
   have:=nm [a] l
   simp only [List.singleton_append] at this
   have h1:bp [a]=a.size+2:=by simp [bp];omega
   simp only [List.length_cons]
   omega
theorem wrap_i64 (x:Int) (h0 : -9223372036854775808≤x) (h1:x<9223372036854775808):IntKind.i64.wrap x=x:=by
 simp [IntKind.wrap,IntKind.bits,IntKind.signed];omega
theorem aaj (n:Name) (hn:bp n<17592186044416):wl PP [] 0 (Tryz.f160.body.getD .skip) (cy PP Tryz.f160.results.toList (fun r st=>(r1 (bo .i64)).get true st.h r=some (bp n:Int))) (cf 0 [aj.val false n]) (bk []):=by
 unfold Tryz.f160
 rw [ct]
 simp only [↓wR,RA,simprocAttr,TF]
 refine de [3,6,7,8] (fun (x:Nat)=>[.sc (.int .i64 (bp (n.take x))),.vl false 1 (n.map (aq.val false)),.sc (.int .i64 n.length),.sc (.int .i64 x)]) (fun _=>[]) (fun x=>x≤n.length) (fun x=>n.length - x) 0 (Nat.zero_le _) ?_ ?_ ?_
 ·simp only [↓wR,RA,simprocAttr,TF]<;>rfl
 ·simp only [↓wR,RA,simprocAttr,TF]
 ·intro i hi
  have h1:=g8 n i
  simp only [↓wR,RA,simprocAttr,TF]
  rw [dg]
  refine ⟨fun h=>?_,fun h=>?_⟩
  ·have h4:i<n.length:=by simp at h;omega
   obtain ⟨c,hc⟩:∃ c,n[i]? = some c:=⟨n[i],by simp [h4]⟩
   have h2:=yj n i c hc
   have h3:=(g8 n (i+1)).1
   simp only [↓wR,RA,simprocAttr,TF,hc]
   refine ⟨i+1,by omega,by omega,?_⟩
   rw [h2]
   simp only [List.cons.injEq,and_true,true_and,AV.sc.injEq,Value.int.injEq]
   refine ⟨?_,?_⟩
   ·rw [wrap_i64 ((c.size:Int)+1) (by omega) (by omega),wrap_i64 _ (by omega) (by omega)];omega
   ·rw [wrap_i64 _ (by omega) (by omega)];omega
  ·have h4:i=n.length:=by simp at h;omega
   subst h4
   simp only [↓wR,RA,simprocAttr,TF,List.take_length]
noncomputable def ur (x:Name × Unit):Option AV:=if bp x.1<17592186044416 then some ((r1 (bo .i64)).E true ((bp x.1:Int))) else none
set_option maxRecDepth 2000000 in
theorem O0 (x:Name × Unit) (r:AV) (h:ur x=some r):bb PP 160 ((aC aj a0).E x) r:=by
 by_cases hc:bp x.1<17592186044416
 case neg=>simp only [ur,if_neg hc] at h;cases h
 simp only [ur,if_pos hc] at h
 cases h
 exact au (ai.nil PP) Tryz.func160 (by kernel_rfl) (by kernel_rfl) (by kernel_rfl) (Nat.le_of_ble_eq_true (by kernel_rfl)) (r1 (bo .i64)) true ((bp x.1:Int)) (aaj x.1 hc)
noncomputable abbrev ajp:Nat × Bool × (List AV→M AV):=(160,true,cx (aC aj a0) ur)
def m8 (n:Name):Bool:=n.any fun s=>decide (fo s≠0)
def da (n:Name):Int:=if m8 n then 4 else if 255<bp n then 5 else 0
theorem Gz (n:Name) (i:Nat) (c:ByteArray) (h:n[i]? = some c):m8 (n.take (i+1))=(m8 (n.take i) || decide (fo c≠0)):=by
 obtain ⟨hk,rfl⟩:=List.getElem?_eq_some_iff.1 h
 rw [List.take_succ_eq_append_getElem hk]
 simp only [m8,List.any_append,List.any_cons,List.any_nil,Bool.or_false]
theorem Fv (n:Name) (i:Nat) (c:ByteArray) (h:n[i]? = some c) (hc:fo c≠0):m8 n=true:=by
 simp only [m8,List.any_eq_true]
 exact ⟨c,List.mem_of_getElem? h,by simp [hc]⟩
theorem Yc (s:ByteArray):fo s=0∨fo s=4:=by unfold fo;split<;>simp
theorem Ww (n:Name) (hn:bp n<17592186044416):wl PP [aer,ajp] 0 (Tryz.f121.body.getD .skip) (cy PP Tryz.f121.results.toList (fun r st=>(r1 (bo .i64)).get true st.h r=some (da n))) (cf 0 [aj.val false n]) (bk []):=by
 unfold Tryz.f121
 rw [ct]
 simp only [↓wR,RA,simprocAttr,TF]
 refine de [0,6,7,8] (fun (x:Nat)=>[.vl false 1 (n.map (aq.val false)),.vl false 1 (n.map (aq.val false)),.sc (.int .i64 n.length),.sc (.int .i64 x)]) (fun _=>[]) (fun x=>x≤n.length∧m8 (n.take x)=false) (fun x=>n.length - x) 0 ⟨Nat.zero_le _,by simp [m8]⟩ ?_ ?_ ?_
 ·simp only [↓wR,RA,simprocAttr,TF]<;>rfl
 ·simp only [↓wR,RA,simprocAttr,TF]
 ·rintro i ⟨hi,hb⟩
  have h1:=g8 n i
  simp only [↓wR,RA,simprocAttr,TF]
  rw [dg]
  refine ⟨fun h=>?_,fun h=>?_⟩
  ·have h4:i<n.length:=by simp at h;omega
   obtain ⟨c,hc⟩:∃ c,n[i]? = some c:=⟨n[i],by simp [h4]⟩
   simp only [↓wR,RA,simprocAttr,TF,hc,B8]
   rw [dg]
   refine ⟨fun h=>?_,fun h=>?_⟩
   ·have h5:fo c≠0:=by simpa using h
    have h6:fo c=4:=(Yc c).resolve_left h5
    simp only [↓wR,RA,simprocAttr,TF,da,Fv n i c hc h5,h6]
   ·have h5:fo c=0:=by simpa using h
    simp only [↓wR,RA,simprocAttr,TF]
    refine ⟨i+1,⟨by omega,by rw [Gz n i c hc,hb];simp [h5]⟩,by omega,?_⟩
    simp only [List.cons.injEq,and_true,true_and,AV.sc.injEq,Value.int.injEq]
    rw [wrap_i64 _ (by omega) (by omega)];omega
  ·have h4:i=n.length:=by simp at h;omega
   subst h4
   rw [List.take_length] at hb
   simp only [↓wR,RA,simprocAttr,TF,ur,hn]
   rw [dg]
   refine ⟨fun h=>?_,fun h=>?_⟩
   ·have h5 : 255<bp n:=by simp at h;omega
    simp only [↓wR,RA,simprocAttr,TF,da,hb,h5]
   ·have h5:¬ 255<bp n:=by simp at h;omega
    simp only [↓wR,RA,simprocAttr,TF,da,hb,h5]
noncomputable def so (x:Name × Unit):Option AV:=if bp x.1<17592186044416 then some ((r1 (bo .i64)).E true (da x.1)) else none
set_option maxRecDepth 2000000 in
theorem Dc (x:Name × Unit) (r:AV) (h:so x=some r):bb PP 121 ((aC aj a0).E x) r:=by
 by_cases hc:bp x.1<17592186044416
 case neg=>simp only [so,if_neg hc] at h;cases h
 simp only [so,if_pos hc] at h
 cases h
 exact au (ai.cons (ak Mu) (ai.cons (ak O0) (ai.nil PP))) Tryz.func121 (by kernel_rfl) (by kernel_rfl) (by kernel_rfl) (Nat.le_of_ble_eq_true (by kernel_rfl)) (r1 (bo .i64)) true (da x.1) (Ww x.1 hc)
noncomputable abbrev Rf:Nat × Bool × (List AV→M AV):=(121,true,cx (aC aj a0) so)
def low (c:UInt8):UInt8:=if 65≤c∧c≤90 then c+32 else c
def fold (s:ByteArray):ByteArray:=⟨(s.data.toList.map low).toArray⟩
def kn (l:List UInt8) (i:Nat):List UInt8:=(l.take i).map low++l.drop i
theorem aii (l:List UInt8) (i:Nat):(kn l i).length=l.length:=by simp [kn];omega
theorem Ql (l:List UInt8) (i:Nat) (h:i<l.length):(kn l i)[i]? = l[i]? := by
 simp [kn,List.getElem?_append,Nat.min_eq_left (Nat.le_of_lt h)]
theorem Qu (l:List UInt8) (i:Nat) (h:i<l.length):(kn l i).take i++[low l[i]]++(kn l i).drop (i+1)=kn l (i+1):=by
 have h1:((l.take i).map low).length=i:=by simp;omega
 have h2:(kn l i).take i=(l.take i).map low:=by rw [kn,List.take_append_of_le_length (by omega),List.take_of_length_le (by omega)]
 have h3:(kn l i).drop (i+1)=l.drop (i+1):=by
  rw [kn,List.drop_append,List.drop_eq_nil_of_le (by omega),h1]
  simp
 rw [h2,h3,kn,List.take_succ_eq_append_getElem h,List.map_append]
 rfl
theorem Lq (l:List UInt8) (i:Nat) (h:i<l.length) (hk:low l[i]=l[i]):kn l i=kn l (i+1):=by
 rw [← Qu l i h,hk]
 have:(kn l i)[i]? = some l[i]:=by rw [Ql l i h];simp [h]
 obtain ⟨hlt,e⟩:=List.getElem?_eq_some_iff.1 this
 rw [← e,← List.take_succ_eq_append_getElem hlt,List.take_append_drop]
set_option maxRecDepth 20000 in
theorem Vl (s:ByteArray) (hs:s.size≤16777216):wl PP [] 0 (Tryz.f152.body.getD .skip) (cy PP Tryz.f152.results.toList (fun r st=>(r1 aq).get true st.h r=some (fold s))) (cf 0 [aq.val false s]) (bk []):=by
 unfold Tryz.f152
 have hl:s.data.toList.length=s.size:=by simp
 simp only [↓wR,RA,simprocAttr,TF,hs]
 refine de [3,8,9,10] (fun (x:Nat)=>[.sl 0 0 s.size 1,.sl 0 0 s.size 1,.sc (.int .i64 s.size),.sc (.int .i64 x)]) (fun x=>[some (.row ((kn s.data.toList x).map (ay.val false)) 0 1 5)]) (fun x=>x≤s.size) (fun x=>s.size - x) 0 (Nat.zero_le _) ?_ ?_ ?_
 ·simp only [↓wR,RA,simprocAttr,TF]<;>rfl
 ·simp only [↓wR,RA,simprocAttr,TF]<;>rfl
 ·intro i hi
  simp only [↓wR,RA,simprocAttr,TF]
  rw [dg]
  refine ⟨fun h=>?_,fun h=>?_⟩
  ·have h4:i<s.size:=by simp at h;omega
   have h6:i<s.data.toList.length:=by omega
   have h5:(kn s.data.toList i)[i]? = some s.data.toList[i]:=by rw [Ql s.data.toList i h6];simp [h6]
   obtain ⟨c,hc⟩:∃ c,s.data.toList[i]=c:=⟨_,rfl⟩
   have hcl:=c.toNat_lt
   rw [hc] at h5
   simp only [↓wR,RA,simprocAttr,TF,h4,h5]
   rw [dg]
   refine ⟨fun h1=>?_,fun h1=>?_⟩
   ·simp only [↓wR,RA,simprocAttr,TF,h1]
    rw [dg]
    refine ⟨fun h2=>?_,fun h2=>?_⟩
    ·have h7:i+1≤s.size:=by omega
     have hlow:low c=c+32:=by
      simp at h1 h2
      have a1 : 65≤c:=by rw [UInt8.le_iff_toNat_le];simp;omega
      have a2:c≤90:=by rw [UInt8.le_iff_toNat_le];simp;omega
      simp [low,a1,a2]
     have hw:IntKind.u8.wrap (IntKind.u8.wrap ((c.toNat:Int)+97) - 65)=((low c).toNat:Int):=by
      simp at h1 h2
      rw [hlow]
      simp [IntKind.wrap,IntKind.bits,IntKind.signed,UInt8.toNat_add]
      omega
     have hst:List.map (ay.val false) (List.take i (kn s.data.toList i))++[AV.sc (Value.int IntKind.u8 ((low c).toNat:Int))]++List.map (ay.val false) (List.drop (i+1) (kn s.data.toList i))=List.map (ay.val false) (kn s.data.toList (i+1)):=by
      rw [← Qu s.data.toList i h6,hc,List.map_append,List.map_append];rfl
     simp only [↓wR,RA,simprocAttr,TF,h4,h7,aii,hl,hw,hst]
     refine ⟨i+1,h7,by omega,?_,rfl⟩
     rw [wrap_i64 _ (by omega) (by omega)];rfl
    ·simp only [↓wR,RA,simprocAttr,TF]
     have hk:low c=c:=by
      simp at h2
      have a2:¬ c≤90:=by rw [UInt8.le_iff_toNat_le];simp;omega
      simp [low,a2]
     refine ⟨i+1,by omega,by omega,?_,?_⟩
     ·rw [wrap_i64 _ (by omega) (by omega)];rfl
     ·rw [Lq s.data.toList i h6 (by rw [hc];exact hk)]
   ·simp only [↓wR,RA,simprocAttr,TF,h1]
    have hk:low c=c:=by
     simp at h1
     have a2:¬ 65≤c:=by rw [UInt8.le_iff_toNat_le];simp;omega
     simp [low,a2]
    refine ⟨i+1,by omega,by omega,?_,?_⟩
    ·rw [wrap_i64 _ (by omega) (by omega)];rfl
    ·rw [Lq s.data.toList i h6 (by rw [hc];exact hk)]
  ·have h4:i=s.size:=by simp at h;omega
   subst h4
   have:∃ m,List.map low s.data.toList=m:=⟨_,rfl⟩
   obtain ⟨m,hm⟩:=this
   have h5:kn s.data.toList s.size=m:=by rw [kn,List.take_of_length_le (Nat.le_of_eq hl),List.drop_eq_nil_of_le (Nat.le_of_eq hl),List.append_nil,hm]
   have hlm:m.length=s.size:=by rw [← hm,List.length_map,hl]
   have h6:List.take s.size (List.map (ay.val false) m)=List.map (ay.val false) m:=List.take_of_length_le (by rw [List.length_map,hlm];exact Nat.le_refl _)
   have hf:fold s=⟨m.toArray⟩:=by rw [fold,hm]
   rw [h5,hf]
   simp only [↓wR,RA,simprocAttr,TF,hlm,h6]
noncomputable def o9 (x:ByteArray × Unit):Option AV:=if x.1.size≤16777216 then some ((r1 aq).E true (fold x.1)) else none
set_option maxRecDepth 2000000 in
theorem wb (x:ByteArray × Unit) (r:AV) (h:o9 x=some r):bb PP 152 ((aC aq a0).E x) r:=by
 by_cases hc:x.1.size≤16777216
 case neg=>simp only [o9,if_neg hc] at h;cases h
 simp only [o9,if_pos hc] at h
 cases h
 exact au (ai.nil PP) Tryz.func152 (by kernel_rfl) (by kernel_rfl) (by kernel_rfl) (Nat.le_of_ble_eq_true (by kernel_rfl)) (r1 aq) true (fold x.1) (Vl x.1 hc)
noncomputable abbrev Hu:Nat × Bool × (List AV→M AV):=(152,true,cx (aC aq a0) o9)
theorem Ym (a b:ByteArray) (ha:a.size≤16777216) (hb:b.size≤16777216):wl PP [Hu] 0 (Tryz.f145.body.getD .skip) (cy PP Tryz.f145.results.toList (fun r st=>(r1 bc).get true st.h r=some (decide (fold a=fold b)))) (cf 0 [aq.val false a,aq.val false b]) (bk []):=by
 unfold Tryz.f145
 simp only [↓wR,RA,simprocAttr,TF,o9,ha,hb]
noncomputable def uh (x:ByteArray × ByteArray × Unit):Option AV:=if x.1.size≤16777216∧x.2.1.size≤16777216 then some ((r1 bc).E true (decide (fold x.1=fold x.2.1))) else none
set_option maxRecDepth 2000000 in
theorem Qc (x:ByteArray × ByteArray × Unit) (r:AV) (h:uh x=some r):bb PP 145 ((aC aq (aC aq a0)).E x) r:=by
 by_cases hc:x.1.size≤16777216∧x.2.1.size≤16777216
 case neg=>simp only [uh,if_neg hc] at h;cases h
 simp only [uh,if_pos hc] at h
 cases h
 exact au (ai.cons (ak wb) (ai.nil PP)) Tryz.func145 (by kernel_rfl) (by kernel_rfl) (by kernel_rfl) (Nat.le_of_ble_eq_true (by kernel_rfl)) (r1 bc) true (decide (fold x.1=fold x.2.1)) (Ym x.1 x.2.1 hc.1 hc.2)
noncomputable abbrev ajw:Nat × Bool × (List AV→M AV):=(145,true,cx (aC aq (aC aq a0)) uh)
end Go.Proofs.YtgencolcibpcaaaGreat
end
section
namespace Go.Proofs.YtgencolcibpcaaaGreat
open Go.Vm Go.RowKit
theorem apv {x:Value} (h:kg x = .str):∃ s,x = .string s:=by cases x<;>first|exact ⟨_,rfl⟩|cases h
theorem Nx {x:Value} {k:IntKind} (h:kg x = .int k):∃ i,x = .int k i:=by cases x<;>first|(cases h;exact ⟨_,rfl⟩)|cases h
theorem Gm:Tryz.f38.ntmps=22:=rfl
set_option maxHeartbeats 1600000 in
set_option maxRecDepth 1000000 in
theorem ye {S:Nat→Prop} {M:Nat} {v:Value} {w:World} (hM:M<9223372036854775807) (hv:lf S M w .str v) :
 Calls PP 38 #[v] w (fun e w'=>∃ r,e = .returned r∧gn S 1 false w w'):=by
 rcases hv with ⟨a,rfl⟩|⟨b,off,n,cap,cs,e,rfl,h1,⟨h2,hcm⟩,h3,h4,h5,h6⟩
 ·go_enter Tryz.func38,Gm
  cases a with
  |none=>
   go_wp2
   refine wp_loop_rounds 1 ?_
   rw [rounds_succ]
   go_wp2
   go_end0
   exact ⟨_,rfl,.refl _ _ _ _⟩
  |some a=>
   go_wp2
   refine wp_loop_rounds 1 ?_
   rw [rounds_succ]
   go_wp2
   go_end0
   exact ⟨_,rfl,.refl _ _ _ _⟩
 unfold maxLen at hcm
 go_enter Tryz.func38,Gm
 go_wp2
 go_loopw [3] (fun i wr=>∃ k:Nat,k≤cap∧i = .int .i64 k∧Lp w b cs e off 1 k wr)
  (fun i _=>cap - (RowKit.intOf i).toNat)
 case atStart=>exact ⟨0,Nat.zero_le _,rfl,.start h3⟩
 case round=>
  obtain ⟨k,hk,rfl,hl⟩:=hrel
  by_cases hkc:k<cap
  ·have hlt:off+k<cs.size:=by omega
   obtain ⟨x,hx⟩:∃ x,cs[off+k]? = some x:=⟨_,Array.getElem?_eq_getElem hlt⟩
   obtain ⟨q1,q2⟩:=h6 k x hkc hx
   obtain ⟨s,rfl⟩:=apv q1
   have hs:=hl.cell hx
   have hfz:=hl.frozen (off+k)
   have hsM:s.size+1≤9223372036854775807:=by have:=q2 s rfl;omega
   go_wp2
   go_roundw
   case rel=>exact ⟨k+1,by omega,by simp,hl.step hx (by simp [kg]) rfl (fun s' e=>by cases e;exact ⟨s,rfl,by rw [ByteArray.size_append];exact Nat.le_refl _⟩)⟩
   case measure=>simp [RowKit.intOf];omega
  ·go_wp2
   go_end0
   exact ⟨_,rfl,hl.ou h3 h1⟩
theorem Y3:Tryz.f117.ntmps=22:=rfl
set_option maxHeartbeats 1600000 in
set_option maxRecDepth 1000000 in
theorem Tm {S:Nat→Prop} {M:Nat} {v:Value} {w:World} (hv:lf S M w (.int .u8) v) :
 Calls PP 117 #[v] w (fun e w'=>∃ r,e = .returned r∧gn S 1 false w w'):=by
 obtain ⟨base,n,cap,rfl,h2,hcm,hb0⟩:=hv.form
 unfold maxLen at hcm
 have hst:=Hm.start (m:=1) hv
 go_enter Tryz.func117,Y3
 go_wp2
 go_loopw [3] (fun i wr=>∃ k:Nat,k≤cap∧i = .int .i64 k∧Hm S 1 k w (.slice base n cap) wr)
  (fun i _=>cap - (RowKit.intOf i).toNat)
 case atStart=>exact ⟨0,Nat.zero_le _,rfl,hst⟩
 case round=>
  obtain ⟨k,hk,rfl,hl⟩:=hrel
  by_cases hkc:k<cap
  ·obtain ⟨b,off,x,rfl,hs,hfz,q1,q2,hstep⟩:=hl.at (by decide) hv hkc
   obtain ⟨y,rfl⟩:=Nx q1
   go_wp2
   go_roundw
   case rel=>exact ⟨k+1,by omega,by simp,hstep _ rfl (fun s' e=>by cases e)⟩
   case measure=>simp [RowKit.intOf];omega
  ·go_wp2
   go_end0
   exact ⟨_,rfl,hl.ou⟩
theorem aax:Tryz.f66.ntmps=44:=rfl
set_option maxHeartbeats 1600000 in
set_option maxRecDepth 1000000 in
theorem Wo {S:Nat→Prop} {Nn M:Nat} {va vb vc vd:Value} {w:World} (hM4 : 4≤M) (hM:M+(Nn+3)<9223372036854775807) (hS:∀ b,w.heap.size≤b→S b) (hv:Ii S Nn M w [va,vb,vc,vd]) :
 Calls PP 66 #[.agg #[va,vb,vc,vd]] w (fun e w'=>∃ r,e = .returned r∧gn S (Nn+3) false w w'):=by
 obtain ⟨_,_,_,_,he,ha,hb,hc,hd⟩:=hv
 cases he
 have hal:gn S 0 false w (w.alloc (.cells #[va,vb,vc,vd] 101)):=gn.alloc _
 obtain ⟨bn,an,cn,rfl,an1,an2,an3,an4⟩:=ha.form
 obtain ⟨bm,am,cm,rfl,am2,am3,am4⟩:=hb.form
 unfold maxLen at an3 am3
 have hheap:(w.alloc (.cells #[Value.slice bn an cn,.slice bm am cm,vc,vd] 101)).heap[w.heap.size]? = some (.cells #[Value.slice bn an cn,.slice bm am cm,vc,vd] 101 (0,0)):=Ab _ _
 have cell:∀ {m:Nat} {wr:World},gn S m false (w.alloc (.cells #[Value.slice bn an cn,.slice bm am cm,vc,vd] 101)) wr→wr.cell? ⟨w.heap.size,0,none⟩=some (.slice bn an cn)∧wr.cell? ⟨w.heap.size,1,none⟩=some (.slice bm am cm)∧wr.cell? ⟨w.heap.size,2,none⟩=some vc∧wr.cell? ⟨w.heap.size,3,none⟩=some vd:=by
  intro m wr h
  refine ⟨h.stay (by rw [gg hheap];rfl) rfl,h.stay (by rw [gg hheap];rfl) rfl,h.stay (by rw [gg hheap];rfl) hc.slice,h.stay (by rw [gg hheap];rfl) hd.slice⟩
 go_enter Tryz.func66,aax
 go_wp2
 go_loopw [2] (fun i wr=>∃ k:Nat,k≤an∧i = .int .i64 k∧gn S k false (w.alloc (.cells #[Value.slice bn an cn,.slice bm am cm,vc,vd] 101)) wr)
  (fun i _=>an - (RowKit.intOf i).toNat)
 case atStart=>exact ⟨0,Nat.zero_le _,rfl,.refl _ _ _ _⟩
 case round=>
  obtain ⟨k,hk,rfl,ho⟩:=hrel
  obtain ⟨c0,c1,c2,c3⟩:=cell ho
  by_cases hkc:k<an
  ·have hn:=Qr hM4 (hal.trans ho) ha
   obtain ⟨b,off,cs,e,rfl,e1,e2,e3,e4,e5,e6,v,e7,e8⟩:=hn.at hkc
   have h9:cs.getD (off+k) undef=v:=by simpa using e7
   have hx:wr.cell? ⟨b,off+k,none⟩=some v:=by rw [← h9];exact cell_of e2 (by omega)
   go_wp2
   refine (ye (by omega) e8).mono ?_
   rintro ex w2 ⟨r,rfl,hov⟩
   go_wp2
   go_roundw
   case rel=>exact ⟨k+1,hkc,by simp,ho.trans hov⟩
   case measure=>simp [RowKit.intOf];omega
  ·go_wp2
   have hbb:=(hb.ou (by decide) (hal.trans ho)).mono (M':=M+Nn) (by omega)
   have hst:=Hm.start (m:=1) hbb
   go_loopw [4] (fun i w2=>∃ q:Nat,q≤cm∧i = .int .i64 q∧Hm S 1 q wr (.slice bm am cm) w2)
    (fun i _=>cm - (RowKit.intOf i).toNat)
   case atStart=>exact ⟨0,Nat.zero_le _,rfl,hst⟩
   case round=>
    obtain ⟨q,hq,rfl,hl⟩:=hrel
    by_cases hqc:q<cm
    ·obtain ⟨b,off,x,rfl,hs,hfz,q1,q2,hstep⟩:=hl.at (by decide) hbb hqc
     obtain ⟨y,rfl⟩:=Nx q1
     go_wp2
     go_roundw
     case rel=>exact ⟨q+1,by omega,by simp,hstep _ rfl (fun s' e=>by cases e)⟩
     case measure=>simp [RowKit.intOf];omega
    ·have ho2:=hl.ou
     obtain ⟨d0,d1,d2,d3⟩:=cell (ho.trans ho2)
     go_wp2
     have h3:=(hal.trans ho).trans ho2
     refine (ye (M:=M+(0+k+1)) (by omega) (hc.ou (by decide) h3)).mono ?_
     rintro ex w2 ⟨r,rfl,hov⟩
     obtain ⟨f0,f1,f2,f3⟩:=cell ((ho.trans ho2).trans hov)
     go_wp2
     refine (Tm (hd.ou (by decide) (h3.trans hov))).mono ?_
     rintro ex w3 ⟨r2,rfl,hov2⟩
     go_wp2
     go_end0
     exact ⟨_,rfl,((h3.trans hov).trans hov2).mono (by omega)⟩
theorem aqw:TK.sz 9=some 1:=by kernel_rfl
theorem Zo:Tryz.f19.ntmps=86:=rfl
set_option maxHeartbeats 3200000 in
set_option maxRecDepth 1000000 in
theorem Fs {S:Nat→Prop} {Nn Nd N M:Nat} {v:Value} {w:World} (hM4 : 4≤M) (hM:M+N * (1+Nd * (Nn+3))+(Nn+3)<9223372036854775807) (hS:∀ b,w.heap.size≤b→S b) (hv:jz S N w 5 (yg S Nn Nd M) v) :
 Calls PP 19 #[v] w (fun e w'=>∃ r,e = .returned r∧gn S (N * (1+Nd * (Nn+3))) true w w'):=by
 obtain ⟨bn,an,cn,rfl,an1,an2,an3,an4⟩:=hv.form
 unfold maxLen at an3
 go_enter Tryz.func19,Zo
 go_wp2
 go_loopw [2] (fun i wr=>∃ k:Nat,k≤an∧i = .int .i64 k∧gn S (k * (1+Nd * (Nn+3))) true w wr)
  (fun i _=>an - (RowKit.intOf i).toNat)
 case atStart=>exact ⟨0,Nat.zero_le _,rfl,(gn.refl _ _ _ _)⟩
 case round=>
  obtain ⟨k,hk,rfl,ho⟩:=hrel
  by_cases hkc:k<an
  ·have hn:=Lk hM4 ho hv
   obtain ⟨b,off,cs,e,rfl,e1,e2,e3,e4,e5,e6,o,ty,cl,u,d,e7,e8,e9,e10,e11,e12⟩:=hn.at hkc
   simp only [show List.range 5=[0,1,2,3,4] from rfl,List.map_cons,List.map_nil,List.cons.injEq,and_true,Nat.add_zero] at e7
   obtain ⟨g0,g1,g2,g3,g4⟩:=e7
   have c0:wr.cell? ⟨b,off+k * 5,none⟩=some o:=by rw [← g0];exact cell_of e2 (by omega)
   have c4:wr.cell? ⟨b,off+k * 5+4,none⟩=some d:=by rw [← g4];exact cell_of e2 (by omega)
   go_wp2
   refine (ye (M:=M+k * (1+Nd * (Nn+3))) (by have:=Nat.mul_le_mul_right (1+Nd * (Nn+3)) (show k≤N by omega);omega) e8).mono ?_
   rintro ex w2 ⟨r,rfl,hov⟩
   obtain ⟨bd,dn,dc,rfl,d1,d2,d3,d4⟩:=e12.form
   unfold maxLen at d3
   have hsz:w.heap.size≤w2.heap.size:=Nat.le_trans ho.size hov.size
   have f4:w2.cell? ⟨b,off+k * 5+4,none⟩=some (.slice bd dn dc):=hov.stay c4 rfl
   go_wp2
   go_loopw [3] (fun i wr2=>∃ q:Nat,q≤dn∧i = .int .i64 q∧gn S (q * (Nn+3)) false w2 wr2)
    (fun i _=>dn - (RowKit.intOf i).toNat)
   case atStart=>exact ⟨0,Nat.zero_le _,rfl,(gn.refl _ _ _ _)⟩
   case round=>
    obtain ⟨q,hq,rfl,ho2⟩:=hrel
    have f5:=ho2.stay f4 rfl
    by_cases hqc:q<dn
    ·have hd2:=A4 (by omega) (hov.trans ho2) e12
     obtain ⟨b2,off2,cs2,et2,rfl,p1,p2,p3,p4,p5,p6,p7⟩:=hd2.at hqc
     obtain ⟨x0,x1,x2,x3,p8,p9⟩:=id p7
     simp only [show List.range 4=[0,1,2,3] from rfl,List.map_cons,List.map_nil,List.cons.injEq,and_true,Nat.add_zero] at p8
     obtain ⟨q0,q1,q2,q3⟩:=p8
     have i0:wr.cell? ⟨b2,off2+q * 4,none⟩=some x0:=by rw [← q0];exact cell_of p2 (by omega)
     have i1:wr.cell? ⟨b2,off2+q * 4+1,none⟩=some x1:=by rw [← q1];exact cell_of p2 (by omega)
     have i2:wr.cell? ⟨b2,off2+q * 4+2,none⟩=some x2:=by rw [← q2];exact cell_of p2 (by omega)
     have i3:wr.cell? ⟨b2,off2+q * 4+3,none⟩=some x3:=by rw [← q3];exact cell_of p2 (by omega)
     have hk1:k * (1+Nd * (Nn+3))+(1+Nd * (Nn+3))≤N * (1+Nd * (Nn+3)):=by rw [← Nat.succ_mul];exact Nat.mul_le_mul_right _ (by omega)
     have hq1:q * (Nn+3)+(Nn+3)≤Nd * (Nn+3):=by rw [← Nat.succ_mul];exact Nat.mul_le_mul_right _ (by omega)
     go_wp2
     refine (Wo (M:=M+k * (1+Nd * (Nn+3))+(1+q * (Nn+3))) (by omega) (by omega) (fun b hb=>hS b (by have:=ho2.size;omega)) ⟨x0,x1,x2,x3,rfl,p9⟩).mono ?_
     rintro ex w3 ⟨r3,rfl,hov3⟩
     go_wp2
     go_roundw
     case rel=>exact ⟨q+1,hqc,by simp,by rw [Nat.succ_mul];exact ho2.trans hov3⟩
     case measure=>simp [RowKit.intOf];omega
    ·go_wp2
     go_region
     go_wp2
     have hq1:q=dn:=by omega
     subst hq1
     have h3:=hov.trans ho2
     go_loopw [5] (fun i wr3=>∃ p:Nat,q≤p∧(p≤dc∨p=q)∧i = .int .i64 p∧gn S 0 true wr wr3)
      (fun i _=>dc - (RowKit.intOf i).toNat)
     case atStart=>exact ⟨q,Nat.le_refl _,.inr rfl,rfl,gn.quiet _ _ _ (Nat.le_refl _) rfl rfl rfl (fun _ _=>rfl)⟩
     case round=>
      obtain ⟨p,hp1,hp2,rfl,ho3⟩:=hrel
      by_cases hpc:p<dc
      ·have hd3:=A4 (xx:=true) (by omega) (h3.any.trans ho3) e12
       obtain ⟨b2,off2,cs2,et2,rfl,p1,p2,p3,p4,p5,p6⟩:=hd3.room hpc
       have hfz:=Yx p2
       have m0:=fun o=>yp p2 o (j:=off2+p * 4) (by omega)
       have m1:=fun o=>yp p2 o (j:=off2+p * 4+1) (by omega)
       have m2:=fun o=>yp p2 o (j:=off2+p * 4+2) (by omega)
       have m3:=fun o=>yp p2 o (j:=off2+p * 4+3) (by omega)
       go_wp2
       go_roundw
       case rel=>exact ⟨p+1,by omega,.inl (by omega),by simp,ho3.trans (gn.spare p2 p1 p3 (hS _ (by have:=ho3.size;have:=ho2.size;omega)) (by omega) aqw (by decide))⟩
       case measure=>simp [RowKit.intOf];omega
      ·have ht:=(ho.trans h3.any).trans ho3
       obtain ⟨b',off',cs',e',he',y1,y2,y3,y4,y5,y6,o',ty',cl',u',d',y7,y8,y9,y10,y11,y12⟩:=(Lk hM4 ht hv).at hkc
       cases he'
       simp only [show List.range 5=[0,1,2,3,4] from rfl,List.map_cons,List.map_nil,List.cons.injEq,and_true,Nat.add_zero] at y7
       obtain ⟨z0,z1',z2,z3',z4⟩:=y7
       have l1:wr.cell? ⟨b,off+k * 5+1,none⟩=some ty':=by rw [← z1'];exact cell_of y2 (by omega)
       have l3:wr.cell? ⟨b,off+k * 5+3,none⟩=some u':=by rw [← z3'];exact cell_of y2 (by omega)
       have z1:=Hd y2 (off+k * 5+1)
       have z3:=Hd y2 (off+k * 5+3)
       obtain ⟨i1,rfl⟩:=Nx y9
       obtain ⟨i3,rfl⟩:=Nx y11
       go_wp2
       have hs3:=gn.set (v:=.int .u32 (bits BinOp.xor .u32 i3 77)) y2 y1 (j:=off+k * 5+3) (x:=.int .u32 i3) (by rw [← z3',Array.getD_eq_getD_getElem?,Array.getElem?_eq_getElem (by omega)];rfl) (by intro q;cases q) rfl (fun s q=>by cases q)
       have hs1:=gn.set (v:=.int .u16 (bits BinOp.xor .u16 i1 77)) hs3.2 y1 (j:=off+k * 5+1) (x:=.int .u16 i1) (by rw [Array.getElem?_setIfInBounds,if_neg (by omega),← z1',Array.getD_eq_getD_getElem?,Array.getElem?_eq_getElem (by omega)];rfl) (by intro q;cases q) rfl (fun s q=>by cases q)
       have hq3:q * (Nn+3)≤Nd * (Nn+3):=Nat.mul_le_mul_right _ d1
       go_roundw
       case rel=>exact ⟨k+1,hkc,by simp,by rw [Nat.succ_mul];exact ((ht.trans (hs3.1.trans hs1.1).any)).mono (by omega)⟩
       case measure=>simp [RowKit.intOf];omega
  ·go_wp2
   go_end0
   exact ⟨_,rfl,ho.mono (Nat.mul_le_mul_right _ (by omega))⟩
end Go.Proofs.YtgencolcibpcaaaGreat
end
section
namespace Go.Proofs.YtgencolcibpcaaaGreat
open Go.Vm
def dr:List ByteArray→List ByteArray→Nat
 |a::r,b::q=>if fold a=fold b then dr r q+1 else 0
 |_,_=>0
theorem J0 (l:List ByteArray):dr l []=0:=by cases l<;>rfl
def common (a b:Name):Nat:=dr a.reverse b.reverse
theorem El {l:List ByteArray} {x:Nat} {c:ByteArray} (h:x<l.length) (hc:l[l.length - 1 - x]? = some c):l.reverse.drop x=c::l.reverse.drop (x+1):=by
 have h1:l.reverse[x]? = some c:=by rw [List.getElem?_reverse h];exact hc
 obtain ⟨h2,h3⟩:=List.getElem?_eq_some_iff.1 h1
 rw [← h3];exact List.drop_eq_getElem_cons h2
set_option maxRecDepth 20000 in
theorem S8 (a b:Name) (ha:∀ s ∈ a,s.size≤16777216) (hb:∀ s ∈ b,s.size≤16777216) (hla:a.length<17592186044416) (hlb:b.length<17592186044416):wl PP [ajw] 0 (Tryz.f106.body.getD .skip) (cy PP Tryz.f106.results.toList (fun r st=>(r1 (bo .i64)).get true st.h r=some (common a b:Int))) (cf 0 [aj.val false a,aj.val false b]) (bk []):=by
 unfold Tryz.f106
 simp only [ct]
 simp only [↓wR,RA,simprocAttr,TF]
 refine fk (T:=[]) (ai.nil PP) mixed Tryz.func144 rfl (by kernel_rfl) (by kernel_rfl) (by kernel_rfl) (by kernel_rfl) ?_;unfold Tryz.f144
 simp only [↓wR,RA,simprocAttr,TF]
 refine ⟨[2,3,4,5,10],?_⟩
 have hib:Ij PP 177=some (Tryz.f177.ntmps,Tryz.f177.body.getD .skip):=by kernel_rfl
 simp only [↓wR,RA,simprocAttr,TF,hib]
 refine ⟨by kernel_rfl,fun l=>?_⟩
 unfold Tryz.f177
 simp only [↓wR,RA,simprocAttr,TF]
 refine ai1 [0,1,3] (fun (x:Nat)=>[.sc (.func (.yield l) #[] #[]),.ptr 4 0,.sc (.int .i64 ((a.length:Int) - 1 - x))]) (fun x=>[some (.row [.vl false 1 (a.map (aq.val false))] 0 2 24),some (.row [.vl false 1 (b.map (aq.val false))] 0 2 24),some (.row [.sc (.int .i64 0)] 0 2 3),some (.row [.sc (.int .i64 x)] 0 2 3),some (.row [.vl false 1 (a.map (aq.val false))] 0 2 24)]) (fun x=>x≤a.length∧common a b=x+dr (a.reverse.drop x) (b.reverse.drop x)) (fun x=>a.length - x) 0 ⟨Nat.zero_le _,by simp [common]⟩ ?_ ?_ ?_
 ·simp only [↓wR,RA,simprocAttr,TF];simp;rw [wrap_i64 _ (by omega) (by omega)]
 ·simp only [↓wR,RA,simprocAttr,TF]<;>rfl
 rintro x ⟨hx,hR⟩
 simp only [↓wR,RA,simprocAttr,TF]
 rw [anq];refine ⟨fun h=>?_,fun h=>?_⟩
 ·have hx':x<a.length:=by simp at h;omega
  obtain ⟨c,hc⟩:∃ c,a[a.length - 1 - x]? = some c:=⟨_,List.getElem?_eq_getElem (by omega)⟩
  have e:((a.length:Int) - 1 - x).toNat=a.length - 1 - x:=by omega
  have e2:(0:Int)≤(a.length:Int) - 1 - x:=by omega
  simp only [↓wR,RA,simprocAttr,TF,e,hc,e2]
  refine adh [0,1,3,12,16] ?_
  simp only [↓wR,RA,simprocAttr,TF,Oj,u3,hc]
  simp (disch:=omega) only [ag,bz,bw,bu,ca]
  rw [dg];refine ⟨fun h1=>?_,fun h1=>?_⟩
  ·have hb0:b.length≤x:=by simp at h1;omega
   have hb1:b.reverse.drop x=[]:=List.drop_eq_nil_of_le (by simpa using hb0)
   rw [hb1,J0] at hR
   simp only [↓wR,RA,simprocAttr,TF,h1]
   rw [hR,Nat.add_zero]
  ·have hb0:x<b.length:=by simp at h1;omega
   obtain ⟨d,hd⟩:∃ d,b[b.length - 1 - x]? = some d:=⟨_,List.getElem?_eq_getElem (by omega)⟩
   have e4:((b.length:Int) - ((a.length:Int) - ((a.length:Int) - 1 - x))).toNat=b.length - 1 - x:=by omega
   have e5:(0:Int)≤(b.length:Int) - ((a.length:Int) - ((a.length:Int) - 1 - x)):=by omega
   simp only [↓wR,RA,simprocAttr,TF,h1,hd,e4,e5,uh,ha c (List.mem_of_getElem? hc),hb d (List.mem_of_getElem? hd)]
   rw [El hx' hc,El hb0 hd,dr] at hR
   rw [dg];refine ⟨fun h2=>?_,fun h2=>?_⟩
   ·have h3:¬ fold c=fold d:=by simpa using h2
    rw [if_neg h3] at hR
    simp only [↓wR,RA,simprocAttr,TF,h2]
    rw [hR,Nat.add_zero]
   ·have h3:fold c=fold d:=by simpa using h2
    rw [if_pos h3] at hR
    simp only [↓wR,RA,simprocAttr,TF,h2]
    refine ⟨x+1,⟨by omega,by omega⟩,by omega,?_,?_⟩
    ·simp only [List.cons.injEq,and_true,true_and,AV.sc.injEq,Value.int.injEq]
     simp (disch:=omega) only [ag,bz,bw,bu,ca]
     omega
    ·simp (disch:=omega) only [ag,bz,bw,bu,ca]
     rfl
 ·have h4:x=a.length:=by simp at h;omega
  have h5:a.reverse.drop x=[]:=List.drop_eq_nil_of_le (by simp;omega)
  rw [h5,dr] at hR
  simp only [↓wR,RA,simprocAttr,TF,h]
  rw [hR,Nat.add_zero]
  all_goals simp
theorem Zx (args:List AV):yq PP 194 args (Cx.i5 args):=
 Cx.zr (fn:=(PP.funcs[194]?).getD default) (by kernel_rfl) (by kernel_rfl) (by kernel_rfl) (by kernel_rfl) (by kernel_rfl) args
noncomputable abbrev ahx:Nat × Bool × (List AV→M AV):=(194,true,Cx.i5)
theorem ah3:ai PP [ahx]:=ai.cons Zx (ai.nil PP)
noncomputable def qe (a b:ByteArray):Int:=Lib.compareBytes a.data.toList b.data.toList
theorem I0 (a b:ByteArray):wl PP [] 0 (Tryz.f151.body.getD .skip) (cy PP Tryz.f151.results.toList (fun r st=>(r1 (bo .i64)).get true st.h r=some (qe a b))) (cf 0 [aq.val false a,aq.val false b]) (bk []):=by
 unfold Tryz.f151
 simp only [↓wR,RA,simprocAttr,TF]
 refine fk (T:=[ahx]) ah3 mixed Tryz.func179 rfl (by kernel_rfl) (by kernel_rfl) (by kernel_rfl) (by kernel_rfl) ?_;unfold Tryz.f179
 simp only [↓wR,RA,simprocAttr,TF,qe]
noncomputable def uv (x:ByteArray × ByteArray × Unit):Option AV:=some ((r1 (bo .i64)).E true (qe x.1 x.2.1))
set_option maxRecDepth 2000000 in
theorem Fi (x:ByteArray × ByteArray × Unit) (r:AV) (h:uv x=some r):bb PP 151 ((aC aq (aC aq a0)).E x) r:=by
 cases h
 exact au (ai.nil PP) Tryz.func151 (by kernel_rfl) (by kernel_rfl) (by kernel_rfl) (Nat.le_of_ble_eq_true (by kernel_rfl)) (r1 (bo .i64)) true (qe x.1 x.2.1) (I0 x.1 x.2.1)
noncomputable abbrev O8:Nat × Bool × (List AV→M AV):=(151,true,cx (aC aq (aC aq a0)) uv)
theorem Nu (a b:ByteArray) (ha:a.size≤16777216) (hb:b.size≤16777216):wl PP [Hu,O8] 0 (Tryz.f109.body.getD .skip) (cy PP Tryz.f109.results.toList (fun r st=>(r1 (bo .i64)).get true st.h r=some (qe (fold a) (fold b)))) (cf 0 [aq.val false a,aq.val false b]) (bk []):=by
 unfold Tryz.f109
 simp only [↓wR,RA,simprocAttr,TF,o9,uv,ha,hb]
noncomputable def pn (x:ByteArray × ByteArray × Unit):Option AV:=if x.1.size≤16777216∧x.2.1.size≤16777216 then some ((r1 (bo .i64)).E true (qe (fold x.1) (fold x.2.1))) else none
set_option maxRecDepth 2000000 in
theorem It (x:ByteArray × ByteArray × Unit) (r:AV) (h:pn x=some r):bb PP 109 ((aC aq (aC aq a0)).E x) r:=by
 by_cases hc:x.1.size≤16777216∧x.2.1.size≤16777216
 case neg=>simp only [pn,if_neg hc] at h;cases h
 simp only [pn,if_pos hc] at h
 cases h
 exact au (ai.cons (ak wb) (ai.cons (ak Fi) (ai.nil PP))) Tryz.func109 (by kernel_rfl) (by kernel_rfl) (by kernel_rfl) (Nat.le_of_ble_eq_true (by kernel_rfl)) (r1 (bo .i64)) true (qe (fold x.1) (fold x.2.1)) (Nu x.1 x.2.1 hc.1 hc.2)
noncomputable abbrev Yj:Nat × Bool × (List AV→M AV):=(109,true,cx (aC aq (aC aq a0)) pn)
def dy (n:Name):List ByteArray:=n.map fold
def cp (n:Name):Prop:=bp n≤16777216
instance (n:Name):Decidable (cp n):=inferInstanceAs (Decidable (_≤_))
theorem Y1 {n:Name} {s:ByteArray} (h:s ∈ n):s.size<bp n:=by
 obtain ⟨a,b,rfl⟩:=List.append_of_mem h
 have h1:=nm a ([s]++b)
 have h2:=nm [s] b
 have h3:bp [s]=s.size+2:=by simp [bp];omega
 have h4:∀ l:Name,1≤bp l:=fun l=>by have:=(g8 l 0).2;omega
 have:=h4 a;have:=h4 b
 simp only [List.singleton_append] at h1 h2
 omega
theorem cp.label {n:Name} (h:cp n):∀ s ∈ n,s.size≤16777216:=fun s hs=>by have:=Y1 hs;unfold cp at h;omega
theorem cp.len {n:Name} (h:cp n):n.length<17592186044416:=by have:=(g8 n 0).2;unfold cp at h;omega
theorem yv:∀ r q:List ByteArray,dr r q≤q.length
 | [],q=>by simp [dr]
 |a::r,[]=>by simp [dr]
 |a::r,b::q=>by
  have:=yv r q
  simp only [dr,List.length_cons]
  split<;>omega
theorem ux:∀ r q:List ByteArray,dr r q≤r.length
 | [],q=>by simp [dr]
 |a::r,[]=>by simp [dr]
 |a::r,b::q=>by
  have:=ux r q
  simp only [dr,List.length_cons]
  split<;>omega
theorem Jw:∀ r q:List ByteArray,dr r q=q.length↔q.map fold <+: r.map fold
 | [],[]=>by simp [dr]
 |a::r,[]=>by simp [dr]
 | [],b::q=>by simp [dr]
 |a::r,b::q=>by
  have:=Jw r q
  simp only [dr,List.length_cons,List.map_cons,List.cons_prefix_cons]
  by_cases h:fold a=fold b
  ·rw [if_pos h]
   constructor
   ·intro h1;exact ⟨h.symm,this.1 (by omega)⟩
   ·intro h1;have:=this.2 h1.2;omega
  ·rw [if_neg h]
   constructor
   ·intro h1;omega
   ·intro h1;exact (h h1.1.symm).elim
theorem uk (n top:Name):common n top=top.length↔dy top <:+ dy n:=by
 unfold common dy
 rw [← List.length_reverse,Jw,List.map_reverse,List.map_reverse,List.reverse_prefix]
theorem xa (a b:Name):(a.length=b.length∧common a b=a.length)↔dy a=dy b:=by
 constructor
 ·rintro ⟨h1,h2⟩
  rw [h1] at h2
  have:=(uk a b).1 h2
  exact (this.eq_of_length (by simp [dy,h1])).symm
 ·intro h
  have hl:a.length=b.length:=by have:=congrArg List.length h;simpa [dy] using this
  refine ⟨hl,?_⟩
  rw [hl]
  exact (uk a b).2 (by rw [h];exact List.suffix_refl _)
def fm (a b:Name):Bool:=decide (dy a=dy b)
def qo (n top:Name):Bool:=decide (dy top <:+ dy n)
noncomputable def l9 (x:Name × Name × Unit):Option AV:=if cp x.1∧cp x.2.1 then some ((r1 (bo .i64)).E true ((common x.1 x.2.1:Int))) else none
set_option maxRecDepth 2000000 in
theorem Be (x:Name × Name × Unit) (r:AV) (h:l9 x=some r):bb PP 106 ((aC aj (aC aj a0)).E x) r:=by
 by_cases hc:cp x.1∧cp x.2.1
 case neg=>simp only [l9,if_neg hc] at h;cases h
 simp only [l9,if_pos hc] at h
 cases h
 exact au (ai.cons (ak Qc) (ai.nil PP)) Tryz.func106 (by kernel_rfl) (by kernel_rfl) (by kernel_rfl) (Nat.le_of_ble_eq_true (by kernel_rfl)) (r1 (bo .i64)) true ((common x.1 x.2.1:Int)) (S8 x.1 x.2.1 hc.1.label hc.2.label hc.1.len hc.2.len)
noncomputable abbrev D0:Nat × Bool × (List AV→M AV):=(106,true,cx (aC aj (aC aj a0)) l9)
theorem arc (n top:Name) (hn:cp n) (ht:cp top):wl PP [D0] 0 (Tryz.f72.body.getD .skip) (cy PP Tryz.f72.results.toList (fun r st=>(r1 bc).get true st.h r=some (qo n top))) (cf 0 [aj.val false n,aj.val false top]) (bk []):=by
 unfold Tryz.f72
 simp only [ct]
 simp only [↓wR,RA,simprocAttr,TF,l9,hn,ht]
 congr 1
 unfold qo
 have:=uk n top
 rw [Bool.eq_iff_iff];simp [← this];omega
theorem aaz (n top:Name) (hn:cp n) (ht:cp top):wl PP [D0] 0 (Tryz.f52.body.getD .skip) (cy PP Tryz.f52.results.toList (fun r st=>(r1 bc).get true st.h r=some (fm n top))) (cf 0 [aj.val false n,aj.val false top]) (bk []):=by
 unfold Tryz.f52
 simp only [ct]
 simp only [↓wR,RA,simprocAttr,TF,l9,hn,ht]
 rw [dg];refine ⟨fun h=>?_,fun h=>?_⟩
 ·have hl:n.length=top.length:=by simp at h;omega
  simp only [↓wR,RA,simprocAttr,TF,h,l9,hn,ht]
  congr 1
  unfold fm
  have:=xa n top
  rw [Bool.eq_iff_iff];simp [← this,hl];omega
 ·have hl:¬ n.length=top.length:=by simp at h;omega
  simp only [↓wR,RA,simprocAttr,TF,h]
  have:=xa n top
  simp [fm,← this,hl]
noncomputable def tw (x:Name × Name × Unit):Option AV:=if cp x.1∧cp x.2.1 then some ((r1 bc).E true (fm x.1 x.2.1)) else none
set_option maxRecDepth 2000000 in
theorem Fb (x:Name × Name × Unit) (r:AV) (h:tw x=some r):bb PP 52 ((aC aj (aC aj a0)).E x) r:=by
 by_cases hc:cp x.1∧cp x.2.1
 case neg=>simp only [tw,if_neg hc] at h;cases h
 simp only [tw,if_pos hc] at h
 cases h
 exact au (ai.cons (ak Be) (ai.nil PP)) Tryz.func52 (by kernel_rfl) (by kernel_rfl) (by kernel_rfl) (Nat.le_of_ble_eq_true (by kernel_rfl)) (r1 bc) true (fm x.1 x.2.1) (aaz x.1 x.2.1 hc.1 hc.2)
noncomputable abbrev V8:Nat × Bool × (List AV→M AV):=(52,true,cx (aC aj (aC aj a0)) tw)
noncomputable def T5 (a b:Name) (k:Nat):Int:=
 match a[a.length - 1 - k]?,b[b.length - 1 - k]? with
 |some x,some y=>qe (fold x) (fold y)
 |_,_=>0
noncomputable def kj (a b:Name):Int:=
 if common a b=a.length∧common a b=b.length then 0 else if common a b=a.length then -1 else if common a b=b.length then 1 else T5 a b (common a b)
theorem Po (a b:Name) (ha:cp a) (hb:cp b):wl PP [D0,Yj] 0 (Tryz.f58.body.getD .skip) (cy PP Tryz.f58.results.toList (fun r st=>(r1 (bo .i64)).get true st.h r=some (kj a b))) (cf 0 [aj.val false a,aj.val false b]) (bk []):=by
 unfold Tryz.f58
 simp only [ct]
 simp only [↓wR,RA,simprocAttr,TF,l9,ha,hb]
 have h1:=ux a.reverse b.reverse
 have h2:=yv a.reverse b.reverse
 rw [List.length_reverse] at h1 h2
 change common a b≤a.length at h1
 change common a b≤b.length at h2
 obtain ⟨k,hk⟩:∃ k,common a b=k:=⟨_,rfl⟩
 rw [hk] at h1 h2
 unfold kj
 rw [hk]
 rw [dg];refine ⟨fun h=>?_,fun h=>?_⟩
 ·simp only [↓wR,RA,simprocAttr,TF,h]
  have hka:k=a.length:=by simp at h;omega
  rw [dg];refine ⟨fun h3=>?_,fun h3=>?_⟩
  ·have hkb:k=b.length:=by simp at h3;omega
   simp only [↓wR,RA,simprocAttr,TF,h3]
   rw [if_pos ⟨hka,hkb⟩]
  ·have hkb:¬ k=b.length:=by simp at h3;omega
   simp only [↓wR,RA,simprocAttr,TF,h3,h]
   rw [if_neg (fun e=>hkb e.2),if_pos hka]
 ·simp only [↓wR,RA,simprocAttr,TF,h]
  have hka:¬ k=a.length:=by simp at h;omega
  rw [dg];refine ⟨fun h3=>?_,fun h3=>?_⟩
  ·have hkb:k=b.length:=by simp at h3;omega
   simp only [↓wR,RA,simprocAttr,TF,h3]
   rw [if_neg (fun e=>hka e.1),if_neg hka,if_pos hkb]
  ·have hkb:¬ k=b.length:=by simp at h3;omega
   rw [if_neg (fun e=>hka e.1),if_neg hka,if_neg hkb]
   obtain ⟨x,hx⟩:∃ x,a[a.length - 1 - k]? = some x:=⟨_,List.getElem?_eq_getElem (by omega)⟩
   obtain ⟨y,hy⟩:∃ y,b[b.length - 1 - k]? = some y:=⟨_,List.getElem?_eq_getElem (by omega)⟩
   simp only [↓wR,RA,simprocAttr,TF,h3]
   refine ⟨by kernel_rfl,.inl ?_⟩
   have la:=ha.len
   have lb:=hb.len
   simp (disch:=omega) only [ag,bz,bw,bu,ca]
   have e1:(((a.length:Int) - 1) - k).toNat=a.length - 1 - k:=by omega
   have e2:(0:Int)≤((a.length:Int) - 1) - k:=by omega
   have e3:(((b.length:Int) - 1) - k).toNat=b.length - 1 - k:=by omega
   have e4:(0:Int)≤((b.length:Int) - 1) - k:=by omega
   simp only [↓wR,RA,simprocAttr,TF,hx,e1,e2]
   simp (disch:=omega) only [ag,bz,bw,bu,ca]
   simp only [↓wR,RA,simprocAttr,TF,hy,e3,e4,pn,ha.label x (List.mem_of_getElem? hx),hb.label y (List.mem_of_getElem? hy)]
   exact ⟨by kernel_rfl,by simp [T5,hx,hy]⟩
noncomputable def rh (x:Name × Name × Unit):Option AV:=if cp x.1∧cp x.2.1 then some ((r1 (bo .i64)).E true (kj x.1 x.2.1)) else none
set_option maxRecDepth 2000000 in
theorem K9 (x:Name × Name × Unit) (r:AV) (h:rh x=some r):bb PP 58 ((aC aj (aC aj a0)).E x) r:=by
 by_cases hc:cp x.1∧cp x.2.1
 case neg=>simp only [rh,if_neg hc] at h;cases h
 simp only [rh,if_pos hc] at h
 cases h
 exact au (ai.cons (ak Be) (ai.cons (ak It) (ai.nil PP))) Tryz.func58 (by kernel_rfl) (by kernel_rfl) (by kernel_rfl) (Nat.le_of_ble_eq_true (by kernel_rfl)) (r1 (bo .i64)) true (kj x.1 x.2.1) (Po x.1 x.2.1 hc.1 hc.2)
noncomputable abbrev aam:Nat × Bool × (List AV→M AV):=(58,true,cx (aC aj (aC aj a0)) rh)
theorem cp.lt {n:Name} (h:cp n):n.length<16777216:=by have:=(g8 n 0).2;unfold cp at h;omega
theorem Z4 (n:Name) (hn:cp n):wl PP [] 0 (Tryz.f73.body.getD .skip) (cy PP Tryz.f73.results.toList (fun r st=>(r1 aj).get true st.h r=some n)) (cf 0 [aj.val false n]) (bk []):=by
 unfold Tryz.f73
 simp only [ct]
 have hlim:n.length * 16≤140737488355328:=by have:=hn.lt;omega
 simp only [↓wR,RA,simprocAttr,TF,hlim]
noncomputable def qy (x:Name × Unit):Option AV:=if cp x.1 then some ((r1 aj).E true (x.1)) else none
set_option maxRecDepth 2000000 in
theorem yk (x:Name × Unit) (r:AV) (h:qy x=some r):bb PP 73 ((aC aj a0).E x) r:=by
 by_cases hc:cp x.1
 case neg=>simp only [qy,if_neg hc] at h;cases h
 simp only [qy,if_pos hc] at h
 cases h
 exact au (ai.nil PP) Tryz.func73 (by kernel_rfl) (by kernel_rfl) (by kernel_rfl) (Nat.le_of_ble_eq_true (by kernel_rfl)) (r1 aj) true (x.1) (Z4 x.1 hc)
noncomputable abbrev Lb:Nat × Bool × (List AV→M AV):=(73,true,cx (aC aj a0) qy)
theorem akh {n:Name} {i:Nat} {c:ByteArray} (hc:n[i]? = some c):dy (n.drop i)=fold c::dy (n.drop (i+1)):=by rw [Db hc];rfl
theorem Zv (n:Name) (hn:cp n):wl PP [Hu] 0 (Tryz.f186.body.getD .skip) (cy PP Tryz.f186.results.toList (fun r st=>(r1 aj).get true st.h r=some (dy n))) (cf 0 [aj.val false n]) (bk []):=by
 unfold Tryz.f186
 simp only [ct]
 have hln:=hn.lt
 simp only [↓wR,RA,simprocAttr,TF]
 refine fq [6,7,8,3] (fun (x:List ByteArray)=>[.vl false 1 (n.map (aq.val false)),.sc (.int .i64 n.length),.sc (.int .i64 x.length),.sl 0 0 x.length 1]) (fun x=>[some (.row (x.map (aq.val false)) 0 0 9)]) (fun x=>x++dy (n.drop x.length)=dy n∧x.length≤n.length) (fun x=>n.length - x.length) [] ⟨rfl,Nat.zero_le _⟩ (by simp only [↓wR,RA,simprocAttr,TF];(refine jf.lax [] (by first|exact Nat.le_of_ble_eq_true rfl|(simp [c8];omega)) ?_ ?_<;>repeat' first|exact dv.nil|exact cg.nil|exact eh.same _|exact eh.nil _ _ _|exact eh.mw _ _|exact cg.refl _ _|apply dv.cons|apply cg.ghost|apply cg.same|apply cg.row)) ?_
 rintro x ⟨hR,hx⟩
 simp only [↓wR,RA,simprocAttr,TF]
 rw [dg];refine ⟨fun h=>?_,fun h=>?_⟩
 ·obtain ⟨c,hc,hd,hlt⟩:=ee h
  have hlim:(x.length+1) * 16≤140737488355328:=by omega
  simp only [↓wR,RA,simprocAttr,TF,hc,o9,hn.label c (List.mem_of_getElem? hc),hlim]
  refine ⟨x++[fold c],⟨?_,by simp;omega⟩,by simp;omega,by (first|rfl|trivial|omega|((try (simp (disch:=omega) only [ag]));(try (simp only [FB]));first|done|rfl|omega)),by (first|rfl|trivial|omega|((try (simp (disch:=omega) only [ag]));(try (simp only [FB]));first|done|rfl|omega))⟩
  rw [← hR,akh hc];simp
 ·rw [gp h] at hR
  simp only [↓wR,RA,simprocAttr,TF,h]
  simpa [dy] using hR
noncomputable def xw (x:Name × Unit):Option AV:=if cp x.1 then some ((r1 aj).E true (dy x.1)) else none
set_option maxRecDepth 2000000 in
theorem Th (x:Name × Unit) (r:AV) (h:xw x=some r):bb PP 186 ((aC aj a0).E x) r:=by
 by_cases hc:cp x.1
 case neg=>simp only [xw,if_neg hc] at h;cases h
 simp only [xw,if_pos hc] at h
 cases h
 exact au (ai.cons (ak wb) (ai.nil PP)) Tryz.func186 (by kernel_rfl) (by kernel_rfl) (by kernel_rfl) (Nat.le_of_ble_eq_true (by kernel_rfl)) (r1 aj) true (dy x.1) (Zv x.1 hc)
noncomputable abbrev aks:Nat × Bool × (List AV→M AV):=(186,true,cx (aC aj a0) xw)
theorem Fe {n:Name} (h:da n=0):bp n≤255:=by
 unfold da at h
 split at h
 ·cases h
 ·split at h
  ·cases h
  ·omega
theorem cp.fit {n:Name} (h:cp n):bp n<17592186044416:=by unfold cp at h;omega
def ad7:ByteArray:=⟨#[42]⟩
def ey (s:ByteArray):List UInt8:=UInt8.ofNat s.size::s.data.toList
def nameBytes (n:Name):List UInt8:=n.flatMap ey++[0]
def ir (n:Name):List UInt8:=if da n≠0 then [] else nameBytes n
theorem v7 (s):(ey s).length=s.size+1:=by simp [ey]
theorem ph (n:Name):(n.flatMap ey).length+1=bp n:=by
 induction n with
 |nil=>rfl
 |cons a l ih=>
  have:=nm [a] l
  have h3:bp [a]=a.size+2:=by simp [bp];omega
  simp only [List.singleton_append] at this
  simp only [List.flatMap_cons,List.length_append,v7]
  omega
theorem Y8 (n:Name) (hn:cp n):wl PP [Rf] 0 (Tryz.f199.body.getD .skip) (cy PP Tryz.f199.results.toList (fun r st=>(r2 (bh ay) (bo .i64)).get true st.h r=some (ir n,da n))) (cf 0 [aj.val false n]) (bk []):=by
 unfold Tryz.f199
 simp only [ct]
 have hln:=hn.lt
 simp only [↓wR,RA,simprocAttr,TF,so,hn.fit]
 rw [dg];refine ⟨fun h=>?_,fun h=>?_⟩
 ·have he:da n≠0:=by simpa using h
  have hb:ir n=[]:=if_pos he
  simp only [↓wR,RA,simprocAttr,TF,hb]
 have he:da n=0:=by simpa using h
 have hb:ir n=nameBytes n:=if_neg (by omega)
 rw [hb,he]
 simp only [↓wR,RA,simprocAttr,TF]
 refine fq [13,14,15,5] (fun (x:Nat × List UInt8)=>[.vl false 1 (n.map (aq.val false)),.sc (.int .i64 n.length),.sc (.int .i64 x.1),.sl 0 0 x.2.length 1]) (fun x=>[some (.row (x.2.map (ay.val false)) 0 0 5)]) (fun x=>x.2++(n.drop x.1).flatMap ey=n.flatMap ey∧x.1≤n.length) (fun x=>n.length - x.1) (0,[]) ⟨rfl,Nat.zero_le _⟩ (by simp only [↓wR,RA,simprocAttr,TF];(refine jf.lax [] (by first|exact Nat.le_of_ble_eq_true rfl|(simp [c8];omega)) ?_ ?_<;>repeat' first|exact dv.nil|exact cg.nil|exact eh.same _|exact eh.nil _ _ _|exact eh.mw _ _|exact cg.refl _ _|apply dv.cons|apply cg.ghost|apply cg.same|apply cg.row)) ?_
 rintro ⟨i,x⟩ ⟨hR,hx⟩
 simp only at hR hx
 have hnb:=ph n
 have hsm:=Fe he
 simp only [↓wR,RA,simprocAttr,TF]
 rw [dg];refine ⟨fun h2=>?_,fun h2=>?_⟩
 ·obtain ⟨c,hc,hd,hlt⟩:=ee h2
  rw [hd,List.flatMap_cons] at hR
  have hl:x.length+(ey c).length≤(n.flatMap ey).length:=by rw [← hR];simp
  rw [v7] at hl
  simp only [↓wR,RA,simprocAttr,TF,hc];repeat (simp (disch:=omega) only [ag,bz,bw,bu,ca];try simp only [↓wR,RA,simprocAttr,TF,hc])
  refine ⟨(i+1,x++ey c),⟨by rw [← hR];simp,hlt⟩,by simp;omega,?_,by simp only [ey,List.map_append,List.map_cons,List.append_assoc,List.singleton_append,xk]⟩
  simp only [List.cons.injEq,and_true,true_and,AV.sc.injEq,Value.int.injEq,AV.sl.injEq,ey,List.length_append,List.length_cons]
  refine ⟨by (try simp (disch:=omega) only [ag,bz,bw,bu,ca]);simp,by simp;omega⟩
 ·rw [gp h2] at hR
  have hl:x.length<bp n:=by rw [← hnb,← hR];simp
  simp only [↓wR,RA,simprocAttr,TF,h2];repeat (simp (disch:=omega) only [ag,bz,bw,bu,ca];try simp only [↓wR,RA,simprocAttr,TF,h2])
  simp only [nameBytes,← hR];simp
noncomputable def py (x:Name × Unit):Option AV:=if cp x.1 then some ((r2 (bh ay) (bo .i64)).E true ((ir x.1,da x.1))) else none
set_option maxRecDepth 2000000 in
theorem Oh (x:Name × Unit) (r:AV) (h:py x=some r):bb PP 199 ((aC aj a0).E x) r:=by
 by_cases hc:cp x.1
 case neg=>simp only [py,if_neg hc] at h;cases h
 simp only [py,if_pos hc] at h
 cases h
 exact au (ai.cons (ak Dc) (ai.nil PP)) Tryz.func199 (by kernel_rfl) (by kernel_rfl) (by kernel_rfl) (Nat.le_of_ble_eq_true (by kernel_rfl)) (r2 (bh ay) (bo .i64)) true ((ir x.1,da x.1)) (Y8 x.1 hc)
noncomputable abbrev afv:Nat × Bool × (List AV→M AV):=(199,true,cx (aC aj a0) py)
end Go.Proofs.YtgencolcibpcaaaGreat
end
section
namespace Go.Proofs.YtgencolcibpcaaaGreat
open Go.Vm
set_option maxRecDepth 2000000
theorem Em {α:Type} {f : α→AV} {xs:List α} (h:xs≠[]) (op l sz p q):Hz op (.vl l sz (xs.map f)) (.sc (.slice none p q))=l0 op false:=by
 cases xs with
 |nil=>exact (h rfl).elim
 |cons x xs=>rfl
def He (v:Value):Prop:=v = .slice none 0 0∨∃ a c,v = .slice (some a) 0 c
theorem we {f:Nat} {r:AV} {sz:Nat} (h:∀ v,He v→bb PP f [.sc v] r):bb PP f [.vl false sz []] r:=by
 intro K w vs hK hrel
 obtain ⟨v,rfl,hv⟩:=Lh hrel
 have hE:He v:=by
  cases hv with
  |vl=>exact .inr ⟨_,_,rfl⟩
  |iu=>exact .inl rfl
  |oq=>exact .inr ⟨_,_,rfl⟩
 exact h v hE K w [v] hK (bg.cons (.sc v) (bg.nil _ _))
theorem Zq (l:List UInt32) (hne:l≠[]) (hl:l.length≤16777216):wl PP [] 0 (Tryz.f146.body.getD .skip) (cy PP Tryz.f146.results.toList (fun r st=>(r1 (bh br)).get true st.h r=some l)) (cf 0 [(bh br).val false l]) (bk []):=by
 unfold Tryz.f146
 rw [kx]
 have hb:l.length * 4≤140737488355328:=by omega
 simp only [↓wR,RA,simprocAttr,TF,Em hne,hb]
theorem Xs (v:Value) (hv:He v):wl PP [] 0 (Tryz.f146.body.getD .skip) (cy PP Tryz.f146.results.toList (fun r st=>(r1 (bh br)).get true st.h r=some [])) (cf 0 [.sc v]) (bk []):=by
 unfold Tryz.f146
 rcases hv with rfl|⟨a,c,rfl⟩
 ·simp only [↓wR,RA,simprocAttr,TF]
 ·simp only [↓wR,RA,simprocAttr,TF]
noncomputable def tz (x:List UInt32 × Unit):Option AV:=if x.1.length≤16777216 then some ((r1 (bh br)).E true x.1) else none
theorem Ew (x:List UInt32 × Unit) (r:AV) (h:tz x=some r):bb PP 146 ((aC (bh br) a0).E x) r:=by
 by_cases hc:x.1.length≤16777216
 case neg=>simp only [tz,if_neg hc] at h;cases h
 simp only [tz,if_pos hc] at h
 cases h
 obtain ⟨l,⟨⟩⟩:=x
 by_cases hn:l=[]
 ·subst hn
  exact we (sz:=1) fun v hv=>au (ai.nil PP) Tryz.func146 (by kernel_rfl) (by kernel_rfl) (by kernel_rfl) (Nat.le_of_ble_eq_true (by kernel_rfl)) (r1 (bh br)) true [] (Xs v hv)
 ·exact au (ai.nil PP) Tryz.func146 (by kernel_rfl) (by kernel_rfl) (by kernel_rfl) (Nat.le_of_ble_eq_true (by kernel_rfl)) (r1 (bh br)) true l (Zq l hn hc)
noncomputable abbrev Xa:Nat × Bool × (List AV→M AV):=(146,true,cx (aC (bh br) a0) tz)
theorem aay (l:List ByteArray) (hne:l≠[]) (hl:l.length≤16777216):wl PP [] 0 (Tryz.f147.body.getD .skip) (cy PP Tryz.f147.results.toList (fun r st=>(r1 (bh aq)).get true st.h r=some l)) (cf 0 [(bh aq).val false l]) (bk []):=by
 unfold Tryz.f147
 rw [kx]
 have hb:l.length * 16≤140737488355328:=by omega
 simp only [↓wR,RA,simprocAttr,TF,Em hne,hb]
theorem Xu (v:Value) (hv:He v):wl PP [] 0 (Tryz.f147.body.getD .skip) (cy PP Tryz.f147.results.toList (fun r st=>(r1 (bh aq)).get true st.h r=some [])) (cf 0 [.sc v]) (bk []):=by
 unfold Tryz.f147
 rcases hv with rfl|⟨a,c,rfl⟩
 ·simp only [↓wR,RA,simprocAttr,TF]
 ·simp only [↓wR,RA,simprocAttr,TF]
noncomputable def tq (x:List ByteArray × Unit):Option AV:=if x.1.length≤16777216 then some ((r1 (bh aq)).E true x.1) else none
theorem E9 (x:List ByteArray × Unit) (r:AV) (h:tq x=some r):bb PP 147 ((aC (bh aq) a0).E x) r:=by
 by_cases hc:x.1.length≤16777216
 case neg=>simp only [tq,if_neg hc] at h;cases h
 simp only [tq,if_pos hc] at h
 cases h
 obtain ⟨l,⟨⟩⟩:=x
 by_cases hn:l=[]
 ·subst hn
  exact we (sz:=1) fun v hv=>au (ai.nil PP) Tryz.func147 (by kernel_rfl) (by kernel_rfl) (by kernel_rfl) (Nat.le_of_ble_eq_true (by kernel_rfl)) (r1 (bh aq)) true [] (Xu v hv)
 ·exact au (ai.nil PP) Tryz.func147 (by kernel_rfl) (by kernel_rfl) (by kernel_rfl) (Nat.le_of_ble_eq_true (by kernel_rfl)) (r1 (bh aq)) true l (aay l hn hc)
noncomputable abbrev Xj:Nat × Bool × (List AV→M AV):=(147,true,cx (aC (bh aq) a0) tq)
theorem adg (l:List UInt8) (hne:l≠[]) (hl:l.length≤16777216):wl PP [] 0 (Tryz.f148.body.getD .skip) (cy PP Tryz.f148.results.toList (fun r st=>(r1 (bh ay)).get true st.h r=some l)) (cf 0 [(bh ay).val false l]) (bk []):=by
 unfold Tryz.f148
 rw [kx]
 have hb:l.length≤140737488355328:=by omega
 simp only [↓wR,RA,simprocAttr,TF,Em hne,hb]
theorem Zt (v:Value) (hv:He v):wl PP [] 0 (Tryz.f148.body.getD .skip) (cy PP Tryz.f148.results.toList (fun r st=>(r1 (bh ay)).get true st.h r=some [])) (cf 0 [.sc v]) (bk []):=by
 unfold Tryz.f148
 rcases hv with rfl|⟨a,c,rfl⟩
 ·simp only [↓wR,RA,simprocAttr,TF]
 ·simp only [↓wR,RA,simprocAttr,TF]
noncomputable def wg (x:List UInt8 × Unit):Option AV:=if x.1.length≤16777216 then some ((r1 (bh ay)).E true x.1) else none
theorem Fq (x:List UInt8 × Unit) (r:AV) (h:wg x=some r):bb PP 148 ((aC (bh ay) a0).E x) r:=by
 by_cases hc:x.1.length≤16777216
 case neg=>simp only [wg,if_neg hc] at h;cases h
 simp only [wg,if_pos hc] at h
 cases h
 obtain ⟨l,⟨⟩⟩:=x
 by_cases hn:l=[]
 ·subst hn
  exact we (sz:=1) fun v hv=>au (ai.nil PP) Tryz.func148 (by kernel_rfl) (by kernel_rfl) (by kernel_rfl) (Nat.le_of_ble_eq_true (by kernel_rfl)) (r1 (bh ay)) true [] (Zt v hv)
 ·exact au (ai.nil PP) Tryz.func148 (by kernel_rfl) (by kernel_rfl) (by kernel_rfl) (Nat.le_of_ble_eq_true (by kernel_rfl)) (r1 (bh ay)) true l (adg l hn hc)
noncomputable abbrev acd:Nat × Bool × (List AV→M AV):=(148,true,cx (aC (bh ay) a0) wg)
structure Shape where
 names:Int
 nums:Int
 size:Int
 texts:Int
 raw:Int
noncomputable def oz:cw Shape:=Da (k6 (bo .i64) (k6 (bo .i64) (k6 (bo .i64) (k6 (bo .i64) (bo .i64))))) (fun s=>(s.names,s.nums,s.size,s.texts,s.raw)) (fun p=>⟨p.1,p.2.1,p.2.2.1,p.2.2.2.1,p.2.2.2.2⟩) (fun _=>rfl) (fun _=>rfl)
theorem Ah (l:Bool) (s:Shape):oz.val l s = .agg [.sc (.int .i64 s.names),.sc (.int .i64 s.nums),.sc (.int .i64 s.size),.sc (.int .i64 s.texts),.sc (.int .i64 s.raw)]:=id rfl
theorem i9 (fr h) (a b c d e:Int):oz.ga fr h (.agg [.sc (.int .i64 a),.sc (.int .i64 b),.sc (.int .i64 c),.sc (.int .i64 d),.sc (.int .i64 e)])=some ⟨a,b,c,d,e⟩:=apz oz fr h ⟨a,b,c,d,e⟩
def cj (t:UInt16):Shape:=
 if (t.toNat:Int)=1 then ⟨0,0,0,0,4⟩ else if (t.toNat:Int)=28 then ⟨0,0,0,0,16⟩ else if (t.toNat:Int)=2 then ⟨1,0,0,0,0⟩ else if (t.toNat:Int)=5 then ⟨1,0,0,0,0⟩ else if (t.toNat:Int)=12 then ⟨1,0,0,0,0⟩
 else if (t.toNat:Int)=6 then ⟨2,5,4,0,0⟩ else if (t.toNat:Int)=15 then ⟨1,1,2,0,0⟩ else if (t.toNat:Int)=33 then ⟨1,3,2,0,0⟩ else if (t.toNat:Int)=16 then ⟨0,0,0,-1,0⟩ else if (t.toNat:Int)=257 then ⟨0,1,1,2,0⟩ else ⟨0,0,0,0,-1⟩
theorem ago (t:UInt16):wl PP [] 0 (Tryz.f183.body.getD .skip) (cy PP Tryz.f183.results.toList (fun r st=>(r1 oz).get true st.h r=some (cj t))) (cf 0 [bj.val false t]) (bk []):=by
 unfold Tryz.f183
 unfold cj
 simp only [↓wR,RA,simprocAttr,TF]
 rw [cr];refine ⟨fun ⟨h0,e0⟩=>?_,fun ⟨h0,e0⟩=>?_⟩
 ·simp only [↓wR,RA,simprocAttr,TF,h0]
  rw [if_pos e0]
  exact i9 ..
 rw [if_neg e0]
 simp only [↓wR,RA,simprocAttr,TF,h0]
 rw [cr];refine ⟨fun ⟨h1,e1⟩=>?_,fun ⟨h1,e1⟩=>?_⟩
 ·simp only [↓wR,RA,simprocAttr,TF,h1]
  rw [if_pos e1]
  exact i9 ..
 rw [if_neg e1]
 simp only [↓wR,RA,simprocAttr,TF,h1]
 rw [cr];refine ⟨fun ⟨h2,e2⟩=>?_,fun ⟨h2,e2⟩=>?_⟩
 ·simp only [↓wR,RA,simprocAttr,TF,h2]
  rw [if_pos e2]
  exact i9 ..
 rw [if_neg e2]
 simp only [↓wR,RA,simprocAttr,TF,h2]
 rw [cr];refine ⟨fun ⟨h3,e3⟩=>?_,fun ⟨h3,e3⟩=>?_⟩
 ·simp only [↓wR,RA,simprocAttr,TF,h3]
  rw [if_pos e3]
  exact i9 ..
 rw [if_neg e3]
 simp only [↓wR,RA,simprocAttr,TF,h3]
 rw [cr];refine ⟨fun ⟨h4,e4⟩=>?_,fun ⟨h4,e4⟩=>?_⟩
 ·simp only [↓wR,RA,simprocAttr,TF,h4]
  rw [if_pos e4]
  exact i9 ..
 rw [if_neg e4]
 simp only [↓wR,RA,simprocAttr,TF,h4]
 rw [cr];refine ⟨fun ⟨h5,e5⟩=>?_,fun ⟨h5,e5⟩=>?_⟩
 ·simp only [↓wR,RA,simprocAttr,TF,h5]
  rw [if_pos e5]
  exact i9 ..
 rw [if_neg e5]
 simp only [↓wR,RA,simprocAttr,TF,h5]
 rw [cr];refine ⟨fun ⟨h6,e6⟩=>?_,fun ⟨h6,e6⟩=>?_⟩
 ·simp only [↓wR,RA,simprocAttr,TF,h6]
  rw [if_pos e6]
  exact i9 ..
 rw [if_neg e6]
 simp only [↓wR,RA,simprocAttr,TF,h6]
 rw [cr];refine ⟨fun ⟨h7,e7⟩=>?_,fun ⟨h7,e7⟩=>?_⟩
 ·simp only [↓wR,RA,simprocAttr,TF,h7]
  rw [if_pos e7]
  exact i9 ..
 rw [if_neg e7]
 simp only [↓wR,RA,simprocAttr,TF,h7]
 rw [cr];refine ⟨fun ⟨h8,e8⟩=>?_,fun ⟨h8,e8⟩=>?_⟩
 ·simp only [↓wR,RA,simprocAttr,TF,h8]
  rw [if_pos e8]
  exact i9 ..
 rw [if_neg e8]
 simp only [↓wR,RA,simprocAttr,TF,h8]
 rw [cr];refine ⟨fun ⟨h9,e9⟩=>?_,fun ⟨h9,e9⟩=>?_⟩
 ·simp only [↓wR,RA,simprocAttr,TF,h9]
  rw [if_pos e9]
  exact i9 ..
 rw [if_neg e9]
 simp only [↓wR,RA,simprocAttr,TF,h9]
 exact i9 ..
noncomputable def zw (x:UInt16 × Unit):Option AV:=some ((r1 oz).E true (cj x.1))
set_option maxRecDepth 2000000 in
theorem zy (x:UInt16 × Unit) (r:AV) (h:zw x=some r):bb PP 183 ((aC bj a0).E x) r:=by
 cases h
 exact au (ai.nil PP) Tryz.func183 (by kernel_rfl) (by kernel_rfl) (by kernel_rfl) (Nat.le_of_ble_eq_true (by kernel_rfl)) (r1 oz) true (cj x.1) (ago x.1)
noncomputable abbrev O5:Nat × Bool × (List AV→M AV):=(183,true,cx (aC bj a0) zw)
def jv (t:UInt16):Bool:=(t.toNat:Int) == 0 || (decide ((128:Int)≤(t.toNat:Int)) && decide ((t.toNat:Int)≤255))
theorem aho (t:UInt16):wl PP [] 0 (Tryz.f182.body.getD .skip) (cy PP Tryz.f182.results.toList (fun r st=>(r1 bc).get true st.h r=some (jv t))) (cf 0 [bj.val false t]) (bk []):=by
 unfold Tryz.f182
 unfold jv
 simp only [↓wR,RA,simprocAttr,TF]
 rw [cr];refine ⟨fun ⟨h,e⟩=>?_,fun ⟨h,e⟩=>?_⟩
 ·simp only [↓wR,RA,simprocAttr,TF,h]
 ·simp only [↓wR,RA,simprocAttr,TF,h]
  rw [a9];refine ⟨fun h2=>?_,fun h2=>?_⟩
  ·simp only [↓wR,RA,simprocAttr,TF,h2]
  ·simp only [↓wR,RA,simprocAttr,TF,h2]
   rfl
noncomputable def P3 (x:UInt16 × Unit):Option AV:=some ((r1 bc).E true (jv x.1))
set_option maxRecDepth 2000000 in
theorem Zw (x:UInt16 × Unit) (r:AV) (h:P3 x=some r):bb PP 182 ((aC bj a0).E x) r:=by
 cases h
 exact au (ai.nil PP) Tryz.func182 (by kernel_rfl) (by kernel_rfl) (by kernel_rfl) (Nat.le_of_ble_eq_true (by kernel_rfl)) (r1 bc) true (jv x.1) (aho x.1)
noncomputable abbrev arb:Nat × Bool × (List AV→M AV):=(182,true,cx (aC bj a0) P3)
noncomputable def ug (n:UInt32):List UInt8:=[UInt8.ofNat (n.toNat / 16777216),UInt8.ofNat (n.toNat / 65536),UInt8.ofNat (n.toNat / 256),UInt8.ofNat n.toNat]
theorem akf (n:UInt32):wl PP [] 0 (Tryz.f198.body.getD .skip) (cy PP Tryz.f198.results.toList (fun r st=>(r1 (bh ay)).get true st.h r=some (ug n))) (cf 0 [br.val false n]) (bk []):=by
 unfold Tryz.f198
 simp only [↓wR,RA,simprocAttr,TF]
 rfl
noncomputable def H4 (x:UInt32 × Unit):Option AV:=some ((r1 (bh ay)).E true (ug x.1))
set_option maxRecDepth 2000000 in
theorem aau (x:UInt32 × Unit) (r:AV) (h:H4 x=some r):bb PP 198 ((aC br a0).E x) r:=by
 cases h
 exact au (ai.nil PP) Tryz.func198 (by kernel_rfl) (by kernel_rfl) (by kernel_rfl) (Nat.le_of_ble_eq_true (by kernel_rfl)) (r1 (bh ay)) true (ug x.1) (akf x.1)
noncomputable abbrev apc:Nat × Bool × (List AV→M AV):=(198,true,cx (aC br a0) H4)
def wc (c:UInt8):Bool:=decide (97≤c.toNat∧c.toNat≤122∨65≤c.toNat∧c.toNat≤90∨48≤c.toNat∧c.toNat≤57)
def oi (s:ByteArray):Bool:=s.data.toList.all wc && decide (1≤s.size∧s.size≤15)
theorem aqb (s:ByteArray) (hs:s.size≤16777216):wl PP [] 0 (Tryz.f195.body.getD .skip) (cy PP Tryz.f195.results.toList (fun r st=>(r1 bc).get true st.h r=some (oi s))) (cf 0 [aq.val false s]) (bk []):=by
 unfold Tryz.f195
 simp only [↓wR,RA,simprocAttr,TF]
 refine de [0,6,7] (fun (i:Nat)=>[.sc (.string s),.sc (.int .i64 s.size),.sc (.int .i64 i)]) (fun _=>[]) (fun i=>i≤s.size∧s.data.toList.all wc=(s.data.toList.drop i).all wc) (fun i=>s.size - i) 0 ⟨Nat.zero_le _,rfl⟩ ?_ ?_ ?_
 ·simp only [↓wR,RA,simprocAttr,TF]<;>rfl
 ·simp only [↓wR,RA,simprocAttr,TF]
 rintro i ⟨hi,hR⟩
 simp only [↓wR,RA,simprocAttr,TF]
 rw [a9];refine ⟨fun h=>?_,fun h=>?_⟩
 ·obtain ⟨c,hc⟩:∃ c,s.data.toList[i]? = some c:=⟨_,List.getElem?_eq_getElem (by simp;omega)⟩
  have hd:=Db hc
  rw [hd,List.all_cons] at hR
  simp only [↓wR,RA,simprocAttr,TF,h,hc];repeat (simp (disch:=omega) only [ag,bz,bw,bu,ca];try simp only [↓wR,RA,simprocAttr,TF,h,hc])
  repeat' (rw [a9];refine ⟨fun h=>?_,fun h=>?_⟩<;>simp only [↓wR,RA,simprocAttr,TF,h,hc])
  all_goals first
   |(
    have ht:wc c=false:=by (unfold wc;rw [decide_eq_false_iff_not];omega)
    rw [oi,hR,ht];rfl)
   |(
    have ht:wc c=true:=by (unfold wc;rw [decide_eq_true_eq];omega)
    refine ⟨i+1,⟨by omega,by rw [hR,ht];simp⟩,by omega,by (first|rfl|trivial|omega|((try (simp (disch:=omega) only [ag]));(try (simp only [FB]));first|done|rfl|omega))⟩)
 ·have hdn:s.data.toList.drop i=[]:=List.drop_eq_nil_of_le (by simp;omega)
  rw [hdn,List.all_nil] at hR
  simp only [↓wR,RA,simprocAttr,TF,h]
  unfold oi
  rw [hR]
  rw [a9];refine ⟨fun h1=>?_,fun h1=>?_⟩
  ·simp only [↓wR,RA,simprocAttr,TF,h1]
   congr 1
   rw [Bool.eq_iff_iff];simp;omega
  ·simp only [↓wR,RA,simprocAttr,TF,h1]
   congr 1
   rw [Bool.eq_iff_iff];simp;omega
noncomputable def Mg (x:ByteArray × Unit):Option AV:=if x.1.size≤16777216 then some ((r1 bc).E true (oi x.1)) else none
set_option maxRecDepth 2000000 in
theorem ahu (x:ByteArray × Unit) (r:AV) (h:Mg x=some r):bb PP 195 ((aC aq a0).E x) r:=by
 by_cases hc:x.1.size≤16777216
 case neg=>simp only [Mg,if_neg hc] at h;cases h
 simp only [Mg,if_pos hc] at h
 cases h
 exact au (ai.nil PP) Tryz.func195 (by kernel_rfl) (by kernel_rfl) (by kernel_rfl) (Nat.le_of_ble_eq_true (by kernel_rfl)) (r1 bc) true (oi x.1) (aqb x.1 hc)
noncomputable abbrev ata:Nat × Bool × (List AV→M AV):=(195,true,cx (aC aq a0) Mg)
def lj {α:Type} (f : α→Nat) (l:List α):Nat:=l.foldr (fun x k=>f x+k+1) 0
def Ae (d:bf):Nat:=lj bp d.names+d.nums.length+lj ByteArray.size d.texts+d.raw.length
theorem Iq {α:Type} {f : α→Nat} {l:List α} {x : α} (h:x ∈ l):f x<lj f l:=by
 induction l with
 |nil=>cases h
 |cons a l ih=>
  simp only [lj,List.foldr_cons] at ih ⊢
  rcases List.mem_cons.1 h with rfl|h
  ·omega
  ·have:=ih h;omega
theorem Ir {α:Type} (f : α→Nat) (l:List α):l.length≤lj f l:=by
 induction l with
 |nil=>exact Nat.le_refl _
 |cons a l ih=>simp only [lj,List.foldr_cons,List.length_cons] at ih ⊢;omega
def cd (d:bf):Prop:=Ae d≤16777216
instance (d:bf):Decidable (cd d):=inferInstanceAs (Decidable (_≤_))
theorem cd.name {d:bf} (h:cd d):∀ n ∈ d.names,cp n:=fun n hn=>by
 have h1:bp n<lj bp d.names:=Iq hn
 unfold cd Ae at h;unfold cp;omega
theorem cd.text {d:bf} (h:cd d):∀ s ∈ d.texts,s.size≤16777216:=fun s hs=>by
 have h1:ByteArray.size s<lj ByteArray.size d.texts:=Iq hs
 unfold cd Ae at h;omega
theorem cd.lens {d:bf} (h:cd d):d.names.length≤16777216∧d.nums.length≤16777216∧d.texts.length≤16777216∧d.raw.length≤16777216:=by
 have h1:=Ir bp d.names
 have h2:=Ir ByteArray.size d.texts
 unfold cd Ae at h;omega
noncomputable def vh (s:Shape):Int:=IntKind.u32.wrap (1 * 2 ^ (if (8 * s.size).toNat≤32 then (8 * s.size).toNat else 32))
noncomputable def n5 (s:Shape) (t:UInt16) (d:bf):Bool:=
 if (d.names.length:Int)≠s.names∨(d.nums.length:Int)≠s.nums∨(0≤s.raw∧(d.raw.length:Int)≠s.raw) then false
 else if s.size<4∧(d.nums.any fun n=>decide (vh s≤(n.toNat:Int)))=true then false
 else if (t.toNat:Int)=257 then decide (d.texts.length=2) && oi (d.texts.headD ⟨#[]⟩)
 else if s.texts=0 then decide (d.texts.length=0)
 else decide (0<d.texts.length) && !(d.texts.any fun x=>decide (255<x.size))
noncomputable def Lu (s:Shape) (t:UInt16) (d:bf):Bool:=
 if s.size<4∧(d.nums.any fun n=>decide (vh s≤(n.toNat:Int)))=true then false
 else if (t.toNat:Int)=257 then decide (d.texts.length=2) && oi (d.texts.headD ⟨#[]⟩)
 else if s.texts=0 then decide (d.texts.length=0)
 else decide (0<d.texts.length) && !(d.texts.any fun x=>decide (255<x.size))
theorem aon (s:Shape) (t:UInt16) (d:bf) (hs : 0≤s.size∧s.size≤4) (hd:cd d):wl PP [ata] 0 (Tryz.f184.body.getD .skip) (cy PP Tryz.f184.results.toList (fun r st=>(r1 bc).get true st.h r=some (n5 s t d))) (cf 0 [oz.val false s,bj.val false t,aw.val false d]) (bk []):=by
 unfold Tryz.f184
 obtain ⟨l1,l2,l3,l4⟩:=hd.lens
 simp only [Ah,ep,ct]
 simp only [↓wR,RA,simprocAttr,TF]
 rw [dz];refine ⟨fun ⟨h,e⟩=>?_,fun ⟨h,e⟩=>?_⟩
 ·have hv:n5 s t d=false:=if_pos (.inl e)
  simp only [↓wR,RA,simprocAttr,TF,h,hv]
 simp only [↓wR,RA,simprocAttr,TF,h]
 rw [dz];refine ⟨fun ⟨h2,e2⟩=>?_,fun ⟨h2,e2⟩=>?_⟩
 ·have hv:n5 s t d=false:=if_pos (.inr (.inl e2))
  simp only [↓wR,RA,simprocAttr,TF,h2,hv]
 simp only [↓wR,RA,simprocAttr,TF,h2]
 have hraw:¬ (0≤s.raw∧(d.raw.length:Int)≠s.raw)→n5 s t d=Lu s t d:=fun hr=>if_neg (fun h=>by
  rcases h with h|h|h
  ·exact h e
  ·exact h e2
  ·exact hr h)
 rw [a9];refine ⟨fun h3=>?_,fun h3=>?_⟩
 simp only [↓wR,RA,simprocAttr,TF,h3]
 rw [dz];refine ⟨fun ⟨h4,e4⟩=>?_,fun ⟨h4,e4⟩=>?_⟩
 have hv:n5 s t d=false:=if_pos (.inr (.inr ⟨h3,e4⟩))
 simp only [↓wR,RA,simprocAttr,TF,h4,hv]
 rw [hraw (fun q=>q.2 e4)]
 simp only [↓wR,RA,simprocAttr,TF,h4]
 rotate_left
 rw [hraw (fun q=>h3 q.1)]
 simp only [↓wR,RA,simprocAttr,TF,h3]
 all_goals
  clear hraw
  refine de [1,3,5,37,38,39] (fun (i:Nat)=>[.sc (.int .u16 t.toNat),.ptr 0 0,.ptr 1 0,.vl false 1 (d.nums.map (br.val false)),.sc (.int .i64 d.nums.length),.sc (.int .i64 i)]) (fun _=>[some (.row [.sc (.int .i64 s.names),.sc (.int .i64 s.nums),.sc (.int .i64 s.size),.sc (.int .i64 s.texts),.sc (.int .i64 s.raw)] 0 2 198),some (.row [.vl false 1 (d.names.map (aj.val false)),.vl false 1 (d.nums.map (br.val false)),.vl false 1 (d.texts.map (aq.val false)),.vl false 1 (d.raw.map (ay.val false))] 0 2 101)]) (fun i=>i≤d.nums.length∧(s.size<4→(d.nums.any fun n=>decide (vh s≤(n.toNat:Int)))=((d.nums.drop i).any fun n=>decide (vh s≤(n.toNat:Int))))) (fun i=>d.nums.length - i) 0 ⟨Nat.zero_le _,fun _=>rfl⟩ (by simp only [↓wR,RA,simprocAttr,TF]<;>rfl) (by simp only [↓wR,RA,simprocAttr,TF]<;>rfl) ?_
  clear h h2 e e2
  rintro i ⟨hi,hR⟩
  simp only [↓wR,RA,simprocAttr,TF]
  rw [a9];refine ⟨fun h=>?_,fun h=>?_⟩
  ·obtain ⟨c,hc,hd1,hlt⟩:=ee (decide_eq_true h)
   rw [hd1,List.any_cons] at hR
   simp only [↓wR,RA,simprocAttr,TF,h,hc]
   rw [a9];refine ⟨fun h5=>?_,fun h5=>?_⟩
   ·have hR:=hR h5
    have h80:(0:Int)≤8 * s.size:=by omega
    simp only [↓wR,RA,simprocAttr,TF,h5,h80];repeat (simp (disch:=omega) only [ag,bz,bw,bu,ca];try simp only [↓wR,RA,simprocAttr,TF,h5,h80])
    rw [a9];refine ⟨fun h6=>?_,fun h6=>?_⟩
    ·have hv:Lu s t d=false:=by
      rw [Lu,if_pos ⟨h5,by rw [hR,decide_eq_true (show vh s≤(c.toNat:Int) from h6)];rfl⟩]
     simp only [↓wR,RA,simprocAttr,TF,h6,hv]
    ·simp only [↓wR,RA,simprocAttr,TF,h6];repeat (simp (disch:=omega) only [ag,bz,bw,bu,ca];try simp only [↓wR,RA,simprocAttr,TF,h6])
     refine ⟨i+1,⟨hlt,fun _=>?_⟩,by omega,by (first|rfl|trivial|omega|((try (simp (disch:=omega) only [ag]));(try (simp only [FB]));first|done|rfl|omega))⟩
     rw [hR,decide_eq_false (show ¬ vh s≤(c.toNat:Int) from h6),Bool.false_or]
   ·simp only [↓wR,RA,simprocAttr,TF,h5];repeat (simp (disch:=omega) only [ag,bz,bw,bu,ca];try simp only [↓wR,RA,simprocAttr,TF,h5])
    exact ⟨i+1,⟨hlt,fun h=>h.elim⟩,by omega,by (first|rfl|trivial|omega|((try (simp (disch:=omega) only [ag]));(try (simp only [FB]));first|done|rfl|omega))⟩
  ·rw [gp (decide_eq_false h),List.any_nil] at hR
   have hr:Lu s t d=if (t.toNat:Int)=257 then decide (d.texts.length=2) && oi (d.texts.headD ⟨#[]⟩) else if s.texts=0 then decide (d.texts.length=0) else decide (0<d.texts.length) && !(d.texts.any fun x=>decide (255<x.size)):=by
    rw [Lu,if_neg];rintro ⟨q1,q2⟩;rw [hR q1] at q2;cases q2
   simp only [↓wR,RA,simprocAttr,TF,h]
   rw [cr];refine ⟨fun ⟨h6,e6⟩=>?_,fun ⟨h6,e6⟩=>?_⟩
   ·rw [if_pos e6] at hr
    simp only [↓wR,RA,simprocAttr,TF,h6]
    rw [cr];refine ⟨fun ⟨h7,e7⟩=>?_,fun ⟨h7,e7⟩=>?_⟩
    ·obtain ⟨c,hc⟩:∃ c,d.texts[0]? = some c:=⟨_,List.getElem?_eq_getElem (by omega)⟩
     have hh:d.texts.headD ⟨#[]⟩=c:=by
      cases ht:d.texts with
      |nil=>rw [ht] at hc;cases hc
      |cons a l=>rw [ht] at hc;simpa using hc
     rw [hh,decide_eq_true (show d.texts.length=2 by omega)] at hr
     simp only [↓wR,RA,simprocAttr,TF,h7,hc,Mg,hd.text c (List.mem_of_getElem? hc)]
     rw [hr];rfl
    ·simp only [↓wR,RA,simprocAttr,TF,h7]
     rw [hr,decide_eq_false (show ¬ d.texts.length=2 by omega)];rfl
   ·rw [if_neg e6] at hr
    simp only [↓wR,RA,simprocAttr,TF,h6]
    rw [cr];refine ⟨fun ⟨h7,e7⟩=>?_,fun ⟨h7,e7⟩=>?_⟩
    ·rw [if_pos e7] at hr
     simp only [↓wR,RA,simprocAttr,TF,h7]
     rw [hr];congr 1
     rw [Bool.eq_iff_iff];simp
    ·rw [if_neg e7] at hr
     simp only [↓wR,RA,simprocAttr,TF,h7]
     rw [a9];refine ⟨fun h8=>?_,fun h8=>?_⟩
     ·simp only [↓wR,RA,simprocAttr,TF,h8]
      refine fk (T:=[]) (ai.nil PP) mixed Tryz.func196 rfl (by kernel_rfl) (by kernel_rfl) (by kernel_rfl) (by kernel_rfl) ?_;unfold Tryz.f196
      simp only [↓wR,RA,simprocAttr,TF]
      refine fk (T:=[]) (ai.nil PP) mixed Tryz.func203 rfl (by kernel_rfl) (by kernel_rfl) (by kernel_rfl) (by kernel_rfl) ?_;unfold Tryz.f203
      simp only [↓wR,RA,simprocAttr,TF]
      refine de [0,1,7,8] (fun (i:Nat)=>[.vl false 1 (d.texts.map (aq.val false)),.sc (.func (.func 197) #[] #[]),.sc (.int .i64 d.texts.length),.sc (.int .i64 i)]) (fun _=>[some (.row [.sc (.int .i64 s.names),.sc (.int .i64 s.nums),.sc (.int .i64 s.size),.sc (.int .i64 s.texts),.sc (.int .i64 s.raw)] 0 2 198),some (.row [.vl false 1 (d.names.map (aj.val false)),.vl false 1 (d.nums.map (br.val false)),.vl false 1 (d.texts.map (aq.val false)),.vl false 1 (d.raw.map (ay.val false))] 0 2 101)]) (fun i=>i≤d.texts.length∧(d.texts.any fun x=>decide (255<x.size))=((d.texts.drop i).any fun x=>decide (255<x.size))) (fun i=>d.texts.length - i) 0 ⟨Nat.zero_le _,rfl⟩ (by simp only [↓wR,RA,simprocAttr,TF]<;>rfl) (by simp only [↓wR,RA,simprocAttr,TF]<;>rfl) ?_
      rintro k ⟨hk,hK⟩
      simp only [↓wR,RA,simprocAttr,TF]
      rw [a9];refine ⟨fun h9=>?_,fun h9=>?_⟩
      ·obtain ⟨c,hc,hd1,hlt⟩:=ee (decide_eq_true h9)
       rw [hd1,List.any_cons] at hK
       simp only [↓wR,RA,simprocAttr,TF,h9,hc];repeat (simp (disch:=omega) only [ag,bz,bw,bu,ca];try simp only [↓wR,RA,simprocAttr,TF,h9,hc])
       refine fk (T:=[]) (ai.nil PP) mixed Tryz.func197 rfl (by kernel_rfl) (by kernel_rfl) (by kernel_rfl) (by kernel_rfl) ?_;unfold Tryz.f197
       simp only [↓wR,RA,simprocAttr,TF]
       rw [a9];refine ⟨fun h10=>?_,fun h10=>?_⟩
       ·simp only [↓wR,RA,simprocAttr,TF,h10]
        rw [hr,hK,decide_eq_true (show 0<d.texts.length by omega),decide_eq_true (show 255<c.size by omega)];rfl
       ·simp only [↓wR,RA,simprocAttr,TF,h10];repeat (simp (disch:=omega) only [ag,bz,bw,bu,ca];try simp only [↓wR,RA,simprocAttr,TF,h10])
        refine ⟨k+1,⟨hlt,?_⟩,by omega,by (first|rfl|trivial|omega|((try (simp (disch:=omega) only [ag]));(try (simp only [FB]));first|done|rfl|omega))⟩
        rw [hK,decide_eq_false (show ¬ 255<c.size by omega),Bool.false_or]
      ·rw [gp (decide_eq_false h9),List.any_nil] at hK
       simp only [↓wR,RA,simprocAttr,TF,h9]
       rw [hr,hK,decide_eq_true (show 0<d.texts.length by omega)];rfl
     ·simp only [↓wR,RA,simprocAttr,TF,h8]
      rw [hr,decide_eq_false (show ¬ 0<d.texts.length by omega)];rfl
theorem u4 (t:UInt16) : 0≤(cj t).size∧(cj t).size≤4:=by
 unfold cj
 repeat' split
 all_goals simp
noncomputable def G8 (x:Shape × UInt16 × bf × Unit):Option AV:=if (0≤x.1.size∧x.1.size≤4)∧cd x.2.2.1 then some ((r1 bc).E true (n5 x.1 x.2.1 x.2.2.1)) else none
set_option maxRecDepth 2000000 in
theorem ac9 (x:Shape × UInt16 × bf × Unit) (r:AV) (h:G8 x=some r):bb PP 184 ((aC oz (aC bj (aC aw a0))).E x) r:=by
 by_cases hc:(0≤x.1.size∧x.1.size≤4)∧cd x.2.2.1
 case neg=>simp only [G8,if_neg hc] at h;cases h
 simp only [G8,if_pos hc] at h
 cases h
 exact au (ai.cons (ak ahu) (ai.nil PP)) Tryz.func184 (by kernel_rfl) (by kernel_rfl) (by kernel_rfl) (Nat.le_of_ble_eq_true (by kernel_rfl)) (r1 bc) true (n5 x.1 x.2.1 x.2.2.1) (aon x.1 x.2.1 x.2.2.1 hc.1 hc.2)
noncomputable abbrev asj:Nat × Bool × (List AV→M AV):=(184,true,cx (aC oz (aC bj (aC aw a0))) G8)
theorem aa3 {α:Type} {l:List (List α)} {i:Nat} {c:List α} (h:l[i]? = some c):(l.drop i).flatten=c++(l.drop (i+1)).flatten:=by rw [Db h];rfl
theorem ani {α:Type} {l:List (List α)} {c:List α} (h:c ∈ l):c.length≤l.flatten.length:=by
 induction l with
 |nil=>cases h
 |cons a l ih=>
  simp only [List.flatten_cons,List.length_append]
  rcases List.mem_cons.1 h with rfl|h
  ·omega
  ·have:=ih h;omega
theorem aiu (l:List (List UInt8)) (hl:l.length≤16777216) (hf:l.flatten.length≤134217728):wl PP [] 0 (Tryz.f200.body.getD .skip) (cy PP Tryz.f200.results.toList (fun r st=>(r1 (bh ay)).get false st.h r=some l.flatten)) (cf 0 [(bh (bh ay)).val false l]) (bk []):=by
 unfold Tryz.f200
 rw [kx]
 simp only [↓wR,RA,simprocAttr,TF]
 refine de [0,3,9,10,11] (fun (x:Nat × Nat)=>[.vl false 1 (l.map ((bh ay).val false)),.sc (.int .i64 x.2),.vl false 1 (l.map ((bh ay).val false)),.sc (.int .i64 l.length),.sc (.int .i64 x.1)]) (fun _=>[]) (fun x=>x.1≤l.length∧x.2+(l.drop x.1).flatten.length=l.flatten.length) (fun x=>l.length - x.1) (0,0) ⟨Nat.zero_le _,by simp⟩ (by simp only [↓wR,RA,simprocAttr,TF]<;>rfl) (by simp only [↓wR,RA,simprocAttr,TF]<;>rfl) ?_
 rintro ⟨i,k⟩ ⟨hi,hk⟩
 simp only at hi hk
 simp only [↓wR,RA,simprocAttr,TF]
 rw [a9];refine ⟨fun h=>?_,fun h=>?_⟩
 ·obtain ⟨c,hc,hd1,hlt⟩:=ee (decide_eq_true h)
  rw [aa3 hc,List.length_append] at hk
  simp only [↓wR,RA,simprocAttr,TF,h,hc];repeat (simp (disch:=omega) only [ag,bz,bw,bu,ca];try simp only [↓wR,RA,simprocAttr,TF,h,hc])
  rw [a9];refine ⟨fun h1=>?_,fun h1=>?_⟩
  ·exfalso;omega
  ·simp only [↓wR,RA,simprocAttr,TF,h1];repeat (simp (disch:=omega) only [ag,bz,bw,bu,ca];try simp only [↓wR,RA,simprocAttr,TF,h1])
   exact ⟨(i+1,k+c.length),⟨hlt,by show k+c.length+(l.drop (i+1)).flatten.length=_;omega⟩,by simp;omega,by simp⟩
 ·rw [gp (decide_eq_false h)] at hk
  have hk:k=l.flatten.length:=by simpa using hk
  subst hk
  simp only [↓wR,RA,simprocAttr,TF,h]
  refine fk (T:=[]) (ai.nil PP) mixed Tryz.func204 rfl (by kernel_rfl) (by kernel_rfl) (by kernel_rfl) (by kernel_rfl) ?_;unfold Tryz.f204
  simp only [↓wR,RA,simprocAttr,TF]
  rw [a9];refine ⟨fun h1=>?_,fun h1=>?_⟩
  ·exfalso;omega
  simp only [↓wR,RA,simprocAttr,TF,h1];repeat (simp (disch:=omega) only [ag,bz,bw,bu,ca];try simp only [↓wR,RA,simprocAttr,TF,h1])
  rw [a9];refine ⟨fun h2=>?_,fun h2=>?_⟩
  ·have hpos : 0<l.flatten.length:=by omega
   simp only [↓wR,RA,simprocAttr,TF,h2,hpos];repeat (simp (disch:=omega) only [ag,bz,bw,bu,ca];try simp only [↓wR,RA,simprocAttr,TF,h2,hpos])
   refine de [25,26,27,6] (fun (x:Nat × Nat × Nat × List UInt8)=>[.vl false 1 (l.map ((bh ay).val false)),.sc (.int .i64 l.length),.sc (.int .i64 x.1),.sl 0 0 x.2.1 1]) (fun x=>[some (.row (x.2.2.2.map (ay.val false)) 0 x.2.2.1 5)]) (fun x=>x.1≤l.length∧(x.2.1=x.2.2.2.length∨x.2.1=0)∧x.2.2.2.take x.2.1++(l.drop x.1).flatten=l.flatten) (fun x=>l.length - x.1) (0,0,0,List.replicate l.flatten.length 0) ⟨Nat.zero_le _,.inr rfl,rfl⟩ (by simp only [↓wR,RA,simprocAttr,TF]<;>rfl) (by simp only [↓wR,RA,simprocAttr,TF]<;>rfl) ?_
   rintro ⟨k,m,s,r⟩ ⟨hk1,hk0,hk3⟩
   simp only at hk1 hk0 hk3
   have hk2:m≤r.length:=by omega
   simp only [↓wR,RA,simprocAttr,TF]
   rw [a9];refine ⟨fun h3=>?_,fun h3=>?_⟩
   ·obtain ⟨c,hc,hd1,hlt⟩:=ee (decide_eq_true h3)
    rw [aa3 hc] at hk3
    have hm:m+c.length≤134217728:=by
     have:=congrArg List.length hk3
     simp only [List.length_append,List.length_take] at this
     omega
    simp only [↓wR,RA,simprocAttr,TF,h3,hc,hk2];repeat (simp (disch:=omega) only [ag,bz,bw,bu,ca];try simp only [↓wR,RA,simprocAttr,TF,h3,hc,hk2])
    have hl1:(r.take m++c).length=m+c.length:=by simp [Nat.min_eq_left hk2]
    refine ⟨(k+1,m+c.length,ko (decide (m=r.length)) s,r.take m++c),⟨hlt,.inl hl1.symm,?_⟩,by simp;omega,by simp,by simp⟩
    show (r.take m++c).take (m+c.length)++_=_
    rw [List.take_of_length_le (Nat.le_of_eq hl1),List.append_assoc]
    exact hk3
   ·rw [gp (decide_eq_false h3)] at hk3
    have hmr:m=r.length:=by
     have:=congrArg List.length hk3
     simp only [List.length_append,List.length_take,List.flatten_nil,List.length_nil] at this
     omega
    subst hmr
    have hr:r=l.flatten:=by simpa using hk3
    subst hr
    simp only [↓wR,RA,simprocAttr,TF,h3,hk2];repeat (simp (disch:=omega) only [ag,bz,bw,bu,ca];try simp only [↓wR,RA,simprocAttr,TF,h3,hk2])
  ·have hnil:l.flatten=[]:=List.eq_nil_of_length_eq_zero (by omega)
   simp only [↓wR,RA,simprocAttr,TF,h2];repeat (simp (disch:=omega) only [ag,bz,bw,bu,ca];try simp only [↓wR,RA,simprocAttr,TF,h2])
   refine de [25,26,27,6] (fun (x:Nat)=>[.vl false 1 (l.map ((bh ay).val false)),.sc (.int .i64 l.length),.sc (.int .i64 x),.sc (.slice none 0 0)]) (fun _=>[]) (fun x=>x≤l.length) (fun x=>l.length - x) 0 (Nat.zero_le _) (by simp only [↓wR,RA,simprocAttr,TF]<;>rfl) (by simp only [↓wR,RA,simprocAttr,TF]<;>rfl) ?_
   intro k hk1
   simp only [↓wR,RA,simprocAttr,TF]
   rw [a9];refine ⟨fun h3=>?_,fun h3=>?_⟩
   ·obtain ⟨c,hc,hd1,hlt⟩:=ee (decide_eq_true h3)
    have hc0:c=[]:=List.eq_nil_of_length_eq_zero (by have:=ani (List.mem_of_getElem? hc);rw [hnil] at this;simpa using this)
    subst hc0
    simp only [↓wR,RA,simprocAttr,TF,h3,hc];repeat (simp (disch:=omega) only [ag,bz,bw,bu,ca];try simp only [↓wR,RA,simprocAttr,TF,h3,hc])
    refine ⟨k+1,hlt,?_⟩
    first|(refine ⟨by simp;omega,?_⟩;simp)|(simp;omega)
   ·simp only [↓wR,RA,simprocAttr,TF,h3];repeat (simp (disch:=omega) only [ag,bz,bw,bu,ca];try simp only [↓wR,RA,simprocAttr,TF,h3])
    rw [hnil]
noncomputable def wi (x:List (List UInt8) × Unit):Option AV:=if x.1.length≤16777216∧x.1.flatten.length≤134217728 then some ((r1 (bh ay)).E false (x.1.flatten)) else none
set_option maxRecDepth 2000000 in
theorem Xl (x:List (List UInt8) × Unit) (r:AV) (h:wi x=some r):bb PP 200 ((aC (bh (bh ay)) a0).E x) r:=by
 by_cases hc:x.1.length≤16777216∧x.1.flatten.length≤134217728
 case neg=>simp only [wi,if_neg hc] at h;cases h
 simp only [wi,if_pos hc] at h
 cases h
 exact au (ai.nil PP) Tryz.func200 (by kernel_rfl) (by kernel_rfl) (by kernel_rfl) (Nat.le_of_ble_eq_true (by kernel_rfl)) (r1 (bh ay)) false (x.1.flatten) (aiu x.1 hc.1 hc.2)
noncomputable abbrev aou:Nat × Bool × (List AV→M AV):=(200,true,cx (aC (bh (bh ay)) a0) wi)
theorem ahl (n:Name):(ir n).length≤bp n:=by
 unfold ir nameBytes
 split
 ·exact Nat.zero_le _
 ·have:=ph n;rw [List.length_append];simp only [List.length_cons,List.length_nil];omega
noncomputable def ue (t:UInt16) (n:UInt32):List UInt8:=(ug n).drop (4 - (cj t).size).toNat
def ld (t:UInt16):Nat→List ByteArray→List UInt8
 |_,[]=>[]
 |i,x::r=>(if (t.toNat:Int)=16∨i=0 then [UInt8.ofNat x.size] else [])++x.data.toList++ld t (i+1) r
noncomputable def qk (t:UInt16) (d:bf):List UInt8:=d.nums.flatMap (ue t)
def nj (d:bf):List UInt8:=d.names.flatMap ir
def my (t:UInt16) (d:bf):List UInt8:=ld t 0 d.texts
noncomputable def jx (t:UInt16) (d:bf):List UInt8:=if (t.toNat:Int)=6 then nj d++qk t d else qk t d++(nj d++(my t d++d.raw))
theorem Bk (n):(ug n).length=4:=rfl
theorem Z5 {α:Type} (f : α→List UInt8) (μ : α→Nat) (h:∀ x,(f x).length ≤ μ x) (l:List α):(l.flatMap f).length≤lj μ l:=by
 induction l with
 |nil=>simp
 |cons a l ih=>have:=h a;simp only [List.flatMap_cons,List.length_append,lj,List.foldr_cons] at ih ⊢;omega
theorem afg (t:UInt16) (l:List ByteArray):∀ i,(ld t i l).length≤lj ByteArray.size l:=by
 induction l with
 |nil=>intro i;simp [ld]
 |cons a l ih=>
  intro i
  have:=ih (i+1)
  have ha:a.data.size=a.size:=rfl
  simp only [ld,List.length_append,lj,List.foldr_cons,Array.length_toList] at this ⊢
  split<;>simp<;>omega
theorem agq (t d):(qk t d).length≤4 * d.nums.length:=by
 unfold qk
 induction d.nums with
 |nil=>simp
 |cons a l ih=>
  have:(ue t a).length≤4:=by unfold ue;rw [List.length_drop,Bk];omega
  simp only [List.flatMap_cons,List.length_append,List.length_cons];omega
theorem cd.written {d:bf} (h:cd d) (t):(qk t d).length≤67108864∧(nj d).length≤16777216∧(my t d).length≤16777216:=by
 have h1:=agq t d
 have h2:(nj d).length≤lj bp d.names:=Z5 ir bp ahl d.names
 have h3:(my t d).length≤lj ByteArray.size d.texts:=afg t d.texts 0
 unfold cd Ae at h
 omega
theorem u1 {α:Type} {l:List α} {i:Nat} {c : α} (f : α→List UInt8) (h:l.drop i=c::l.drop (i+1)):(l.drop i).flatMap f=f c++(l.drop (i+1)).flatMap f:=by rw [h];rfl
theorem Mo (c):(ug c).take 4=ug c:=rfl
theorem H0 (t) (c):(ug c).drop (4 - (cj t).size).toNat=ue t c:=rfl
theorem Qd (t:UInt16) {l:List ByteArray} {i:Nat} {c:ByteArray} (h:l.drop i=c::l.drop (i+1)):ld t i (l.drop i)=(if (t.toNat:Int)=16∨i=0 then [UInt8.ofNat c.size] else [])++c.data.toList++ld t (i+1) (l.drop (i+1)):=by rw [h];rfl
theorem alk (t:UInt16) (d:bf) (hd:cd d):wl PP [O5,apc,afv,aou] 0 (Tryz.f185.body.getD .skip) (cy PP Tryz.f185.results.toList (fun r st=>(r1 (bh ay)).get false st.h r=some (jx t d))) (cf 0 [bj.val false t,aw.val false d]) (bk []):=by
 have hl:=hd.lens
 have hk:=hd.written t
 have hs:=u4 t
 unfold Tryz.f185
 simp only [ep,ct]
 simp only [↓wR,RA,simprocAttr,TF,zw,Ah]
 refine fq [0,3,6,7,8,21,22,23,5] (fun (x:Nat × List UInt8)=>[.sc (.int .u16 t.toNat),.ptr 0 0,.sc (.slice none 0 0),.sc (.slice none 0 0),.ptr 1 0,.vl false 1 (d.nums.map (br.val false)),.sc (.int .i64 (d.nums.length)),.sc (.int .i64 (x.1)),.sl 2 0 x.2.length 1]) (fun x=>[some (.row [.vl false 1 (d.names.map (aj.val false)),.vl false 1 (d.nums.map (br.val false)),.vl false 1 (d.texts.map (aq.val false)),.vl false 1 (d.raw.map (ay.val false))] 0 2 101),some (.row [.sc (.int .i64 (cj t).names),.sc (.int .i64 (cj t).nums),.sc (.int .i64 (cj t).size),.sc (.int .i64 (cj t).texts),.sc (.int .i64 (cj t).raw)] 0 2 198),some (.row (x.2.map (ay.val false)) 0 0 5)]) (fun x=>x.1≤d.nums.length∧x.2++(d.nums.drop x.1).flatMap (ue t)=qk t d) (fun x=>d.nums.length - x.1) (0,[]) ⟨Nat.zero_le _,rfl⟩ (by simp only [↓wR,RA,simprocAttr,TF];(refine jf.lax [] (by first|exact Nat.le_of_ble_eq_true rfl|(simp [c8];omega)) ?_ ?_<;>repeat' first|exact dv.nil|exact cg.nil|exact eh.same _|exact eh.nil _ _ _|exact eh.mw _ _|exact cg.refl _ _|apply dv.cons|apply cg.ghost|apply cg.same|apply cg.row)) ?_
 rintro ⟨i,x⟩ ⟨hi,hx⟩
 simp only at hi hx
 simp only [↓wR,RA,simprocAttr,TF]
 rw [a9];refine ⟨fun h=>?_,fun h=>?_⟩
 ·obtain ⟨c,hc,hd1,hlt⟩:=ee (decide_eq_true h)
  rw [u1 _ hd1] at hx
  have hxl:x.length+(ue t c).length≤(qk t d).length:=by rw [← hx];simp
  simp only [↓wR,RA,simprocAttr,TF,h,hc,H4,Bk,Mo,H0];repeat (simp (disch:=omega) only [ag,bz,bw,bu,ca];try simp only [↓wR,RA,simprocAttr,TF,h,hc,H4,Bk,Mo,H0])
  exact ⟨(i+1,x++ue t c),⟨hlt,by rw [List.append_assoc];exact hx⟩,by simp;omega,by (first|rfl|trivial|omega|((try (simp (disch:=omega) only [ag]));(try (simp only [FB]));first|done|rfl|omega)),by (first|rfl|trivial|omega|((try (simp (disch:=omega) only [ag]));(try (simp only [FB]));first|done|rfl|omega))⟩
 rw [gp (decide_eq_false h)] at hx
 obtain rfl:x=qk t d:=by simpa using hx
 clear hx
 simp only [↓wR,RA,simprocAttr,TF,h]
 obtain ⟨nu,hnu⟩:∃ nu,qk t d=nu:=⟨_,rfl⟩
 rw [hnu] at hk ⊢
 refine fq [0,3,7,38,39,40,5,6] (fun (x:Nat × List UInt8)=>[.sc (.int .u16 t.toNat),.ptr 0 0,.sc (.slice none 0 0),.vl false 1 (d.names.map (aj.val false)),.sc (.int .i64 (d.names.length)),.sc (.int .i64 (x.1)),.sl 1 0 nu.length 1,.sl 2 0 x.2.length 1]) (fun x=>[some (.row [.vl false 1 (d.names.map (aj.val false)),.vl false 1 (d.nums.map (br.val false)),.vl false 1 (d.texts.map (aq.val false)),.vl false 1 (d.raw.map (ay.val false))] 0 2 101),some (.row (nu.map (ay.val false)) 0 0 5),some (.row (x.2.map (ay.val false)) 0 0 5)]) (fun x=>x.1≤d.names.length∧x.2++(d.names.drop x.1).flatMap ir=nj d) (fun x=>d.names.length - x.1) (0,[]) ⟨Nat.zero_le _,rfl⟩ (by simp only [↓wR,RA,simprocAttr,TF];(refine jf.lax [] (by first|exact Nat.le_of_ble_eq_true rfl|(simp [c8];omega)) ?_ ?_<;>repeat' first|exact dv.nil|exact cg.nil|exact eh.same _|exact eh.nil _ _ _|exact eh.mw _ _|exact cg.refl _ _|apply dv.cons|apply cg.ghost|apply cg.same|apply cg.row)) ?_
 clear h
 rintro ⟨i,x⟩ ⟨hi,hx⟩
 simp only at hi hx
 simp only [↓wR,RA,simprocAttr,TF]
 rw [a9];refine ⟨fun h=>?_,fun h=>?_⟩
 ·obtain ⟨c,hc,hd1,hlt⟩:=ee (decide_eq_true h)
  rw [u1 _ hd1] at hx
  have hxl:x.length+(ir c).length≤(nj d).length:=by rw [← hx];simp
  simp only [↓wR,RA,simprocAttr,TF,h,hc,py,hd.name c (List.mem_of_getElem? hc)];repeat (simp (disch:=omega) only [ag,bz,bw,bu,ca];try simp only [↓wR,RA,simprocAttr,TF,h,hc,py,hd.name c (List.mem_of_getElem? hc)])
  exact ⟨(i+1,x++ir c),⟨hlt,by rw [List.append_assoc];exact hx⟩,by simp;omega,by (first|rfl|trivial|omega|((try (simp (disch:=omega) only [ag]));(try (simp only [FB]));first|done|rfl|omega)),by (first|rfl|trivial|omega|((try (simp (disch:=omega) only [ag]));(try (simp only [FB]));first|done|rfl|omega))⟩
 rw [gp (decide_eq_false h)] at hx
 obtain rfl:x=nj d:=by simpa using hx
 clear hx
 simp only [↓wR,RA,simprocAttr,TF,h]
 obtain ⟨na,hna⟩:∃ na,nj d=na:=⟨_,rfl⟩
 rw [hna] at hk ⊢
 refine fq [0,3,54,55,56,5,6,7] (fun (x:Nat × List UInt8)=>[.sc (.int .u16 t.toNat),.ptr 0 0,.vl false 1 (d.texts.map (aq.val false)),.sc (.int .i64 (d.texts.length)),.sc (.int .i64 (x.1)),.sl 1 0 nu.length 1,.sl 2 0 na.length 1,.sl 3 0 x.2.length 1]) (fun x=>[some (.row [.vl false 1 (d.names.map (aj.val false)),.vl false 1 (d.nums.map (br.val false)),.vl false 1 (d.texts.map (aq.val false)),.vl false 1 (d.raw.map (ay.val false))] 0 2 101),some (.row (nu.map (ay.val false)) 0 0 5),some (.row (na.map (ay.val false)) 0 0 5),some (.row (x.2.map (ay.val false)) 0 0 5)]) (fun x=>x.1≤d.texts.length∧x.2++ld t x.1 (d.texts.drop x.1)=my t d) (fun x=>d.texts.length - x.1) (0,[]) ⟨Nat.zero_le _,rfl⟩ (by simp only [↓wR,RA,simprocAttr,TF];(refine jf.lax [] (by first|exact Nat.le_of_ble_eq_true rfl|(simp [c8];omega)) ?_ ?_<;>repeat' first|exact dv.nil|exact cg.nil|exact eh.same _|exact eh.nil _ _ _|exact eh.mw _ _|exact cg.refl _ _|apply dv.cons|apply cg.ghost|apply cg.same|apply cg.row)) ?_
 clear h
 rintro ⟨i,x⟩ ⟨hi,hx⟩
 simp only at hi hx
 simp only [↓wR,RA,simprocAttr,TF]
 rw [a9];refine ⟨fun h=>?_,fun h=>?_⟩
 ·obtain ⟨c,hc,hd1,hlt⟩:=ee (decide_eq_true h)
  rw [Qd _ hd1] at hx
  have hxl:x.length+((if (t.toNat:Int)=16∨i=0 then [UInt8.ofNat c.size] else []).length+c.size)≤(my t d).length:=by rw [← hx];simp
  have hcs:c.data.toList.length=c.size:=by simp
  simp only [↓wR,RA,simprocAttr,TF,h,hc];repeat (simp (disch:=omega) only [ag,bz,bw,bu,ca];try simp only [↓wR,RA,simprocAttr,TF,h,hc])
  have fin:∀ b:List UInt8,x++(b++c.data.toList++ld t (i+1) (d.texts.drop (i+1)))=my t d→x++b++c.data.toList++ld t (i+1) (d.texts.drop (i+1))=my t d:=fun b hb=>by rw [← hb];simp
  rw [cr];refine ⟨fun ⟨h16,e16⟩=>?_,fun ⟨h16,e16⟩=>?_⟩
  ·rw [if_pos (.inl e16)] at hx hxl
   simp only [List.length_cons,List.length_nil] at hxl
   simp only [↓wR,RA,simprocAttr,TF,h16];repeat (simp (disch:=omega) only [ag,bz,bw,bu,ca];try simp only [↓wR,RA,simprocAttr,TF,h16])
   exact ⟨(i+1,x++[UInt8.ofNat c.size]++c.data.toList),⟨hlt,fin _ hx⟩,by simp;omega,by (first|rfl|trivial|omega|((try (simp (disch:=omega) only [ag]));(try (simp only [FB]));first|done|rfl|omega)),by (first|rfl|trivial|omega|((try (simp (disch:=omega) only [ag]));(try (simp only [FB]));first|done|rfl|omega))⟩
  ·simp only [↓wR,RA,simprocAttr,TF,h16];repeat (simp (disch:=omega) only [ag,bz,bw,bu,ca];try simp only [↓wR,RA,simprocAttr,TF,h16])
   rw [cr];refine ⟨fun ⟨h0,e0⟩=>?_,fun ⟨h0,e0⟩=>?_⟩
   ·rw [if_pos (.inr (by omega))] at hx hxl
    simp only [List.length_cons,List.length_nil] at hxl
    simp only [↓wR,RA,simprocAttr,TF,h0];repeat (simp (disch:=omega) only [ag,bz,bw,bu,ca];try simp only [↓wR,RA,simprocAttr,TF,h0])
    exact ⟨(i+1,x++[UInt8.ofNat c.size]++c.data.toList),⟨hlt,fin _ hx⟩,by simp;omega,by (first|rfl|trivial|omega|((try (simp (disch:=omega) only [ag]));(try (simp only [FB]));first|done|rfl|omega)),by (first|rfl|trivial|omega|((try (simp (disch:=omega) only [ag]));(try (simp only [FB]));first|done|rfl|omega))⟩
   ·rw [if_neg (by omega)] at hx hxl
    simp only [List.length_nil] at hxl
    simp only [↓wR,RA,simprocAttr,TF,h0];repeat (simp (disch:=omega) only [ag,bz,bw,bu,ca];try simp only [↓wR,RA,simprocAttr,TF,h0])
    exact ⟨(i+1,x++c.data.toList),⟨hlt,by have:=fin _ hx;simpa using this⟩,by simp;omega,by (first|rfl|trivial|omega|((try (simp (disch:=omega) only [ag]));(try (simp only [FB]));first|done|rfl|omega)),by (first|rfl|trivial|omega|((try (simp (disch:=omega) only [ag]));(try (simp only [FB]));first|done|rfl|omega))⟩
 rw [gp (decide_eq_false h)] at hx
 obtain rfl:x=my t d:=by simpa [ld] using hx
 clear hx
 simp only [↓wR,RA,simprocAttr,TF,h];repeat (simp (disch:=omega) only [ag,bz,bw,bu,ca];try simp only [↓wR,RA,simprocAttr,TF,h])
 unfold jx
 rw [hnu,hna]
 rw [cr];refine ⟨fun ⟨h6,e6⟩=>?_,fun ⟨h6,e6⟩=>?_⟩
 ·rw [if_pos e6]
  simp only [↓wR,RA,simprocAttr,TF,h6];repeat (simp (disch:=omega) only [ag,bz,bw,bu,ca];try simp only [↓wR,RA,simprocAttr,TF,h6])
 ·rw [if_neg e6]
  have hcat:nu.length+(na.length+((my t d).length+d.raw.length))≤134217728:=by omega
  simp only [↓wR,RA,simprocAttr,TF,h6,wi,hcat];repeat (simp (disch:=omega) only [ag,bz,bw,bu,ca];try simp only [↓wR,RA,simprocAttr,TF,h6,wi,hcat])
  rw [← List.map_append,← List.map_append,← List.map_append]
  exact qb ay false _ false _ _ rfl rfl
noncomputable def qd (x:UInt16 × bf × Unit):Option AV:=if cd x.2.1 then some ((r1 (bh ay)).E false (jx x.1 x.2.1)) else none
set_option maxRecDepth 2000000 in
theorem Bp (x:UInt16 × bf × Unit) (r:AV) (h:qd x=some r):bb PP 185 ((aC bj (aC aw a0)).E x) r:=by
 by_cases hc:cd x.2.1
 case neg=>simp only [qd,if_neg hc] at h;cases h
 simp only [qd,if_pos hc] at h
 cases h
 exact au (ai.cons (ak zy) (ai.cons (ak aau) (ai.cons (ak Oh) (ai.cons (ak Xl) (ai.nil PP))))) Tryz.func185 (by kernel_rfl) (by kernel_rfl) (by kernel_rfl) (Nat.le_of_ble_eq_true (by kernel_rfl)) (r1 (bh ay)) false (jx x.1 x.2.1) (alk x.1 x.2.1 hc)
noncomputable abbrev M4:Nat × Bool × (List AV→M AV):=(185,true,cx (aC bj (aC aw a0)) qd)
theorem aai (d:bf) (hd:cd d):wl PP [Xa,Xj,acd,Lb] 0 (Tryz.f107.body.getD .skip) (cy PP Tryz.f107.results.toList (fun r st=>(r1 aw).get true st.h r=some d)) (cf 0 [aw.val false d]) (bk []):=by
 have hl:=hd.lens
 have l2:=hl.2.1
 have l3:=hl.2.2.1
 have l4:=hl.2.2.2
 unfold Tryz.f107
 simp only [ep,ct]
 simp only [↓wR,RA,simprocAttr,TF]
 refine ⟨by kernel_rfl,.inl ?_⟩
 simp only [↓wR,RA,simprocAttr,TF,tz,tq,wg,l2,l3,l4]
 refine ⟨by kernel_rfl,?_⟩
 refine fq [2,17,18,19,3] (fun (x:List Name)=>[.ptr 0 0,.vl false 1 (d.names.map (aj.val false)),.sc (.int .i64 (d.names.length)),.sc (.int .i64 (x.length)),.ptr 1 0]) (fun x=>[some (.row [.sc (.slice none 0 0),.sc (.slice none 0 0),.sc (.slice none 0 0),.sc (.slice none 0 0)] 0 2 101),some (.row [.sl 2 0 x.length 1,.vl true 1 (d.nums.map (br.val false)),.vl true 1 (d.texts.map (aq.val false)),.vl true 1 (d.raw.map (ay.val false))] 0 2 101),some (.row (x.map (aj.val true)) 0 0 24)]) (fun x=>x.length≤d.names.length∧x++d.names.drop x.length=d.names) (fun x=>d.names.length - x.length) [] ⟨Nat.zero_le _,rfl⟩ (by simp only [↓wR,RA,simprocAttr,TF];(refine jf.lax [] (by first|exact Nat.le_of_ble_eq_true rfl|(simp [c8];omega)) ?_ ?_<;>repeat' first|exact dv.nil|exact cg.nil|exact eh.same _|exact eh.nil _ _ _|exact eh.mw _ _|exact cg.refl _ _|apply dv.cons|apply cg.ghost|apply cg.same|apply cg.row)) ?_
 rintro x ⟨hi,hx⟩
 simp only [↓wR,RA,simprocAttr,TF]
 rw [a9];refine ⟨fun h=>?_,fun h=>?_⟩
 ·obtain ⟨c,hc,hd1,hlt⟩:=ee (decide_eq_true h)
  rw [hd1] at hx
  have hlim:(x.length+1) * 24≤140737488355328:=by omega
  simp only [↓wR,RA,simprocAttr,TF,h,hc]
  refine ⟨by kernel_rfl,.inl ?_⟩
  simp only [↓wR,RA,simprocAttr,TF,qy,hd.name c (List.mem_of_getElem? hc),hlim]
  refine ⟨by kernel_rfl,?_⟩
  exact ⟨x++[c],⟨by simp;omega,by simpa using hx⟩,by simp;omega,by (first|rfl|trivial|omega|((try (simp (disch:=omega) only [ag]));(try (simp only [FB]));first|done|rfl|omega)),by (first|rfl|trivial|omega|((try (simp (disch:=omega) only [ag]));(try (simp only [FB]));first|done|rfl|omega))⟩
 ·rw [gp (decide_eq_false h)] at hx
  rw [List.append_nil] at hx
  subst hx
  simp only [↓wR,RA,simprocAttr,TF,h]
noncomputable def xl (x:bf × Unit):Option AV:=if cd x.1 then some ((r1 aw).E true (x.1)) else none
set_option maxRecDepth 2000000 in
theorem S7 (x:bf × Unit) (r:AV) (h:xl x=some r):bb PP 107 ((aC aw a0).E x) r:=by
 by_cases hc:cd x.1
 case neg=>simp only [xl,if_neg hc] at h;cases h
 simp only [xl,if_pos hc] at h
 cases h
 exact au (ai.cons (ak Ew) (ai.cons (ak E9) (ai.cons (ak Fq) (ai.cons (ak yk) (ai.nil PP))))) Tryz.func107 (by kernel_rfl) (by kernel_rfl) (by kernel_rfl) (Nat.le_of_ble_eq_true (by kernel_rfl)) (r1 aw) true (x.1) (aai x.1 hc)
noncomputable abbrev aj5:Nat × Bool × (List AV→M AV):=(107,true,cx (aC aw a0) xl)
def mj {α:Type} (f : α → α) (l:List α) (i:Nat):List α:=(l.take i).map f++l.drop i
theorem aej {α:Type} (f : α → α) (l:List α) (i:Nat):(mj f l i).length=l.length:=by simp [mj];omega
theorem adb {α:Type} (f : α → α) {l:List α} {i:Nat} {c : α} (h:l[i]? = some c):(mj f l i)[i]? = some c:=by
 obtain ⟨hi,rfl⟩:=List.getElem?_eq_some_iff.1 h
 have hl:((l.take i).map f).length=i:=by simp;omega
 rw [mj,List.getElem?_append_right (by omega),hl,Nat.sub_self,List.getElem?_drop];simp [h]
theorem ac7 {α:Type} (f : α → α) {l:List α} {i:Nat} {c : α} (h:l[i]? = some c):(mj f l i).take i++[f c]++(mj f l i).drop (i+1)=mj f l (i+1):=by
 obtain ⟨hi,rfl⟩:=List.getElem?_eq_some_iff.1 h
 have h1:((l.take i).map f).length=i:=by simp;omega
 have h2:(mj f l i).take i=(l.take i).map f:=by rw [mj,List.take_append_of_le_length (by omega),List.take_of_length_le (by omega)]
 have h3:(mj f l i).drop (i+1)=l.drop (i+1):=by
  rw [mj,List.drop_append,List.drop_eq_nil_of_le (by omega),h1]
  simp
 rw [h2,h3,mj,List.take_succ_eq_append_getElem hi,List.map_append]
 rfl
theorem ac8 {α:Type} (f : α → α) (l:List α):mj f l l.length=l.map f:=by simp [mj]
noncomputable def ji (t:UInt16) (d:bf):bf:=if 0<(cj t).names then { d with names:=d.names.map dy } else d
theorem Zm (t:UInt16) (d:bf) (hd:cd d):wl PP [O5,aks] 0 (Tryz.f162.body.getD .skip) (cy PP Tryz.f162.results.toList (fun r st=>(r1 aw).get true st.h r=some (ji t d))) (cf 0 [bj.val false t,aw.val false d]) (bk []):=by
 have hl:=hd.lens
 have l2:=hl.2.1
 have l3:=hl.2.2.1
 have l4:=hl.2.2.2
 unfold Tryz.f162
 simp only [ep,ct]
 simp only [↓wR,RA,simprocAttr,TF]
 refine fk (T:=[Xa,Xj,acd,Lb]) (ai.cons (ak Ew) (ai.cons (ak E9) (ai.cons (ak Fq) (ai.cons (ak yk) (ai.nil PP))))) mixed Tryz.func107 rfl (by kernel_rfl) (by kernel_rfl) (by kernel_rfl) (by kernel_rfl) ?_;unfold Tryz.f107
 simp only [↓wR,RA,simprocAttr,TF]
 refine ⟨by kernel_rfl,.inl ?_⟩
 simp only [↓wR,RA,simprocAttr,TF,tz,tq,wg,l2,l3,l4]
 refine ⟨by kernel_rfl,?_⟩
 refine fq [2,17,18,19,3] (fun (x:List Name)=>[.ptr 2 0,.vl false 1 (d.names.map (aj.val false)),.sc (.int .i64 (d.names.length)),.sc (.int .i64 (x.length)),.ptr 3 0]) (fun x=>[some (.row [.vl false 1 (d.names.map (aj.val false)),.vl false 1 (d.nums.map (br.val false)),.vl false 1 (d.texts.map (aq.val false)),.vl false 1 (d.raw.map (ay.val false))] 0 2 101),some (.row [.sc (.slice none 0 0),.sc (.slice none 0 0),.sc (.slice none 0 0),.sc (.slice none 0 0)] 0 2 101),some (.row [.sc (.slice none 0 0),.sc (.slice none 0 0),.sc (.slice none 0 0),.sc (.slice none 0 0)] 0 2 101),some (.row [.sl 4 0 x.length 1,.vl true 1 (d.nums.map (br.val false)),.vl true 1 (d.texts.map (aq.val false)),.vl true 1 (d.raw.map (ay.val false))] 0 2 101),some (.row (x.map (aj.val true)) 0 0 24)]) (fun x=>x.length≤d.names.length∧x++d.names.drop x.length=d.names) (fun x=>d.names.length - x.length) [] ⟨Nat.zero_le _,rfl⟩ (by simp only [↓wR,RA,simprocAttr,TF];(refine jf.lax [] (by first|exact Nat.le_of_ble_eq_true rfl|(simp [c8];omega)) ?_ ?_<;>repeat' first|exact dv.nil|exact cg.nil|exact eh.same _|exact eh.nil _ _ _|exact eh.mw _ _|exact cg.refl _ _|apply dv.cons|apply cg.ghost|apply cg.same|apply cg.row)) ?_
 rintro x ⟨hi,hx⟩
 simp only [↓wR,RA,simprocAttr,TF]
 rw [a9];refine ⟨fun h=>?_,fun h=>?_⟩
 ·obtain ⟨c,hc,hd1,hlt⟩:=ee (decide_eq_true h)
  rw [hd1] at hx
  have hlim:(x.length+1) * 24≤140737488355328:=by omega
  simp only [↓wR,RA,simprocAttr,TF,h,hc]
  refine ⟨by kernel_rfl,.inl ?_⟩
  simp only [↓wR,RA,simprocAttr,TF,qy,hd.name c (List.mem_of_getElem? hc),hlim]
  refine ⟨by kernel_rfl,?_⟩
  exact ⟨x++[c],⟨by simp;omega,by simpa using hx⟩,by simp;omega,by (first|rfl|trivial|omega|((try (simp (disch:=omega) only [ag]));(try (simp only [FB]));first|done|rfl|omega)),by (first|rfl|trivial|omega|((try (simp (disch:=omega) only [ag]));(try (simp only [FB]));first|done|rfl|omega))⟩
 rw [gp (decide_eq_false h)] at hx
 rw [List.append_nil] at hx
 subst hx
 simp only [↓wR,RA,simprocAttr,TF,h,zw,Ah]
 unfold ji
 clear hi h
 rw [a9];refine ⟨fun h0=>?_,fun h0=>?_⟩
 ·rw [if_pos h0]
  simp only [↓wR,RA,simprocAttr,TF,h0]
  refine de [4,5,15,16,17] (fun (i:Nat)=>[.ptr 0 0,.ptr 1 0,.sl 2 0 d.names.length 1,.sc (.int .i64 (d.names.length)),.sc (.int .i64 (i))]) (fun i=>[some (.row [.sc (.slice none 0 0),.sc (.slice none 0 0),.sc (.slice none 0 0),.sc (.slice none 0 0)] 0 2 101),some (.row [.sl 2 0 d.names.length 1,.vl true 1 (d.nums.map (br.val false)),.vl true 1 (d.texts.map (aq.val false)),.vl true 1 (d.raw.map (ay.val false))] 0 2 101),some (.row ((mj dy d.names i).map (aj.val true)) 0 0 24)]) (fun i=>i≤d.names.length) (fun i=>d.names.length - i) 0 (Nat.zero_le _) (by simp only [↓wR,RA,simprocAttr,TF]<;>rfl) (by simp only [↓wR,RA,simprocAttr,TF]<;>rfl) ?_
  intro i hi
  simp only [↓wR,RA,simprocAttr,TF]
  rw [a9];refine ⟨fun h=>?_,fun h=>?_⟩
  ·obtain ⟨c,hc,hd1,hlt⟩:=ee (decide_eq_true h)
   have hs:=adb dy hc
   have hlen:=aej dy d.names i
   have hlt':i+1≤d.names.length:=hlt
   simp only [↓wR,RA,simprocAttr,TF,h,hs,hlt]
   refine ⟨by kernel_rfl,.inl ?_⟩
   simp only [↓wR,RA,simprocAttr,TF,h,hlt,hlt',hlen,xw,hd.name c (List.mem_of_getElem? hc)]
   refine ⟨by kernel_rfl,i+1,hlt,by omega,by (first|rfl|trivial|omega|((try (simp (disch:=omega) only [ag]));(try (simp only [FB]));first|done|rfl|omega)),?_⟩
   rw [← ac7 dy hc];simp only [List.map_append,List.map_cons,List.map_nil]
  ·have hin:i=d.names.length:=by omega
   subst hin
   rw [ac8]
   have hml:(d.names.map dy).length=d.names.length:=List.length_map _
   generalize d.names.map dy=m at hml ⊢
   simp only [↓wR,RA,simprocAttr,TF,h,hml]
   rfl
 ·rw [if_neg h0]
  simp only [↓wR,RA,simprocAttr,TF,h0]
noncomputable def xt (x:UInt16 × bf × Unit):Option AV:=if cd x.2.1 then some ((r1 aw).E true (ji x.1 x.2.1)) else none
set_option maxRecDepth 2000000 in
theorem Td (x:UInt16 × bf × Unit) (r:AV) (h:xt x=some r):bb PP 162 ((aC bj (aC aw a0)).E x) r:=by
 by_cases hc:cd x.2.1
 case neg=>simp only [xt,if_neg hc] at h;cases h
 simp only [xt,if_pos hc] at h
 cases h
 exact au (ai.cons (ak zy) (ai.cons (ak Th) (ai.nil PP))) Tryz.func162 (by kernel_rfl) (by kernel_rfl) (by kernel_rfl) (Nat.le_of_ble_eq_true (by kernel_rfl)) (r1 aw) true (ji x.1 x.2.1) (Zm x.1 x.2.1 hc)
noncomputable abbrev alv:Nat × Bool × (List AV→M AV):=(162,true,cx (aC bj (aC aw a0)) xt)
def il:List Name→Int
 | []=>0
 |n::r=>if da n≠0 then da n else il r
noncomputable def du (t:UInt16) (d:bf):Int:=
 if jv t=true then 6 else if n5 (cj t) t d=false then 7 else if il d.names≠0 then il d.names else if 65535<(jx t d).length then 3 else 0
theorem Jd {l:List Name} {i:Nat} {c:Name} (h:l.drop i=c::l.drop (i+1)):il (l.drop i)=if da c≠0 then da c else il (l.drop (i+1)):=by rw [h];rfl
theorem Wu (t:UInt16) (d:bf) (hd:cd d):wl PP [arb,O5,asj,Rf,M4] 0 (Tryz.f158.body.getD .skip) (cy PP Tryz.f158.results.toList (fun r st=>(r1 (bo .i64)).get true st.h r=some (du t d))) (cf 0 [bj.val false t,aw.val false d]) (bk []):=by
 have hs:=u4 t
 have hl:=hd.lens
 unfold Tryz.f158
 simp only [ep,ct]
 simp only [↓wR,RA,simprocAttr,TF,P3]
 unfold du
 rw [dg];refine ⟨fun hb=>?_,fun hb=>?_⟩
 ·rw [if_pos hb]
  simp only [↓wR,RA,simprocAttr,TF,hb]
 rw [if_neg (by rw [hb];decide)]
 simp only [↓wR,RA,simprocAttr,TF,hb]
 refine ⟨by kernel_rfl,.inl ?_⟩
 simp only [↓wR,RA,simprocAttr,TF,zw,G8,hs,hd]
 refine ⟨by kernel_rfl,?_⟩
 rw [dg];refine ⟨fun hf=>?_,fun hf=>?_⟩
 ·rw [if_pos (by simpa using hf)]
  simp only [↓wR,RA,simprocAttr,TF,hf]
 have hf':n5 (cj t) t d=true:=by simpa using hf
 rw [if_neg (by rw [hf'];decide)]
 simp only [↓wR,RA,simprocAttr,TF,hf]
 refine de [0,3,17,18,19] (fun (i:Nat)=>[.sc (.int .u16 t.toNat),.ptr 0 0,.vl false 1 (d.names.map (aj.val false)),.sc (.int .i64 (d.names.length)),.sc (.int .i64 (i))]) (fun _=>[some (.row [.vl false 1 (d.names.map (aj.val false)),.vl false 1 (d.nums.map (br.val false)),.vl false 1 (d.texts.map (aq.val false)),.vl false 1 (d.raw.map (ay.val false))] 0 2 101)]) (fun i=>i≤d.names.length∧il d.names=il (d.names.drop i)) (fun i=>d.names.length - i) 0 ⟨Nat.zero_le _,rfl⟩ (by simp only [↓wR,RA,simprocAttr,TF]<;>rfl) (by simp only [↓wR,RA,simprocAttr,TF]<;>rfl) ?_
 rintro i ⟨hi,hx⟩
 simp only [↓wR,RA,simprocAttr,TF]
 rw [a9];refine ⟨fun h=>?_,fun h=>?_⟩
 ·obtain ⟨c,hc,hd1,hlt⟩:=ee (decide_eq_true h)
  rw [Jd hd1] at hx
  simp only [↓wR,RA,simprocAttr,TF,h,hc,so,(hd.name c (List.mem_of_getElem? hc)).fit]
  rw [dg];refine ⟨fun h1=>?_,fun h1=>?_⟩
  ·have he:da c≠0:=by simpa using h1
   rw [if_pos he] at hx
   rw [if_pos (by rw [hx];exact he),hx]
   simp only [↓wR,RA,simprocAttr,TF,h1]
  ·have he:da c=0:=by simpa using h1
   rw [if_neg (by omega)] at hx
   simp only [↓wR,RA,simprocAttr,TF,h1];repeat (simp (disch:=omega) only [ag,bz,bw,bu,ca];try simp only [↓wR,RA,simprocAttr,TF,h1])
   exact ⟨i+1,⟨hlt,hx⟩,by omega,by (first|rfl|trivial|omega|((try (simp (disch:=omega) only [ag]));(try (simp only [FB]));first|done|rfl|omega))⟩
 rw [gp (decide_eq_false h)] at hx
 rw [if_neg (by rw [hx];decide)]
 simp only [↓wR,RA,simprocAttr,TF,h,qd,hd]
 rw [a9];refine ⟨fun h2=>?_,fun h2=>?_⟩
 ·rw [if_pos (by omega)]
  simp only [↓wR,RA,simprocAttr,TF,h2]
 ·rw [if_neg (by omega)]
  simp only [↓wR,RA,simprocAttr,TF,h2]
noncomputable def o8 (x:UInt16 × bf × Unit):Option AV:=if cd x.2.1 then some ((r1 (bo .i64)).E true (du x.1 x.2.1)) else none
set_option maxRecDepth 2000000 in
theorem Dd (x:UInt16 × bf × Unit) (r:AV) (h:o8 x=some r):bb PP 158 ((aC bj (aC aw a0)).E x) r:=by
 by_cases hc:cd x.2.1
 case neg=>simp only [o8,if_neg hc] at h;cases h
 simp only [o8,if_pos hc] at h
 cases h
 exact au (ai.cons (ak Zw) (ai.cons (ak zy) (ai.cons (ak ac9) (ai.cons (ak Dc) (ai.cons (ak Bp) (ai.nil PP)))))) Tryz.func158 (by kernel_rfl) (by kernel_rfl) (by kernel_rfl) (Nat.le_of_ble_eq_true (by kernel_rfl)) (r1 (bo .i64)) true (du x.1 x.2.1) (Wu x.1 x.2.1 hc)
noncomputable abbrev Qq:Nat × Bool × (List AV→M AV):=(158,true,cx (aC bj (aC aw a0)) o8)
noncomputable def Am (t:UInt16) (d:bf):List UInt8:=if du t d≠0 then [] else jx t d
theorem Wg (t:UInt16) (d:bf) (hd:cd d):wl PP [Qq,M4] 0 (Tryz.f161.body.getD .skip) (cy PP Tryz.f161.results.toList (fun r st=>(r2 (bh ay) (bo .i64)).get false st.h r=some (Am t d,du t d))) (cf 0 [bj.val false t,aw.val false d]) (bk []):=by
 unfold Tryz.f161
 simp only [ep,ct]
 simp only [↓wR,RA,simprocAttr,TF,o8,hd]
 unfold Am
 rw [dg];refine ⟨fun h=>?_,fun h=>?_⟩
 ·have he:du t d≠0:=by simpa using h
  rw [if_pos he]
  simp only [↓wR,RA,simprocAttr,TF,h]
 ·have he:du t d=0:=by simpa using h
  rw [if_neg (by omega)]
  simp only [↓wR,RA,simprocAttr,TF,h,qd,hd,he]
noncomputable def uy (x:UInt16 × bf × Unit):Option AV:=if cd x.2.1 then some ((r2 (bh ay) (bo .i64)).E false ((Am x.1 x.2.1,du x.1 x.2.1))) else none
set_option maxRecDepth 2000000 in
theorem Pd (x:UInt16 × bf × Unit) (r:AV) (h:uy x=some r):bb PP 161 ((aC bj (aC aw a0)).E x) r:=by
 by_cases hc:cd x.2.1
 case neg=>simp only [uy,if_neg hc] at h;cases h
 simp only [uy,if_pos hc] at h
 cases h
 exact au (ai.cons (ak Dd) (ai.cons (ak Bp) (ai.nil PP))) Tryz.func161 (by kernel_rfl) (by kernel_rfl) (by kernel_rfl) (Nat.le_of_ble_eq_true (by kernel_rfl)) (r2 (bh ay) (bo .i64)) false ((Am x.1 x.2.1,du x.1 x.2.1)) (Wg x.1 x.2.1 hc)
noncomputable abbrev aiw:Nat × Bool × (List AV→M AV):=(161,true,cx (aC bj (aC aw a0)) uy)
theorem aji (args:List AV):yq PP 187 args (Cx.i5 args):=
 Cx.zr (fn:=(PP.funcs[187]?).getD default) (by kernel_rfl) (by kernel_rfl) (by kernel_rfl) (by kernel_rfl) (by kernel_rfl) args
noncomputable abbrev ari:Nat × Bool × (List AV→M AV):=(187,true,Cx.i5)
theorem an8:ai PP [ari]:=ai.cons aji (ai.nil PP)
noncomputable def P9 (a b:List UInt8):Int:=Lib.compareBytes a b
theorem Mb (a b:List UInt8):wl PP [ari] 0 (Tryz.f163.body.getD .skip) (cy PP Tryz.f163.results.toList (fun r st=>(r1 (bo .i64)).get true st.h r=some (P9 a b))) (cf 0 [(bh ay).val false a,(bh ay).val false b]) (bk []):=by
 unfold Tryz.f163
 simp only [kx]
 simp only [↓wR,RA,simprocAttr,TF,P9]
noncomputable def tg (x:List UInt8 × List UInt8 × Unit):Option AV:=some ((r1 (bo .i64)).E true (P9 x.1 x.2.1))
theorem Iu (x:List UInt8 × List UInt8 × Unit) (r:AV) (h:tg x=some r):bb PP 163 ((aC (bh ay) (aC (bh ay) a0)).E x) r:=by
 cases h
 exact au an8 Tryz.func163 (by kernel_rfl) (by kernel_rfl) (by kernel_rfl) (Nat.le_of_ble_eq_true (by kernel_rfl)) (r1 (bo .i64)) true (P9 x.1 x.2.1) (Mb x.1 x.2.1)
noncomputable abbrev U7:Nat × Bool × (List AV→M AV):=(163,true,cx (aC (bh ay) (aC (bh ay) a0)) tg)
theorem A0 (s:ByteArray):(fold s).size=s.size:=by
 show (s.data.toList.map low).toArray.size=s.data.size
 simp
theorem wm (n:Name):bp (dy n)=bp n:=by
 unfold bp dy
 rw [List.foldl_map]
 simp only [A0]
theorem agb (l:List Name):lj bp (l.map dy)=lj bp l:=by
 induction l with
 |nil=>rfl
 |cons a l ih=>simp only [lj,List.map_cons,List.foldr_cons,wm] at ih ⊢;rw [ih]
theorem cd.fold {d:bf} (h:cd d) (t:UInt16):cd (ji t d):=by
 unfold ji
 split
 ·unfold cd Ae at *
  simp only [agb];exact h
 ·exact h
noncomputable def yc (t:UInt16) (a b:bf):Int:=if du t (ji t a)≠0∨du t (ji t b)≠0 then 0 else P9 (Am t (ji t a)) (Am t (ji t b))
noncomputable def s9 (t:UInt16) (a b:bf):Bool:=decide (du t a=0) && decide (du t b=0) && decide (yc t a b=0)
theorem Pq (t:UInt16) (a b:bf) (ha:cd a) (hb:cd b):wl PP [alv,aiw,U7] 0 (Tryz.f123.body.getD .skip) (cy PP Tryz.f123.results.toList (fun r st=>(r1 (bo .i64)).get true st.h r=some (yc t a b))) (cf 0 [bj.val false t,aw.val false a,aw.val false b]) (bk []):=by
 have fa:=ha.fold t
 have fb:=hb.fold t
 unfold Tryz.f123
 simp only [ep,ct]
 simp only [↓wR,RA,simprocAttr,TF,xt,uy,tg,ha,hb,fa,fb]
 unfold yc
 rw [dg];refine ⟨fun h=>?_,fun h=>?_⟩
 ·have he:du t (ji t a)≠0:=by simpa using h
  rw [if_pos (.inl he)]
  simp only [↓wR,RA,simprocAttr,TF,h]
 have he:du t (ji t a)=0:=by simpa using h
 simp only [↓wR,RA,simprocAttr,TF,h]
 rw [dg];refine ⟨fun h2=>?_,fun h2=>?_⟩
 ·have he2:du t (ji t b)≠0:=by simpa using h2
  rw [if_pos (.inr he2)]
  simp only [↓wR,RA,simprocAttr,TF,h2]
 ·have he2:du t (ji t b)=0:=by simpa using h2
  rw [if_neg (by omega)]
  simp only [↓wR,RA,simprocAttr,TF,h2,tg]
noncomputable def rk (x:UInt16 × bf × bf × Unit):Option AV:=if cd x.2.1∧cd x.2.2.1 then some ((r1 (bo .i64)).E true (yc x.1 x.2.1 x.2.2.1)) else none
set_option maxRecDepth 2000000 in
theorem Lc (x:UInt16 × bf × bf × Unit) (r:AV) (h:rk x=some r):bb PP 123 ((aC bj (aC aw (aC aw a0))).E x) r:=by
 by_cases hc:cd x.2.1∧cd x.2.2.1
 case neg=>simp only [rk,if_neg hc] at h;cases h
 simp only [rk,if_pos hc] at h
 cases h
 exact au (ai.cons (ak Td) (ai.cons (ak Pd) (ai.cons (ak Iu) (ai.nil PP)))) Tryz.func123 (by kernel_rfl) (by kernel_rfl) (by kernel_rfl) (Nat.le_of_ble_eq_true (by kernel_rfl)) (r1 (bo .i64)) true (yc x.1 x.2.1 x.2.2.1) (Pq x.1 x.2.1 x.2.2.1 hc.1 hc.2)
noncomputable abbrev Z0:Nat × Bool × (List AV→M AV):=(123,true,cx (aC bj (aC aw (aC aw a0))) rk)
theorem aan (t:UInt16) (a b:bf) (ha:cd a) (hb:cd b):wl PP [Qq,Z0] 0 (Tryz.f155.body.getD .skip) (cy PP Tryz.f155.results.toList (fun r st=>(r1 bc).get true st.h r=some (s9 t a b))) (cf 0 [bj.val false t,aw.val false a,aw.val false b]) (bk []):=by
 unfold Tryz.f155
 simp only [ep,ct]
 simp only [↓wR,RA,simprocAttr,TF,o8,ha,hb]
 unfold s9
 rw [cr];refine ⟨fun ⟨h,e⟩=>?_,fun ⟨h,e⟩=>?_⟩
 ·rw [decide_eq_true e]
  simp only [↓wR,RA,simprocAttr,TF,h,o8,ha,hb]
  rw [cr];refine ⟨fun ⟨h2,e2⟩=>?_,fun ⟨h2,e2⟩=>?_⟩
  ·rw [decide_eq_true e2]
   simp only [↓wR,RA,simprocAttr,TF,h2,rk,ha,hb]
   rfl
  ·rw [decide_eq_false e2]
   simp only [↓wR,RA,simprocAttr,TF,h2]
   rfl
 ·rw [decide_eq_false e]
  simp only [↓wR,RA,simprocAttr,TF,h]
  rfl
noncomputable def xq (x:UInt16 × bf × bf × Unit):Option AV:=if cd x.2.1∧cd x.2.2.1 then some ((r1 bc).E true (s9 x.1 x.2.1 x.2.2.1)) else none
set_option maxRecDepth 2000000 in
theorem Tu (x:UInt16 × bf × bf × Unit) (r:AV) (h:xq x=some r):bb PP 155 ((aC bj (aC aw (aC aw a0))).E x) r:=by
 by_cases hc:cd x.2.1∧cd x.2.2.1
 case neg=>simp only [xq,if_neg hc] at h;cases h
 simp only [xq,if_pos hc] at h
 cases h
 exact au (ai.cons (ak Dd) (ai.cons (ak Lc) (ai.nil PP))) Tryz.func155 (by kernel_rfl) (by kernel_rfl) (by kernel_rfl) (Nat.le_of_ble_eq_true (by kernel_rfl)) (r1 bc) true (s9 x.1 x.2.1 x.2.2.1) (aan x.1 x.2.1 x.2.2.1 hc.1 hc.2)
noncomputable abbrev aj4:Nat × Bool × (List AV→M AV):=(155,true,cx (aC bj (aC aw (aC aw a0))) xq)
end Go.Proofs.YtgencolcibpcaaaGreat
end
section
set_option maxRecDepth 100000
namespace Go.Vm
variable [TK]
noncomputable section
theorem anh {α:Type} (C:cw α) (fr:Bool) (h:Tr ba) (l:List AV) (ha:C.agg=true):C.dec fr h l=C.ga fr h (.agg l):=by
 rw [Ea _ _ _ _ rfl (by rw [ha];rfl)];rfl
theorem as5 {α β:Type} (A:cw α) (B:cw β) (fr:Bool) (h:Tr ba) (l:List AV):(k6 A B).dec fr h l=match A.dec fr h (l.take A.sz),B.dec fr h (l.drop A.sz) with|some x,some y=>some (x,y)|_,_=>none:=rfl
theorem ase {α:Type} (C:cw α) (fr h) (x:AV):(bh C).dec fr h [x]=gw C fr h x:=rfl
theorem ar4 (fr h) (x:AV):aj.dec fr h [x]=gw aq fr h x:=rfl
theorem Ez (k fr h n cells kk st et) (hn:n=cells.length) (hro:Bo fr st 1 (.int k) et=true):j9 (bo k) fr h 0 n (.row cells kk st et)=mi (bo k) fr h cells:=se (bo k) rfl fr h n cells kk st et hn hro
def vn (n:Nat) (r:AV) (st:St):List Nat:=reach st.h ec (r.names++ku st.h (di 0 n)) (di 0 n)
def Ff (n:Nat) (r:AV) (st:St):AV:=r.db (fun o=>idx (vn n r st) o 0)
def z9 (n:Nat) (r:AV) (st:St):St:=bk (ig st.h (fun o=>idx (vn n r st) o 0) (vn n r st))
theorem aby {g g':Gh} {st st':St} {w w':World} {r:AV} {v:Value} (hn:st.nx≤1000) (hfr:∀ o,st.nx≤o→g.inj o=none) (hs:Step g st.h w st.nx st'.nx g' st'.h w') (hok:Ok g' st'.h w') (hr:Rel g' w' r v) :
 ∃ g'',st.nx≤(z9 st.nx r st').nx∧Step g st.h w st.nx (z9 st.nx r st').nx g'' (z9 st.nx r st').h w'∧Ok g'' (z9 st.nx r st').h w'∧Rel g'' w' (Ff st.nx r st') v:=by
 have hN:=tu st'.h ec (r.names++ku st'.h (di 0 st.nx)) (di 0 st.nx) (mn _ _)
 change (vn st.nx r st').Nodup∧(∃ q,vn st.nx r st'=di 0 st.nx++q)∧(vn st.nx r st').length≤_ at hN
 have hτ:∀ o p,(fun o=>idx (vn st.nx r st') o 0) o=some p→(vn st.nx r st')[p]? = some o:=fun o p h=>P4 _ o p h
 unfold z9 Ff
 generalize vn st.nx r st'=N at hN hτ
 obtain ⟨hnd,⟨rest,hpre⟩,hlen⟩:=hN
 rw [gh] at hlen
 have hlim:N.length≤c8:=by simp only [ec,c8] at *;omega
 have dp:∀ i x,(bk (ig st'.h (fun o=>idx N o 0) N)).h.get i=some x→∃ o y,N[i]? = some o∧st'.h.get o=some y∧y.db (fun o=>idx N o 0)=some x:=by
  intro i x hx
  simp only [bk] at hx
  rw [re _ _ _ (by rw [gi];omega),if_pos (Nat.zero_le _),Nat.sub_zero,sm] at hx
  cases hi:N[i]? with
  |none=>rw [hi] at hx;cases hx
  |some o=>
   rw [hi] at hx
   simp only [Option.map_some,Option.join_some] at hx
   cases hy:st'.h.get o with
   |none=>rw [hy] at hx;cases hx
   |some y=>rw [hy] at hx;exact ⟨o,y,rfl,hy,hx⟩
 have hinj:∀ i o,N[i]? = some o→(g'.db N).inj i=g'.inj o:=fun i o h=>by simp [Gh.db,h]
 have hlow:∀ o,o<st.nx→N[o]? = some o:=fun o ho=>by rw [hpre,List.getElem?_append_left (by rw [gh];exact ho),za _ _ _ ho,Nat.zero_add]
 have hnx:(bk (ig st'.h (fun o=>idx N o 0) N)).nx=N.length:=by simp only [bk,gi]
 have hle:st.nx≤N.length:=by rw [hpre,List.length_append,gh];omega
 rw [hnx]
 refine ⟨g'.db N,hle,⟨⟨hs.ext.b0,fun o p ho=>?_,hs.ext.K,hs.ext.cell,hs.ext.ij,hs.ext.lp,hs.ext.whole⟩,hs.size,hs.os,hs.tape,hs.output,hs.frame,fun o ho hr=>?_,fun i b base hi hj=>?_,hs.l5⟩,⟨hok.size,fun i x hx=>?_,fun i j x y b base base' hij hx hy hb hb'=>?_,hok.K⟩,hr.db hτ⟩
 ·have hlt:o<st.nx:=by
   rcases Nat.lt_or_ge o st.nx with h|h
   ·exact h
   ·rw [hfr o h] at ho;cases ho
  rw [hinj o o (hlow o hlt)];exact hs.ext.inj o p ho
 ·rcases Nat.lt_or_ge o st.nx with h|h
  ·rw [hinj o o (hlow o h)];exact hs.fresh o ho (by omega)
  ·simp [Gh.db,List.getElem?_eq_none (show N.length≤o by omega)]
 ·obtain ⟨x,hx⟩:=Option.isSome_iff_exists.1 hi
  obtain ⟨o,y,h1,h2,_⟩:=dp i x hx
  rw [hinj i o h1] at hj
  exact hs.own o b base (by rw [h2];rfl) hj
 ·obtain ⟨o,y,h1,h2,h3⟩:=dp i x hx
  refine (hok.nw o y h2).imp (fun q=>⟨by rw [hinj i o h1];exact q.1,by obtain ⟨s0,e0,rfl⟩:=q.2;simp only [ba.db,AV.db.go,Option.some.injEq] at h3;exact ⟨s0,e0,h3.symm⟩⟩) ?_
  rintro ⟨b,base,q1,q2,q3⟩
  exact ⟨b,base,by rw [hinj i o h1];exact q1,q2,q3.db hτ h3⟩
 ·obtain ⟨o,y1,h1,h2,_⟩:=dp i x hx
  obtain ⟨o',y2,h1',h2',_⟩:=dp j y hy
  rw [hinj i o h1] at hb
  rw [hinj j o' h1'] at hb'
  have hne:o≠o':=by
   intro e
   subst e
   obtain ⟨hi,ei⟩:=List.getElem?_eq_some_iff.1 h1
   obtain ⟨hj,ej⟩:=List.getElem?_eq_some_iff.1 h1'
   exact hij ((List.getElem_inj hnd).1 (ei.trans ej.symm))
  exact hok.sep o o' _ _ b base base' hne h2 h2' hb hb'
theorem p0 {P:Program} {f:Nat} {args:List AV} {st:St} {R:AV→St→Prop} (R0:AV→St→Prop) (hn:Nat.ble st.nx 1000=true) (h1:jt P f args st (fun r st'=>R0 (Ff st.nx r st') (z9 st.nx r st'))) (h2:∀ r st',R0 r st'→R r st'):jt P f args st R:=by
 intro g w vs hok hfr hrel
 rcases h1 g w vs hok hfr hrel with ⟨v,w',g',r,st',q1,q2,q3,q4,q5,q6⟩|⟨q1,q2⟩
 ·obtain ⟨g'',p1,p2,p3,p4⟩:=aby (Nat.le_of_ble_eq_true hn) hfr q4 q5 q6
  exact .inl ⟨v,w',g'',_,_,q1,h2 _ _ q2,p1,p2,p3,p4⟩
 ·refine .inr ⟨q1,q2.mono ?_⟩
  rintro e w' ⟨v,g',r,st',rfl,q2,q3,q4,q5,q6⟩
  obtain ⟨g'',p1,p2,p3,p4⟩:=aby (Nat.le_of_ble_eq_true hn) hfr q4 q5 q6
  exact ⟨v,g'',_,_,rfl,h2 _ _ q2,p1,p2,p3,p4⟩
theorem Ep (l) (n:Name):ic (aj.val l n)=some n.length:=by
 rw [ct];show some (List.map (aq.val l) n).length=_;rw [List.length_map]
theorem md5 (a:Nat):a * 5 / 5=a:=by omega
theorem dv4 : 4 / 4=1:=rfl
theorem dv5 : 5 / 5=1:=rfl
theorem Xh (fr h):bj.dec fr h [.sc (.int .u16 0)]=some 0:=rfl
theorem Wv (fr h):br.dec fr h [.sc (.int .u32 0)]=some 0:=rfl
theorem acz (k fr h n):(bo k).dec fr h [.sc (.int k n)]=some n:=(bo k).rt fr h true n (fun _=>rfl)
theorem Ev (l:Bool) (d:bf):(aw.val l d).cells=[.vl l 1 (d.names.map (aj.val l)),.vl l 1 (d.nums.map (br.val l)),.vl l 1 (d.texts.map (aq.val l)),.vl l 1 (d.raw.map (ay.val l))]:=id rfl
theorem Gt (fr h l) (n:Name) (hl:(l || !fr)=true):gw aq fr h (aj.val l n)=some n:=qb aq fr h l n 1 rfl hl
def Uz {α:Type} (C:cw α) (h:Tr ba) (off:Nat) (x:ba):Option α:=
 match x with
 |.row cells _ _ _=>bif Nat.ble (off+C.sz) cells.length then C.dec false h ((cells.drop off).take C.sz) else none
 |_=>none
def O1 {α:Type} (C:cw α) (h:Tr ba) (a:AV):Option α:=
 match a with
 |.ff l=>bif Nat.ble C.sz l.length then C.dec false h (l.take C.sz) else none
 |.ptr o off=>(h.get o).bind (Uz C h off)
 |_=>none
theorem Ky {α:Type} (C:cw α) (h o off):O1 C h (.ptr o off)=(h.get o).bind (Uz C h off):=id rfl
theorem Sr {α:Type} (C:cw α) (h l):O1 C h (.ff l)=bif Nat.ble C.sz l.length then C.dec false h (l.take C.sz) else none:=id rfl
theorem K3 {α:Type} (C:cw α) (h off cells k s e):Uz C h off (.row cells k s e)=bif Nat.ble (off+C.sz) cells.length then C.dec false h ((cells.drop off).take C.sz) else none:=id rfl
theorem apa {α:Type} (C:cw α) {g h w K b0 a v x} (hok:Ok g h w) (hl:rz g h K) (hr:Rel g w a v) (hd:O1 C h a=some x):Rel (gK b0 K) w (.ff (C.cells false x)) v:=by
 have fin:∀ (b off:Nat) (vs:List Value),bg g w ((C.cells false x).map fun _=>AV.bad) vs→bg (gK b0 K) w (C.cells false x) vs→(∀ j u,vs[j]? = some u→K b (off+j)∧w.cell? ⟨b,off+j,none⟩=some u)→Rel (gK b0 K) w (.ff (C.cells false x)) (.pointer (some ⟨b,off,none⟩)):=by
  intro b off vs _ hrl hc
  refine .ff _ b off (fun j=>vs.getD j undef) (fun j a hj=>?_) (fun j a hj=>?_)
  ·obtain ⟨u,hu,_⟩:=hrl.get hj
   have:=hc j u hu
   exact ⟨this.1,by rw [this.2,List.getD_eq_getElem?_getD,hu];rfl⟩
  ·obtain ⟨u,hu,hrel⟩:=hrl.get hj
   show Rel _ _ a (vs.getD j undef)
   rw [List.getD_eq_getElem?_getD,hu];exact hrel
 have bads:∀ vs:List Value,bg (gK b0 K) w (C.cells false x) vs→bg g w ((C.cells false x).map fun _=>AV.bad) vs:=fun vs h=>⟨by simpa using h.1,fun i a v ha _=>by
  rw [List.getElem?_map,Option.map_eq_some_iff] at ha
  obtain ⟨_,_,rfl⟩:=ha
  exact .bad _⟩
 cases hr with
 |ff l b off c h1 h2=>
  rw [Sr] at hd
  cases hb:Nat.ble C.sz l.length with
  |false=>rw [hb] at hd;cases hd
  |true=>
   rw [hb,cond_true] at hd
   have hle:=Nat.le_of_ble_eq_true hb
   have hlist:bg g w (l.take C.sz) (ia 0 C.sz c):=by
    refine ⟨by simp [ia];omega,fun i a v ha hv=>?_⟩
    rw [List.getElem?_take] at ha
    by_cases hi:i<C.sz
    ·rw [if_pos hi] at ha
     simp only [ia,List.getElem?_map,List.getElem?_range hi,Option.map_some,Option.some.injEq,Nat.zero_add] at hv
     subst hv
     exact h2 i a ha
    ·rw [if_neg hi] at ha;cases ha
   have q:=C.ok (b0:=b0) hok hl (fun e=>by cases e) hlist hd
   refine fin b off _ (bads _ q) q (fun j u hu=>?_)
   have hj:j<C.sz:=by have:=(List.getElem?_eq_some_iff.1 hu).1;simpa [ia] using this
   simp only [ia,List.getElem?_map,List.getElem?_range hj,Option.map_some,Option.some.injEq,Nat.zero_add] at hu
   subst hu
   have:=h1 j _ (List.getElem?_eq_getElem (by omega))
   exact ⟨hl.K _ _ this.1,this.2⟩
 |ptr o off b base hi=>
  rw [Ky,Option.bind_eq_some_iff] at hd
  obtain ⟨y,hy,hd⟩:=hd
  obtain ⟨b',base',hi',hbb,hrow⟩:=hok.obj o y hy
  rw [hi] at hi';cases hi'
  cases y with
  |map es=>cases hd
  |loop=>cases hd
  |row cells k st et=>
   rw [K3] at hd
   cases hle:Nat.ble (off+C.sz) cells.length with
   |false=>rw [hle] at hd;cases hd
   |true=>
    rw [hle,cond_true] at hd
    have hle':=Nat.le_of_ble_eq_true hle
    obtain ⟨cs,fz,r1,r2,r3,_⟩:=hrow
    have hpart:bg g w ((cells.drop off).take C.sz) (ia (base+off) C.sz (fun j=>cs.getD j undef)):=by
     refine ⟨by simp [ia];omega,fun i a v ha hv=>?_⟩
     rw [List.getElem?_take,List.getElem?_drop] at ha
     by_cases hil:i<C.sz
     ·rw [if_pos hil] at ha
      obtain ⟨u,hu,hrel⟩:=r3 _ a ha
      simp only [ia,List.getElem?_map,List.getElem?_range hil,Option.map_some,Option.some.injEq] at hv
      subst hv
      rw [Array.getD_eq_getD_getElem?,Nat.add_assoc,hu]
      exact hrel
     ·rw [if_neg hil] at ha;cases ha
    have q:=C.ok (b0:=b0) hok hl (fun e=>by cases e) hpart hd
    refine fin b (base+off) _ (bads _ q) q (fun j u hv=>?_)
    have hj:j<C.sz:=by have:=(List.getElem?_eq_some_iff.1 hv).1;simpa [ia] using this
    simp only [ia,List.getElem?_map,List.getElem?_range hj,Option.map_some,Option.some.injEq] at hv
    obtain ⟨u,hu,_⟩:=r3 (off+j) (cells[off+j]'(by omega)) (by simp)
    have hrows:=hl.rows o cells k st et hy b base hi (off+j) (.inr (by omega))
    rw [← Nat.add_assoc] at hrows hu
    refine ⟨hrows,?_⟩
    rw [gg r1,hu,← hv,Array.getD_eq_getD_getElem?,hu]
    rfl
 |_=>cases hd
def aP {α β:Type} (C:cw α) (R:AC β):AC (α × β) where
 E p:=.ff (C.cells false p.1)::R.E p.2
 D h l:=match l with
  | []=>none
  |a::r=>match O1 C h a,R.D h r with
   |some x,some y=>some (x,y)
   |_,_=>none
 rt h p:=by
  have:O1 C h (.ff (C.cells false p.1))=some p.1:=by
   rw [Sr,C.len,Nat.ble_self_eq_true,cond_true,List.take_of_length_le (by rw [C.len];exact Nat.le_refl _)]
   exact C.rt false h false p.1 (fun e=>by cases e)
  simp only [this,R.rt]
 ok:=by
  intro g h w K b0 l vs x hok hl hr hd
  match l,hd with
  |a::r,hd=>
   simp only at hd
   split at hd
   ·rename_i x1 y1 hx hy
    simp at hd;subst hd
    match vs,hr with
    | [],hr=>have:=hr.1;simp at this
    |v::vs,hr=>exact bg.cons (apa C hok hl hr.head hx) (R.ok hok hl hr.tail hy)
   ·cases hd
theorem api {α β:Type} (C:cw α) (R:AC β) (h:Tr ba) (a:AV) (r:List AV):(aP C R).get h (a::r)=match O1 C h a,R.get h r with|some x,some y=>some (x,y)|_,_=>none:=id rfl
theorem E1 (f) (l:List bf) (d:bf):cellsOf aw f (l++[d])=cellsOf aw f l++[.vl f 1 (d.names.map (aj.val f)),.vl f 1 (d.nums.map (br.val false)),.vl f 1 (d.texts.map (aq.val false)),.vl f 1 (d.raw.map (ay.val false))]:=by rw [wv,Jg];rfl
structure az where
 owner:Name
 type:UInt16
 cls:UInt16
 nl:UInt32
 data:List bf
def Uj (owner:Name) (type:UInt16) (cls:UInt16) (nl:UInt32) (data:List bf):az:=⟨owner,type,cls,nl,data⟩
theorem ac3 (x:az):Uj x.owner x.type x.cls x.nl x.data=x:=id rfl
def ah:cw az:=Da (k6 aj (k6 bj (k6 bj (k6 br (bh aw))))) (fun x=>(x.owner,x.type,x.cls,x.nl,x.data)) (fun p=>⟨p.1,p.2.1,p.2.2.1,p.2.2.2.1,p.2.2.2.2⟩) (fun _=>rfl) (fun _=>rfl)
theorem iq (l:Bool) (x:az):ah.val l x = .agg [.vl l 1 (x.owner.map (aq.val l)),.sc (.int .u16 x.type.toNat),.sc (.int .u16 x.cls.toNat),.sc (.int .u32 x.nl.toNat),.vl l 4 (x.data.map (aw.val l))]:=id rfl
theorem Sv:ah.sz=5:=id rfl
theorem D3 (fr:Bool) (h:Tr ba) (y0 y1 y2 y3 y4:AV):ah.ga fr h (.agg [y0,y1,y2,y3,y4])=match gw aq fr h y0,bj.dec fr h [y1],bj.dec fr h [y2],br.dec fr h [y3],gw aw fr h y4 with
 |some v0,some v1,some v2,some v3,some v4=>some (Uj v0 v1 v2 v3 v4)
 |_,_,_,_,_=>none:=by
 rw [Ea _ _ _ _ rfl rfl]
 have h1:ah.dec fr h (AV.agg [y0,y1,y2,y3,y4]).cells=Option.map (fun p=>(⟨p.1,p.2.1,p.2.2.1,p.2.2.2.1,p.2.2.2.2⟩:az)) ((k6 aj (k6 bj (k6 bj (k6 br (bh aw))))).dec fr h [y0,y1,y2,y3,y4]):=rfl
 rw [h1]
 simp only [as5,H5,yz,aix,G3,aek,Hw,List.take_succ_cons,List.take_zero,List.drop_succ_cons,List.drop_zero,ase,ar4]
 cases (gw aq fr h y0)<;>cases (bj.dec fr h [y1])<;>cases (bj.dec fr h [y2])<;>cases (br.dec fr h [y3])<;>cases (gw aw fr h y4)<;>rfl
theorem J6 (fr:Bool) (h:Tr ba) (y0 y1 y2 y3 y4:AV):ah.dec fr h [y0,y1,y2,y3,y4]=match gw aq fr h y0,bj.dec fr h [y1],bj.dec fr h [y2],br.dec fr h [y3],gw aw fr h y4 with
 |some v0,some v1,some v2,some v3,some v4=>some (Uj v0 v1 v2 v3 v4)
 |_,_,_,_,_=>none:=(anh ah fr h _ rfl).trans (D3 fr h y0 y1 y2 y3 y4)
theorem Ad (l) (xs:List az) (x:az):cellsOf ah l (xs++[x])=cellsOf ah l xs++[.vl l 1 (x.owner.map (aq.val false)),.sc (.int .u16 x.type.toNat),.sc (.int .u16 x.cls.toNat),.sc (.int .u32 x.nl.toNat),.vl l 4 (x.data.map (aw.val l))]:=by rw [wv,Jg];rfl
structure fy where
 origin:Name
 jb:List az
structure ams where
 addr:UInt32
 adq:List Int
structure Uq where
 adq:List fy
 aso:List ams
 hints:List UInt32
structure T3 where
 kind:Int
 node:Name
 ab9:Name
def Ua (kind:Int) (node:Name) (ab9:Name):T3:=⟨kind,node,ab9⟩
structure ado where
 turn:Int
 jb:List az
 to:Name
def V5 (turn:Int) (jb:List az) (to:Name):ado:=⟨turn,jb,to⟩
structure Gk where
 amz:Int
 aa:Bool
 answer:List az
 authority:List az
 D9:List az
def Sp (amz:Int) (aa:Bool) (answer:List az) (authority:List az) (D9:List az):Gk:=⟨amz,aa,answer,authority,D9⟩
theorem ae:type_of% @Ep∧type_of% @Ez∧type_of% @md5∧type_of% @dv4∧type_of% @dv5∧type_of% @Xh∧type_of% @Wv∧type_of% @acz∧type_of% @Ky∧type_of% @K3∧type_of% @api∧type_of% @Gt∧type_of% @Ev∧type_of% @Jt∧type_of% @j6∧type_of% @uf∧type_of% @ac3∧type_of% @J6∧type_of% @iq∧type_of% @Sv∧type_of% @D3:=
 ⟨@Ep,@Ez,@md5,@dv4,@dv5,@Xh,@Wv,@acz,@Ky,@K3,@api,@Gt,@Ev,@Jt,@j6,@uf,@ac3,@J6,@iq,@Sv,@D3⟩
end
end Go.Vm
end
section
namespace Go.Proofs.YtgencolcibpcaaaGreat
open Go.Vm
set_option maxRecDepth 2000000
noncomputable def lu (t:UInt16) (l:List bf) (d:bf):Bool:=l.any fun x=>s9 t x d
theorem aq4 (t:UInt16) (l:List bf) (d:bf) (hl:∀ x ∈ l,cd x) (hn:l.length≤16777216) (hd:cd d):wl PP [] 0 (Tryz.f112.body.getD .skip) (cy PP Tryz.f112.results.toList (fun r st=>(r1 bc).get true st.h r=some (lu t l d))) (cf 0 [bj.val false t,(bh aw).val false l,aw.val false d]) (bk []):=by
 unfold Tryz.f112
 simp only [kx,ep]
 simp only [↓wR,RA,simprocAttr,TF,ae]
 refine fk (T:=[]) (ai.nil PP) mixed Tryz.func153 rfl (by kernel_rfl) (by kernel_rfl) (by kernel_rfl) (by kernel_rfl) ?_;unfold Tryz.f153
 simp only [↓wR,RA,simprocAttr,TF,ae]
 refine fk (T:=[]) (ai.nil PP) mixed Tryz.func180 rfl (by kernel_rfl) (by kernel_rfl) (by kernel_rfl) (by kernel_rfl) ?_;unfold Tryz.f180
 simp only [↓wR,RA,simprocAttr,TF,ae]
 refine de [0,1,7,8] (fun (i:Nat)=>[.vl false 4 (l.map (aw.val false)),.fn (.func 154) [] [.ptr 0 0,.ptr 1 0],.sc (.int .i64 (l.length)),.sc (.int .i64 (i))]) (fun _=>[some (.row [.sc (.int .u16 t.toNat)] 0 2 26),some (.row [.vl false 1 (d.names.map (aj.val false)),.vl false 1 (d.nums.map (br.val false)),.vl false 1 (d.texts.map (aq.val false)),.vl false 1 (d.raw.map (ay.val false))] 0 2 101)]) (fun i=>i≤l.length∧lu t l d=lu t (l.drop i) d) (fun i=>l.length - i) 0 ⟨Nat.zero_le _,rfl⟩ (by simp only [↓wR,RA,simprocAttr,TF,ae]<;>rfl) (by simp only [↓wR,RA,simprocAttr,TF,ae]<;>rfl) ?_
 rintro i ⟨hi,hx⟩
 simp only [↓wR,RA,simprocAttr,TF,ae]
 rw [a9];refine ⟨fun h=>?_,fun h=>?_⟩
 ·obtain ⟨c,hc,hd1,hlt⟩:=ee (decide_eq_true h)
  have hx':lu t l d=(s9 t c d || lu t (l.drop (i+1)) d):=by rw [hx,hd1];rfl
  simp only [↓wR,RA,simprocAttr,TF,ae,h,hc];repeat (simp (disch:=omega) only [ag,bz,bw,bu,ca];try simp only [↓wR,RA,simprocAttr,TF,ae,h,hc])
  refine fk (T:=[aj4]) (ai.cons (ak Tu) (ai.nil PP)) mixed Tryz.func154 rfl (by kernel_rfl) (by kernel_rfl) (by kernel_rfl) (by kernel_rfl) ?_;unfold Tryz.f154
  simp only [↓wR,RA,simprocAttr,TF,ae,xq,hl c (List.mem_of_getElem? hc),hd]
  rw [dg];refine ⟨fun h1=>?_,fun h1=>?_⟩
  ·rw [h1,Bool.true_or] at hx'
   simp only [↓wR,RA,simprocAttr,TF,ae,h1]
   rw [hx']
   done
  ·rw [h1,Bool.false_or] at hx'
   simp only [↓wR,RA,simprocAttr,TF,ae,h1];repeat (simp (disch:=omega) only [ag,bz,bw,bu,ca];try simp only [↓wR,RA,simprocAttr,TF,ae,h1])
   exact ⟨i+1,⟨hlt,hx'⟩,by omega,by (first|rfl|trivial|omega|((try (simp (disch:=omega) only [ag]));(try (simp only [FB]));first|done|rfl|omega))⟩
 ·rw [gp (decide_eq_false h)] at hx
  simp only [↓wR,RA,simprocAttr,TF,ae,h]
  rw [hx];rfl
def jd (l:List bf):Prop:=lj Ae l≤16777216
instance (l:List bf):Decidable (jd l):=inferInstanceAs (Decidable (_≤_))
theorem jd.mem {l:List bf} (h:jd l):∀ x ∈ l,cd x:=fun x hx=>by
 have h1:Ae x<lj Ae l:=Iq hx
 unfold jd at h;unfold cd;omega
theorem jd.len {l:List bf} (h:jd l):l.length≤16777216:=Nat.le_trans (Ir Ae l) h
noncomputable def Ob (x:UInt16 × List bf × bf × Unit):Option AV:=if jd x.2.1∧cd x.2.2.1 then some ((r1 bc).E true (lu x.1 x.2.1 x.2.2.1)) else none
set_option maxRecDepth 2000000 in
theorem agf (x:UInt16 × List bf × bf × Unit) (r:AV) (h:Ob x=some r):bb PP 112 ((aC bj (aC (bh aw) (aC aw a0))).E x) r:=by
 by_cases hc:jd x.2.1∧cd x.2.2.1
 case neg=>simp only [Ob,if_neg hc] at h;cases h
 simp only [Ob,if_pos hc] at h
 cases h
 exact au (ai.nil PP) Tryz.func112 (by kernel_rfl) (by kernel_rfl) (by kernel_rfl) (Nat.le_of_ble_eq_true (by kernel_rfl)) (r1 bc) true (lu x.1 x.2.1 x.2.2.1) (aq4 x.1 x.2.1 x.2.2.1 hc.1.mem hc.1.len hc.2)
noncomputable abbrev atb:Nat × Bool × (List AV→M AV):=(112,true,cx (aC bj (aC (bh aw) (aC aw a0))) Ob)
def J5 (s:az):Nat:=bp s.owner+lj Ae s.data
def cb (s:az):Prop:=J5 s≤16777216
instance (s:az):Decidable (cb s):=inferInstanceAs (Decidable (_≤_))
theorem cb.owner {s:az} (h:cb s):cp s.owner:=by unfold cb J5 at h;unfold cp;omega
theorem cb.data {s:az} (h:cb s):jd s.data:=by unfold cb J5 at h;unfold jd;omega
noncomputable def W4 (t:UInt16):List bf→List bf→Int
 |_,[]=>0
 |pre,d::r=>if du t d≠0 then du t d else if lu t pre d=true then 10 else W4 t (pre++[d]) r
noncomputable def apf (s:az):Int:=
 if da s.owner≠0 then da s.owner else if s.data.length=0 then 9 else if 512<s.data.length then 3 else W4 s.type [] s.data
theorem Wp {S:Nat→Prop} {M b0:Nat} {K:Nat→Nat→Prop} {w:World} {l:List ByteArray} {v:Value} (hS:∀ b,b0≤b→(∀ j,K b j)→S b) (hM:∀ s ∈ l,s.size≤M) (hr:Rel (gK b0 K) w (.vl true 1 (l.map (aq.val true))) v):lf S M w .str v:=by
 refine P5 (l:=true) aq rfl rfl rfl (by decide) (fun x hx c hc s e=>?_) (fun x hx c hc=>?_) hS hr
 ·have hc':c ∈ [AV.sc (.string x)]:=hc
  rw [List.mem_singleton] at hc'
  rw [hc'] at e;cases e
  exact hM _ hx
 ·have hc':c ∈ [AV.sc (.string x)]:=hc
  rw [List.mem_singleton] at hc'
  exact ⟨_,hc'⟩
theorem alm {S:Nat→Prop} {M b0:Nat} {K:Nat→Nat→Prop} {w:World} {l:List UInt32} {v:Value} (hS:∀ b,b0≤b→(∀ j,K b j)→S b) (hr:Rel (gK b0 K) w (.vl true 1 (l.map (br.val true))) v):lf S M w (.int .u32) v:=by
 refine P5 (l:=true) br rfl rfl rfl (by decide) (fun x hx c hc s e=>?_) (fun x hx c hc=>?_) hS hr
 ·have hc':c ∈ [AV.sc (.int .u32 x.toNat)]:=hc
  rw [List.mem_singleton] at hc'
  rw [hc'] at e;cases e
 ·have hc':c ∈ [AV.sc (.int .u32 x.toNat)]:=hc
  rw [List.mem_singleton] at hc'
  exact ⟨_,hc'⟩
theorem aox {S:Nat→Prop} {M b0:Nat} {K:Nat→Nat→Prop} {w:World} {l:List UInt8} {v:Value} (hS:∀ b,b0≤b→(∀ j,K b j)→S b) (hr:Rel (gK b0 K) w (.vl true 1 (l.map (ay.val true))) v):lf S M w (.int .u8) v:=by
 refine P5 (l:=true) ay rfl rfl rfl (by decide) (fun x hx c hc s e=>?_) (fun x hx c hc=>?_) hS hr
 ·have hc':c ∈ [AV.sc (.int .u8 x.toNat)]:=hc
  rw [List.mem_singleton] at hc'
  rw [hc'] at e;cases e
 ·have hc':c ∈ [AV.sc (.int .u8 x.toNat)]:=hc
  rw [List.mem_singleton] at hc'
  exact ⟨_,hc'⟩
theorem size_le (n:Name):∀ s ∈ n,s.size≤bp n:=by
 intro s hs
 obtain ⟨i,hi,rfl⟩:=List.getElem_of_mem hs
 have h1:=yj n i _ (List.getElem?_eq_getElem hi)
 have h2:=(g8 n (i+1)).1
 omega
theorem Rz {S:Nat→Prop} {b0:Nat} {K:Nat→Nat→Prop} {w:World} {n:Name} {v:Value} (hS:∀ b,b0≤b→(∀ j,K b j)→S b) (hn:cp n) (hr:Rel (gK b0 K) w (.vl true 1 (n.map (aq.val true))) v):lf S 16777216 w .str v:=
 Wp hS (fun s hs=>by have:=size_le n s hs;unfold cp at hn;omega) hr
theorem anp {S:Nat→Prop} {b0:Nat} {K:Nat→Nat→Prop} {w:World} {d:bf} {vs:List Value} (hS:∀ b,b0≤b→(∀ j,K b j)→S b) (hd:cd d) (hr:bg (gK b0 K) w (aw.cells true d) vs):Ii S 16777216 16777216 w vs:=by
 have h4:vs.length=4:=hr.1
 match vs,h4,hr with
 | [a,b,c,e],_,hr=>
  have ha:Rel (gK b0 K) w (.vl true 1 (d.names.map (aj.val true))) a:=hr.2 0 _ _ rfl rfl
  have hb:Rel (gK b0 K) w (.vl true 1 (d.nums.map (br.val true))) b:=hr.2 1 _ _ rfl rfl
  have hc:Rel (gK b0 K) w (.vl true 1 (d.texts.map (aq.val true))) c:=hr.2 2 _ _ rfl rfl
  have he:Rel (gK b0 K) w (.vl true 1 (d.raw.map (ay.val true))) e:=hr.2 3 _ _ rfl rfl
  refine ⟨a,b,c,e,rfl,Pw (l:=true) aj rfl hd.lens.1 (fun n hn us hus=>?_) hS ha,alm hS hb,Wp hS (fun s hs=>hd.text s hs) hc,aox hS he⟩
  have h1:us.length=1:=hus.1
  match us,h1,hus with
  | [u],_,hus=>exact ⟨u,rfl,Rz hS (hd.name n hn) hus.head⟩
theorem ajj {S:Nat→Prop} {b0:Nat} {K:Nat→Nat→Prop} {w:World} {s:az} {vs:List Value} (hS:∀ b,b0≤b→(∀ j,K b j)→S b) (hs:cb s) (hr:bg (gK b0 K) w (ah.cells true s) vs):yg S 16777216 16777216 16777216 w vs:=by
 have h5:vs.length=5:=hr.1
 match vs,h5,hr with
 | [o,t,c,u,d],_,hr=>
  have ho:Rel (gK b0 K) w (.vl true 1 (s.owner.map (aq.val true))) o:=hr.2 0 _ _ rfl rfl
  have ht:Rel (gK b0 K) w (.sc (.int .u16 s.type.toNat)) t:=hr.2 1 _ _ rfl rfl
  have hc:Rel (gK b0 K) w (.sc (.int .u16 s.cls.toNat)) c:=hr.2 2 _ _ rfl rfl
  have hu:Rel (gK b0 K) w (.sc (.int .u32 s.nl.toNat)) u:=hr.2 3 _ _ rfl rfl
  have hd:Rel (gK b0 K) w (.vl true 4 (s.data.map (aw.val true))) d:=hr.2 4 _ _ rfl rfl
  refine ⟨o,t,c,u,d,rfl,Rz hS hs.owner ho,by rw [ht.exact rfl];rfl,by rw [hc.exact rfl];rfl,by rw [hu.exact rfl];rfl,Pw (l:=true) aw rfl (hs.data.len) (fun x hx us hus=>anp hS (hs.data.mem x hx) hus) hS hd⟩
theorem aos {S:Nat→Prop} {N b0:Nat} {K:Nat→Nat→Prop} {w:World} {l:List az} {v:Value} (hS:∀ b,b0≤b→(∀ j,K b j)→S b) (hl:∀ s ∈ l,cb s) (hN:l.length≤N) (hr:Rel (gK b0 K) w (.vl true 5 (l.map (ah.val true))) v):jz S N w 5 (yg S 16777216 16777216 16777216) v:=
 Pw (l:=true) ah rfl hN (fun s hs us hus=>ajj hS (hl s hs) hus) hS hr
theorem ajv:TK.sz 31=some 5:=by kernel_rfl
theorem afd (s:az) (hs:cb s):wl PP [Lb,aj5] 0 (Tryz.f53.body.getD .skip) (cy PP Tryz.f53.results.toList (fun r st=>(r1 ah).get true st.h r=some s)) (cf 0 [ah.val false s]) (bk []):=by
 have ho:=hs.owner
 have hd:=hs.data
 have hn:=hd.len
 unfold Tryz.f53
 simp only [iq]
 simp only [↓wR,RA,simprocAttr,TF,ae,qy,ho]
 refine fq [2,13,14,15,3] (fun (x:List bf)=>[.ptr 0 0,.vl false 4 (s.data.map (aw.val false)),.sc (.int .i64 (s.data.length)),.sc (.int .i64 (x.length)),.ptr 1 0]) (fun x=>[some (.row [.sc (.slice none 0 0),.sc (.int .u16 0),.sc (.int .u16 0),.sc (.int .u32 0),.sc (.slice none 0 0)] 0 2 31),some (.row [aj.val true s.owner,.sc (.int .u16 s.type.toNat),.sc (.int .u16 s.cls.toNat),.sc (.int .u32 s.nl.toNat),.sl 2 0 x.length 4] 0 2 31),some (.row (cellsOf aw true x) 0 0 101)]) (fun x=>x.length≤s.data.length∧x++s.data.drop x.length=s.data) (fun x=>s.data.length - x.length) [] ⟨Nat.zero_le _,rfl⟩ (by simp only [↓wR,RA,simprocAttr,TF,ae];(refine jf.lax [] (by first|exact Nat.le_of_ble_eq_true rfl|(simp [c8];omega)) ?_ ?_<;>repeat' first|exact dv.nil|exact cg.nil|exact eh.same _|exact eh.nil _ _ _|exact eh.mw _ _|exact cg.refl _ _|apply dv.cons|apply cg.ghost|apply cg.same|apply cg.row)) ?_
 rintro x ⟨hi,hx⟩
 simp only [↓wR,RA,simprocAttr,TF,ae]
 rw [a9];refine ⟨fun h=>?_,fun h=>?_⟩
 ·obtain ⟨c,hc,hd1,hlt⟩:=ee (decide_eq_true h)
  rw [hd1] at hx
  have hcs:=hd.mem c (List.mem_of_getElem? hc)
  simp only [↓wR,RA,simprocAttr,TF,ae,h,hc]
  refine ⟨by kernel_rfl,.inl ?_⟩
  have hlim:(x.length * 4+4) * 96≤140737488355328:=by omega
  simp only [↓wR,RA,simprocAttr,TF,ae,xl,hcs,hlim]
  refine ⟨by kernel_rfl,x++[c],⟨by simp;omega,by simpa using hx⟩,by simp;omega,by (first|rfl|trivial|omega|((try (simp (disch:=omega) only [ag]));(try (simp only [FB]));first|done|rfl|omega)),?_⟩
  rw [E1,List.length_append];rfl
 ·rw [gp (decide_eq_false h)] at hx
  rw [List.append_nil] at hx
  subst hx
  simp only [↓wR,RA,simprocAttr,TF,ae,h]
noncomputable def qu (x:az × Unit):Option AV:=if cb x.1 then some ((r1 ah).E true (x.1)) else none
set_option maxRecDepth 2000000 in
theorem Hv (x:az × Unit) (r:AV) (h:qu x=some r):bb PP 53 ((aC ah a0).E x) r:=by
 by_cases hc:cb x.1
 case neg=>simp only [qu,if_neg hc] at h;cases h
 simp only [qu,if_pos hc] at h
 cases h
 exact au (ai.cons (ak yk) (ai.cons (ak S7) (ai.nil PP))) Tryz.func53 (by kernel_rfl) (by kernel_rfl) (by kernel_rfl) (Nat.le_of_ble_eq_true (by kernel_rfl)) (r1 ah) true (x.1) (afd x.1 hc)
noncomputable abbrev aa8:Nat × Bool × (List AV→M AV):=(53,true,cx (aC ah a0) qu)
def wtZ (z:fy):Nat:=bp z.origin+lj J5 z.jb
def ap1 (z:fy):Prop:=wtZ z≤16777216
instance (z:fy):Decidable (ap1 z):=inferInstanceAs (Decidable (_≤_))
def anw (n top:Name):Bool:=decide (top.length<n.length) && qo n top
def atV (z:fy) (n:Name):List az:=z.jb.filter fun s=>fm s.owner n
def ao2 (n:Name) (b:Option Name):Bool:=match b with|none=>true|some m=>decide (n.length<m.length)
def am8 (z:fy) (n:Name) (best:Option Name) (s:az):Option Name:=
 if (decide ((s.type.toNat:Int)=2) && (anw s.owner z.origin && (qo n s.owner && ao2 s.owner best)))=true then some s.owner else best
def apj (z:fy) (n:Name):Option Name:=z.jb.foldl (am8 z n) none
def aqo (z:fy) (n:Name):Bool:=qo n z.origin && (fm n z.origin || z.jb.any fun s=>qo s.owner n)
theorem ajc (t:UInt16):wl PP [] 0 (Tryz.f110.body.getD .skip) (cy PP Tryz.f110.results.toList (fun r st=>(r1 bc).get true st.h r=some false)) (cf 0 [bj.val false t]) (bk []):=by
 unfold Tryz.f110
 simp only [↓wR,RA,simprocAttr,TF,ae,bne_self_eq_false]
noncomputable def Oy (x:UInt16 × Unit):Option AV:=some ((r1 bc).E true (false))
set_option maxRecDepth 2000000 in
theorem Zf (x:UInt16 × Unit) (r:AV) (h:Oy x=some r):bb PP 110 ((aC bj a0).E x) r:=by
 cases h
 exact au (ai.nil PP) Tryz.func110 (by kernel_rfl) (by kernel_rfl) (by kernel_rfl) (Nat.le_of_ble_eq_true (by kernel_rfl)) (r1 bc) true (false) (ajc x.1)
noncomputable abbrev apw:Nat × Bool × (List AV→M AV):=(110,true,cx (aC bj a0) Oy)
def o0 (a b:UInt16):Int:=if (a.toNat:Int)<b.toNat then -1 else if (b.toNat:Int)<a.toNat then 1 else 0
theorem anz (a b:UInt16):wl PP [apw] 0 (Tryz.f59.body.getD .skip) (cy PP Tryz.f59.results.toList (fun r st=>(r1 (bo .i64)).get true st.h r=some (o0 a b))) (cf 0 [bj.val false a,bj.val false b]) (bk []):=by
 unfold Tryz.f59
 unfold o0
 simp only [↓wR,RA,simprocAttr,TF,ae,Oy]
 rw [a9];refine ⟨fun h=>?_,fun h=>?_⟩
 ·rw [if_pos h]
  simp only [↓wR,RA,simprocAttr,TF,ae,h]
 ·rw [if_neg h]
  simp only [↓wR,RA,simprocAttr,TF,ae,h]
  rw [a9];refine ⟨fun h2=>?_,fun h2=>?_⟩
  ·rw [if_pos h2]
   simp only [↓wR,RA,simprocAttr,TF,ae,h2]
  ·rw [if_neg h2]
   simp only [↓wR,RA,simprocAttr,TF,ae,h2]
noncomputable def Vi (x:UInt16 × UInt16 × Unit):Option AV:=some ((r1 (bo .i64)).E true (o0 x.1 x.2.1))
set_option maxRecDepth 2000000 in
theorem adv (x:UInt16 × UInt16 × Unit) (r:AV) (h:Vi x=some r):bb PP 59 ((aC bj (aC bj a0)).E x) r:=by
 cases h
 exact au (ai.cons (ak Zf) (ai.nil PP)) Tryz.func59 (by kernel_rfl) (by kernel_rfl) (by kernel_rfl) (Nat.le_of_ble_eq_true (by kernel_rfl)) (r1 (bo .i64)) true (o0 x.1 x.2.1) (anz x.1 x.2.1)
noncomputable abbrev arz:Nat × Bool × (List AV→M AV):=(59,true,cx (aC bj (aC bj a0)) Vi)
def xg:List Int→Int
 | []=>0
 |a::r=>if a≠0 then a else xg r
theorem arq (l:List Int) (hl:l.length≤16777216):wl PP [] 0 (Tryz.f57.body.getD .skip) (cy PP Tryz.f57.results.toList (fun r st=>(r1 (bo .i64)).get true st.h r=some (xg l))) (cf 0 [(bh (bo .i64)).val false l]) (bk []):=by
 unfold Tryz.f57
 rw [kx]
 simp only [↓wR,RA,simprocAttr,TF,ae]
 refine de [3,6,7,8] (fun (i:Nat)=>[.sc (.int .i64 (0)),.vl false 1 (l.map ((bo .i64).val false)),.sc (.int .i64 (l.length)),.sc (.int .i64 (i))]) (fun _=>[]) (fun i=>i≤l.length∧xg l=xg (l.drop i)) (fun i=>l.length - i) 0 ⟨Nat.zero_le _,rfl⟩ (by simp only [↓wR,RA,simprocAttr,TF,ae]<;>rfl) (by simp only [↓wR,RA,simprocAttr,TF,ae]<;>rfl) ?_
 rintro i ⟨hi,hx⟩
 simp only [↓wR,RA,simprocAttr,TF,ae]
 rw [a9];refine ⟨fun h=>?_,fun h=>?_⟩
 ·obtain ⟨c,hc,hd1,hlt⟩:=ee (decide_eq_true h)
  rw [hd1,xg] at hx
  simp only [↓wR,RA,simprocAttr,TF,ae,h,hc]
  rw [dz];refine ⟨fun ⟨h2,e2⟩=>?_,fun ⟨h2,e2⟩=>?_⟩
  ·rw [if_pos e2] at hx
   simp only [↓wR,RA,simprocAttr,TF,ae,h2]
   rw [hx]
  ·rw [if_neg (by omega)] at hx
   simp only [↓wR,RA,simprocAttr,TF,ae,h2];repeat (simp (disch:=omega) only [ag,bz,bw,bu,ca];try simp only [↓wR,RA,simprocAttr,TF,ae,h2])
   exact ⟨i+1,⟨hlt,hx⟩,by omega,by (first|rfl|trivial|omega|((try (simp (disch:=omega) only [ag]));(try (simp only [FB]));first|done|rfl|omega))⟩
 ·rw [gp (decide_eq_false h)] at hx
  simp only [↓wR,RA,simprocAttr,TF,ae,h]
  rw [hx];rfl
noncomputable def X5 (x:List Int × Unit):Option AV:=if x.1.length≤16777216 then some ((r1 (bo .i64)).E true (xg x.1)) else none
set_option maxRecDepth 2000000 in
theorem akw (x:List Int × Unit) (r:AV) (h:X5 x=some r):bb PP 57 ((aC (bh (bo .i64)) a0).E x) r:=by
 by_cases hc:x.1.length≤16777216
 case neg=>simp only [X5,if_neg hc] at h;cases h
 simp only [X5,if_pos hc] at h
 cases h
 exact au (ai.nil PP) Tryz.func57 (by kernel_rfl) (by kernel_rfl) (by kernel_rfl) (Nat.le_of_ble_eq_true (by kernel_rfl)) (r1 (bo .i64)) true (xg x.1) (arq x.1 hc)
noncomputable abbrev orC:Nat × Bool × (List AV→M AV):=(57,true,cx (aC (bh (bo .i64)) a0) X5)
noncomputable def aoo (a b:az):Int:=xg [kj a.owner b.owner,o0 a.type b.type]
noncomputable def ai0 (t:UInt16):List bf→Bool
 |a::b::r=>if 0≤yc t a b then false else ai0 t (b::r)
 |_=>true
noncomputable def aqa (z:fy) (i:Nat) (s:az):Bool:=
 (match i with|0=>true|k+1=>match z.jb[k]? with|some a=>decide (¬ (aoo a s ≥ 0))|none=>true) && ai0 s.type s.data
def aco (i:Nat) (n:Name):Nat→List az→Bool
 |_,[]=>false
 |k,o::r=>(decide (¬ (k:Int)=i) && fm o.owner n) || aco i n (k+1) r
def aqt (z:fy) (i:Nat) (s:az):Bool:=
 if ¬ (s.type.toNat:Int)=5 then true else if ¬ (s.data.length:Int)=1 then false else if fm s.owner z.origin=true then false else !aco i s.owner 0 z.jb
def aps (s:az):Bool:=if ¬ (s.cls.toNat:Int)=1 then false else if (s.type.toNat:Int)=0 then false else if (s.type.toNat:Int)=41 then false else !decide ((s.type.toNat:Int)=255)
def asa (s:az):Bool:=if ¬ (s.type.toNat:Int)=2 then true else match s.owner[0]? with|none=>true|some a=>!decide (a=ad7)
def as6 (z:fy) (s:az):Bool:=
 match apj z s.owner with
 |none=>true
 |some c=>if (s.type.toNat:Int)=1 then true else if (s.type.toNat:Int)=28 then true else if (s.type.toNat:Int)=2 then fm c s.owner else false
def ao9 (z:fy) (p:Nat × Nat) (s:az):Nat × Nat:=
 if (s.type.toNat:Int)=6 then (p.1+1,if (fm s.owner z.origin && decide ((s.data.length:Int)=1))=true then p.2+1 else p.2) else p
def al7 (z:fy):Nat × Nat:=z.jb.foldl (ao9 z) (0,0)
def Ty (b:Bool) (err e:Int):Int:=if e=0∧b=false then err else e
def Dz (err:Int) (p:Nat→az→Bool):Nat→List az→Int→Int
 |_,[],e=>e
 |i,s::r,e=>if e≠0 then e else Dz err p (i+1) r (Ty (p i s) err e)
def aoa (l:List az):Nat:=l.foldl (fun n s=>n+s.data.length) 0
noncomputable def am0:List az→Int→Int
 | [],e=>e
 |s::r,e=>am0 r (if e=0 then apf s else e)
noncomputable def Vo (z:fy):Int:=if da z.origin≠0 then da z.origin else am0 z.jb (Ty (decide (aoa z.jb≤2048)) 3 0)
def ash (z:fy) (l:List az):Bool:=l.any fun s=>decide ((s.type.toNat:Int)=2) && fm s.owner z.origin
def arn (z:fy):Bool:=ash z z.jb
noncomputable def apl (z:fy):Int:=Dz 260 (aqa z) 0 z.jb (Vo z)
noncomputable def aql (z:fy):Int:=Dz 261 (fun _ s=>aps s) 0 z.jb (apl z)
noncomputable def aq0 (z:fy):Int:=Dz 262 (fun _ s=>qo s.owner z.origin) 0 z.jb (aql z)
noncomputable def ap0 (z:fy):Int:=Ty (decide ((al7 z).1=1) && decide ((al7 z).2=1)) 263 (aq0 z)
noncomputable def aqj (z:fy):Int:=Ty (arn z) 264 (ap0 z)
noncomputable def aqf (z:fy):Int:=Dz 265 (aqt z) 0 z.jb (aqj z)
noncomputable def aqg (z:fy):Int:=Dz 266 (fun _ s=>asa s) 0 z.jb (aqf z)
noncomputable def apk (z:fy):Int:=Dz 267 (fun _ s=>as6 z s) 0 z.jb (aqg z)
noncomputable def abx (z:fy):Int:=if Vo z≠0 then Vo z else apk z
end Go.Proofs.YtgencolcibpcaaaGreat
end
section
namespace Go.Proofs.YtgencolcibpcaaaGreat
open Go.Vm
theorem ov {a b:Name}:fm a b=true↔dy a=dy b:=by simp [fm]
theorem Hy:∀ a:List UInt8,Lib.compareBytes a a=0
 | []=>rfl
 |a::r=>by rw [Lib.compareBytes,if_neg (UInt8.lt_irrefl a),if_neg (UInt8.lt_irrefl a)];exact Hy r
theorem Pn:∀ a b:List UInt8,Lib.compareBytes a b=0→a=b
 | [],[],_=>rfl
 | [],_::_,h=>by cases h
 |_::_,[],h=>by cases h
 |a::r,b::q,h=>by
  rw [Lib.compareBytes] at h
  split at h
  ·cases h
  ·rename_i h1
   split at h
   ·cases h
   ·rename_i h2
    rw [UInt8.lt_iff_toNat_lt] at h1 h2
    rw [UInt8.toNat_inj.1 (show a.toNat=b.toNat by omega),Pn r q h]
theorem Xy:∀ a b c:List UInt8,Lib.compareBytes a b<0→Lib.compareBytes b c<0→Lib.compareBytes a c<0
 |_,[],[],_,h=>by cases h
 |_,_::_,[],_,h=>by cases h
 | [],_,_::_,_,_=>by show (-1:Int)<0;decide
 |_::_,[],_::_,h,_=>by cases h
 |a::r,b::q,c::p,h1,h2=>by
  have ih:=Xy r q p
  rw [Lib.compareBytes] at h1 h2 ⊢
  simp only [UInt8.lt_iff_toNat_lt] at h1 h2 ⊢
  split at h1
  ·split at h2
   ·rw [if_pos (by omega)];decide
   ·split at h2
    ·cases h2
    ·rw [if_pos (by omega)];decide
  ·split at h1
   ·cases h1
   ·split at h2
    ·rw [if_pos (by omega)];decide
    ·split at h2
     ·cases h2
     ·rw [if_neg (by omega),if_neg (by omega)];exact ih h1 h2
theorem acn:∀ a b:List UInt8,Lib.compareBytes a b = - Lib.compareBytes b a
 | [],[]=>rfl
 | [],_::_=>rfl
 |_::_,[]=>rfl
 |a::r,b::q=>by
  have ih:=acn r q
  rw [Lib.compareBytes,Lib.compareBytes]
  simp only [UInt8.lt_iff_toNat_lt]
  by_cases h1:a.toNat<b.toNat
  ·rw [if_pos h1,if_neg (show ¬ b.toNat<a.toNat by omega),if_pos h1]
  ·by_cases h2:b.toNat<a.toNat
   ·rw [if_neg h1,if_pos h2,if_pos h2];rfl
   ·rw [if_neg h1,if_neg h2,if_neg h2,if_neg h1];exact ih
theorem aij (a:ByteArray):qe a a=0:=Hy _
theorem Qg {a b:ByteArray} (h:qe a b=0):a=b:=by
 have:=Pn _ _ h
 obtain ⟨⟨a⟩⟩:=a
 obtain ⟨⟨b⟩⟩:=b
 simp only at this
 rw [this]
noncomputable def ki:List ByteArray→List ByteArray→Int
 | [],[]=>0
 | [],_::_=>-1
 |_::_,[]=>1
 |a::r,b::q=>if a=b then ki r q else qe a b
theorem Ss:∀ r q:List ByteArray,ki r q=0↔r=q
 | [],[]=>by simp [ki]
 | [],_::_=>by simp [ki]
 |_::_,[]=>by simp [ki]
 |a::r,b::q=>by
  rw [ki]
  split
  ·rename_i h;rw [Ss r q,h];simp
  ·rename_i h
   constructor
   ·intro e;exact (h (Qg e)).elim
   ·intro e;exact (h (List.cons.inj e).1).elim
theorem M8:∀ r q p:List ByteArray,ki r q<0→ki q p<0→ki r p<0
 |_,[],[],_,h=>by rw [ki] at h;cases h
 |_,_::_,[],_,h=>by rw [ki] at h;cases h
 | [],_,_::_,_,_=>by rw [ki];decide
 |_::_,[],_::_,h,_=>by rw [ki] at h;cases h
 |a::r,b::q,c::p,h1,h2=>by
  have ih:=M8 r q p
  rw [ki] at h1 h2 ⊢
  by_cases e1:a=b
  ·subst e1
   rw [if_pos rfl] at h1
   by_cases e2:a=c
   ·rw [if_pos e2] at h2 ⊢;exact ih h1 h2
   ·rw [if_neg e2] at h2 ⊢;exact h2
  ·rw [if_neg e1] at h1
   by_cases e2:b=c
   ·subst e2
    rw [if_neg e1];exact h1
   ·rw [if_neg e2] at h2
    have h3:qe a c<0:=Xy _ _ _ h1 h2
    rw [if_neg (fun e=>by rw [e,aij] at h3;cases h3)];exact h3
theorem Rk:∀ r q:List ByteArray,ki r q = - ki q r
 | [],[]=>by simp [ki]
 | [],_::_=>by simp [ki]
 |_::_,[]=>by simp [ki]
 |a::r,b::q=>by
  rw [ki,ki]
  by_cases e:a=b
  ·rw [if_pos e,if_pos e.symm];exact Rk r q
  ·rw [if_neg e,if_neg (fun q=>e q.symm)];exact acn _ _
theorem Ux:∀ r q:List ByteArray,(if dr r q=r.length∧dr r q=q.length then (0:Int) else if dr r q=r.length then -1 else if dr r q=q.length then 1 else
 match r[dr r q]?,q[dr r q]? with|some x,some y=>qe (fold x) (fold y)|_,_=>0)=ki (r.map fold) (q.map fold)
 | [],[]=>by simp [dr,ki]
 | [],_::_=>by simp [dr,ki]
 |_::_,[]=>by simp [dr,ki]
 |a::r,b::q=>by
  have ih:=Ux r q
  rw [List.map_cons,List.map_cons,ki]
  by_cases e:fold a=fold b
  ·rw [if_pos e,← ih]
   have hc:dr (a::r) (b::q)=dr r q+1:=by rw [dr,if_pos e]
   simp only [hc,List.length_cons,Nat.add_right_cancel_iff,List.getElem?_cons_succ]
  ·rw [if_neg e]
   have hc:dr (a::r) (b::q)=0:=by rw [dr,if_neg e]
   simp only [hc,List.length_cons,List.getElem?_cons_zero]
   rw [if_neg (by omega),if_neg (by omega),if_neg (by omega)]
theorem xi (a b:Name):kj a b=ki (dy a).reverse (dy b).reverse:=by
 have h:=Ux a.reverse b.reverse
 rw [List.map_reverse,List.map_reverse,List.length_reverse,List.length_reverse] at h
 unfold kj
 change _=ki (a.map fold).reverse (b.map fold).reverse
 rw [← h]
 have hk:common a b=dr a.reverse b.reverse:=rfl
 rw [hk]
 by_cases h1:dr a.reverse b.reverse=a.length∧dr a.reverse b.reverse=b.length
 ·rw [if_pos h1,if_pos h1]
 rw [if_neg h1,if_neg h1]
 by_cases h2:dr a.reverse b.reverse=a.length
 ·rw [if_pos h2,if_pos h2]
 rw [if_neg h2,if_neg h2]
 by_cases h3:dr a.reverse b.reverse=b.length
 ·rw [if_pos h3,if_pos h3]
 rw [if_neg h3,if_neg h3]
 have l1:=ux a.reverse b.reverse
 have l2:=yv a.reverse b.reverse
 rw [List.length_reverse] at l1 l2
 unfold T5
 rw [List.getElem?_reverse (by omega),List.getElem?_reverse (by omega)]
 try rfl
theorem xn {a b:Name}:kj a b=0↔fm a b=true:=by
 rw [xi,Ss,ov]
 constructor
 ·intro h;have:=congrArg List.reverse h;simpa using this
 ·intro h;rw [h]
theorem M5 {a b c:Name} (h:fm b c=true):kj a b=kj a c:=by rw [xi,xi,ov.1 h]
theorem aa1 {a b c:Name} (h:fm a b=true):kj a c=kj b c:=by rw [xi,xi,ov.1 h]
theorem adt {a b c:Name} (h1:kj a b<0) (h2:kj b c<0):kj a c<0:=by rw [xi] at *;exact M8 _ _ _ h1 h2
theorem Ax (a b:Name):kj a b = - kj b a:=by rw [xi,xi];exact Rk _ _
end Go.Proofs.YtgencolcibpcaaaGreat
end
namespace Go.Vm
def j4 {α:Type} (lt : α → α→Bool) (x : α):List α→List α
 | []=>[x]
 |y::l=>bif lt x y then x::y::l else y::j4 lt x l
def dh {α:Type} (lt : α → α→Bool):List α→List α:=List.foldl (fun acc x=>j4 lt x acc) []
def eg {α:Type} (lt : α → α→Bool):List α→List α→List α
 | [],r=>r
 |x::l,[]=>x::l
 |x::l,y::r=>bif lt y x then y::eg lt (x::l) r else x::eg lt l (y::r)
termination_by l r=>l.length+r.length
structure qj {α:Type} (lt : α → α→Bool) (V : α→Prop):Prop where
 afi:∀ x y,V x→V y→lt x y=true→lt y x=false
 trans:∀ x y z,V x→V y→V z→lt y x=false→lt z y=false→lt z x=false
def ib {α:Type} (lt : α → α→Bool) (l:List α):Prop:=l.Pairwise fun x y=>lt y x=false
theorem iw {α:Type} {lt : α → α→Bool} (r:List α):eg lt [] r=r:=by rw [eg]
theorem gz {α:Type} {lt : α → α→Bool} (l:List α):eg lt l []=l:=by cases l<;>rw [eg]
theorem jc {α:Type} {lt : α → α→Bool} (x y : α) (l r:List α):eg lt (x::l) (y::r)=bif lt y x then y::eg lt (x::l) r else x::eg lt l (y::r):=by rw [eg]
theorem Wj {α:Type} {lt : α → α→Bool} {x z : α}:∀ {l:List α},z ∈ j4 lt x l↔z=x∨z ∈ l
 | []=>by simp [j4]
 |y::l=>by
  rw [j4]
  cases lt x y with
  |true=>simp
  |false=>simp only [cond_false,List.mem_cons,Wj (l:=l)];constructor<;>(rintro (h|h|h)<;>simp [h])
theorem Q4 {α:Type} {lt : α → α→Bool} {x : α}:∀ {l:List α},(j4 lt x l).Perm (x::l)
 | []=>.refl _
 |y::l=>by
  rw [j4]
  cases lt x y with
  |true=>exact .refl _
  |false=>exact (List.Perm.cons y (Q4 (l:=l))).trans (List.Perm.swap x y l)
theorem Qn {α:Type} {lt : α → α→Bool}:dh lt []=[]:=rfl
theorem sq {α:Type} {lt : α → α→Bool} (l:List α) (x : α):dh lt (l++[x])=j4 lt x (dh lt l):=by simp [dh,List.foldl_append]
theorem Kv {α:Type} {p:List α→Prop} (l:List α) (h0:p []) (h1:∀ l x,p l→p (l++[x])):p l:=by
 have key:∀ r:List α,p r.reverse:=fun r=>by
  induction r with
  |nil=>exact h0
  |cons a r ih=>rw [List.reverse_cons];exact h1 _ _ ih
 rw [← List.reverse_reverse l];exact key _
theorem Oi {α:Type} {lt : α → α→Bool} (l:List α):(dh lt l).Perm l:=by
 refine Kv (p:=fun l=>(dh lt l).Perm l) l (.refl _) fun l x ih=>?_
 rw [sq]
 exact Q4.trans ((List.Perm.cons x ih).trans (List.perm_append_singleton x l).symm)
theorem jh {α:Type} {lt : α → α→Bool} {l:List α} {z : α}:z ∈ dh lt l↔z ∈ l:=(Oi l).mem_iff
theorem fg {α:Type} {lt : α → α→Bool} (l:List α):(dh lt l).length=l.length:=(Oi l).length_eq
theorem B2 {α:Type} {lt : α → α→Bool}:∀ (l r:List α),(eg lt l r).Perm (l++r)
 | [],r=>by rw [iw];exact .refl _
 |x::l,[]=>by rw [gz,List.append_nil]
 |x::l,y::r=>by
  rw [jc]
  cases lt y x with
  |true=>exact (List.Perm.cons y (B2 (x::l) r)).trans (List.perm_middle (l₁:=x::l)).symm
  |false=>exact List.Perm.cons x (B2 l (y::r))
termination_by l r=>l.length+r.length
theorem aeq {α:Type} {lt : α → α→Bool} (l r:List α):(eg lt l r).length=l.length+r.length:=by rw [(B2 l r).length_eq,List.length_append]
theorem qj.le_of_lt {α:Type} {lt : α → α→Bool} {V : α→Prop} (O:qj lt V) {x y z : α} (hx:V x) (hy:V y) (hz:V z) (h:lt x y=true) (k:lt z y=false):lt z x=false:=O.trans x y z hx hy hz (O.afi x y hx hy h) k
theorem Ou {α:Type} {lt : α → α→Bool} {V : α→Prop} (O:qj lt V) {x : α} (hx:V x):∀ {l:List α},(∀ y ∈ l,V y)→ib lt l→ib lt (j4 lt x l)
 | [],_,_=>by simp [j4,ib]
 |y::l,hV,h=>by
  have h1:=List.pairwise_cons.1 h
  have hy:=hV y List.mem_cons_self
  have hl:∀ z ∈ l,V z:=fun z hz=>hV z (List.mem_cons_of_mem _ hz)
  rw [j4]
  cases e:lt x y with
  |true=>
   rw [cond_true]
   refine List.pairwise_cons.2 ⟨fun z hz=>?_,h⟩
   rcases List.mem_cons.1 hz with rfl|hz
   ·exact O.afi _ _ hx hy e
   ·exact O.le_of_lt hx hy (hl z hz) e (h1.1 z hz)
  |false=>
   rw [cond_false]
   refine List.pairwise_cons.2 ⟨fun z hz=>?_,Ou O hx hl h1.2⟩
   rcases Wj.1 hz with rfl|hz
   ·exact e
   ·exact h1.1 z hz
theorem qc {α:Type} {lt : α → α→Bool} {V : α→Prop} (O:qj lt V) (l:List α) (hV:∀ y ∈ l,V y):ib lt (dh lt l):=by
 revert hV
 refine Kv (p:=fun l=>(∀ y ∈ l,V y)→ib lt (dh lt l)) l (fun _=>List.Pairwise.nil) fun l x ih hV=>?_
 rw [sq]
 exact Ou O (hV x (by simp)) (fun y hy=>hV y (by simp [jh.1 hy])) (ih fun y hy=>hV y (by simp [hy]))
theorem Bs {α:Type} {lt : α → α→Bool} {V : α→Prop} (O:qj lt V) {x : α} (hx:V x):∀ (a b:List α),(∀ y ∈ a,V y)→(∀ y ∈ b,V y)→eg lt a (j4 lt x b)=j4 lt x (eg lt a b)
 | [],b,_,_=>by rw [iw,iw]
 |a::s,[],ha,hb=>by
  have ih:=Bs O hx s [] (fun y hy=>ha y (List.mem_cons_of_mem _ hy)) hb
  rw [gz] at ih ⊢
  rw [j4,jc,j4]
  cases lt x a with
  |true=>rw [cond_true,cond_true,gz]
  |false=>rw [cond_false,cond_false];rw [j4] at ih;rw [ih]
 |a::s,b::r,ha,hb=>by
  have va:=ha a List.mem_cons_self
  have vb:=hb b List.mem_cons_self
  have ih1:=Bs O hx s (b::r) (fun y hy=>ha y (List.mem_cons_of_mem _ hy)) hb
  have ih2:=Bs O hx (a::s) r ha (fun y hy=>hb y (List.mem_cons_of_mem _ hy))
  rw [jc]
  rw [j4] at ih1 ⊢
  cases e1:lt x b with
  |true=>
   rw [e1,cond_true] at ih1
   rw [cond_true,jc]
   cases e2:lt b a with
   |true=>
    have e3:lt x a=true:=by
     cases e3:lt x a with
     |true=>rfl
     |false=>
      have:=O.trans a x b va hx vb e3 (O.afi _ _ hx vb e1)
      rw [e2] at this;cases this
    rw [e3,cond_true,cond_true,j4,e1,cond_true,jc,e2,cond_true]
   |false=>
    rw [cond_false,j4]
    cases e3:lt x a with
    |true=>rw [cond_true,cond_true,jc,e2,cond_false]
    |false=>rw [cond_false,cond_false,ih1]
  |false=>
   rw [e1,cond_false] at ih1
   rw [cond_false,jc]
   cases e2:lt b a with
   |true=>rw [cond_true,cond_true,j4,e1,cond_false,ih2]
   |false=>
    have e3:=O.trans a b x va vb hx e2 e1
    rw [cond_false,cond_false,j4,e3,cond_false,ih1]
termination_by a b=>a.length+b.length
theorem N2 {α:Type} {lt : α → α→Bool} {V : α→Prop} (O:qj lt V) (a b:List α) (ha:∀ y ∈ a,V y) (hb:∀ y ∈ b,V y):eg lt (dh lt a) (dh lt b)=dh lt (a++b):=by
 revert hb
 refine Kv (p:=fun b=>(∀ y ∈ b,V y)→eg lt (dh lt a) (dh lt b)=dh lt (a++b)) b (fun _=>by rw [Qn,gz,List.append_nil]) fun b x ih hb=>?_
 rw [sq,← List.append_assoc,sq,Bs O (hb x (by simp)) _ _ (fun y hy=>ha y (jh.1 hy)) (fun y hy=>hb y (by simp [jh.1 hy])),ih fun y hy=>hb y (by simp [hy])]
theorem Np {α:Type} {lt : α → α→Bool} {x : α}:∀ (A B:List α),(∀ y ∈ A,lt x y=false)→(∀ y ∈ B.head?,lt x y=true)→j4 lt x (A++B)=A++x::B
 | [],[],_,_=>rfl
 | [],b::B,_,h=>by rw [List.nil_append,j4,h b rfl];rfl
 |a::A,B,h,h2=>by rw [List.cons_append,j4,h a List.mem_cons_self,cond_false,Np A B (fun y hy=>h y (List.mem_cons_of_mem _ hy)) h2];rfl
theorem mc {α:Type} {lt : α → α→Bool}:∀ (A B C D:List α),(∀ x ∈ A,∀ y ∈ D,lt y x=false)→(∀ x ∈ B,∀ y ∈ C,lt y x=true)→eg lt (A++B) (C++D)=eg lt A C++eg lt B D
 | [],B,[],D,_,_=>by rw [iw];rfl
 | [],[],c::C,D,_,_=>by rw [List.append_nil,iw,iw,iw]
 | [],b::B,c::C,D,h1,h2=>by
  have ih:=mc [] (b::B) C D (by simp) (fun x hx y hy=>h2 x hx y (List.mem_cons_of_mem _ hy))
  rw [List.nil_append,List.cons_append,jc,h2 b List.mem_cons_self c List.mem_cons_self,cond_true,iw]
  rw [List.nil_append,iw] at ih
  rw [ih];rfl
 |a::A,B,[],[],_,_=>by rw [List.append_nil,gz,gz,gz]
 |a::A,B,[],d::D,h1,h2=>by
  have ih:=mc A B [] (d::D) (fun x hx=>h1 x (List.mem_cons_of_mem _ hx)) (by simp)
  rw [List.nil_append,gz] at ih ⊢
  rw [List.cons_append,jc,h1 a List.mem_cons_self d List.mem_cons_self,cond_false,ih];rfl
 |a::A,B,c::C,D,h1,h2=>by
  have ih1:=mc A B (c::C) D (fun x hx=>h1 x (List.mem_cons_of_mem _ hx)) h2
  have ih2:=mc (a::A) B C D h1 (fun x hx y hy=>h2 x hx y (List.mem_cons_of_mem _ hy))
  rw [List.cons_append,List.cons_append,jc,jc]
  cases lt c a with
  |true=>rw [cond_true,cond_true];rw [List.cons_append] at ih2;rw [ih2];rfl
  |false=>rw [cond_false,cond_false];rw [List.cons_append] at ih1;rw [ih1];rfl
termination_by A _ C _=>A.length+C.length
theorem Rh {α:Type} {lt : α → α→Bool} {V : α→Prop} (O:qj lt V) {A:List α} {x y : α} {D:List α} (hA:∀ z ∈ A++[x],V z) (hD:∀ z ∈ y::D,V z) (h1:ib lt (A++[x])) (h2:ib lt (y::D)) (h:lt y x=false):∀ a ∈ A++[x],∀ d ∈ y::D,lt d a=false:=by
 have k1:=List.pairwise_append.1 h1
 have k2:=List.pairwise_cons.1 h2
 intro a ha d hd
 have vx:=hA x (by simp)
 have vy:=hD y (by simp)
 have e1:lt y a=false:=by
  rcases List.mem_append.1 ha with q|q
  ·exact O.trans a x y (hA a ha) vx vy (k1.2.2 a q x (by simp)) h
  ·simp at q;subst q;exact h
 rcases List.mem_cons.1 hd with rfl|q
 ·exact e1
 ·exact O.trans a y d (hA a ha) vy (hD d hd) e1 (k2.1 d q)
theorem K5 {α:Type} {lt : α → α→Bool} {V : α→Prop} (O:qj lt V) {B:List α} {x y : α} {C:List α} (hB:∀ z ∈ x::B,V z) (hC:∀ z ∈ C++[y],V z) (h1:ib lt (x::B)) (h2:ib lt (C++[y])) (h:lt y x=true):∀ b ∈ x::B,∀ c ∈ C++[y],lt c b=true:=by
 have k1:=List.pairwise_cons.1 h1
 have k2:=List.pairwise_append.1 h2
 intro b hb c hc
 have vx:=hB x (by simp)
 have vy:=hC y (by simp)
 cases e:lt c b with
 |true=>rfl
 |false=>
  have e1:lt y b=false:=by
   rcases List.mem_append.1 hc with q|q
   ·exact O.trans b c y (hB b hb) (hC c hc) vy e (k2.2.2 c q y (by simp))
   ·simp at q;subst q;exact e
  have e2:lt y x=false:=by
   rcases List.mem_cons.1 hb with rfl|q
   ·exact e1
   ·exact O.trans x b y vx (hB b hb) vy (k1.1 b q) e1
  rw [h] at e2;cases e2
def ij {α:Type} (lt : α → α→Bool) (k:Nat) (l:List α):List α:=
 if h:l.length≤k∨k=0 then dh lt l else dh lt (l.take k)++ij lt k (l.drop k)
termination_by l.length
decreasing_by simp at *;omega
theorem pj {α:Type} {lt : α → α→Bool} {k:Nat} {l:List α} (h:l.length≤k):ij lt k l=dh lt l:=by rw [ij,dif_pos (.inl h)]
theorem z5 {α:Type} {lt : α → α→Bool} {k:Nat} {l:List α} (hk : 0<k) (h:k≤l.length):ij lt k l=dh lt (l.take k)++ij lt k (l.drop k):=by
 by_cases e:l.length≤k
 ·have h1:l.take k=l:=List.take_of_length_le e
  have h2:l.drop k=[]:=List.drop_eq_nil_of_le e
  rw [h1,h2,pj e,pj (Nat.zero_le _),Qn,List.append_nil]
 ·rw [ij,dif_neg (by omega)]
theorem aod {α:Type} {lt : α → α→Bool} {k:Nat} {l:List α} (hk : 0<k) (h:k+k≤l.length):ij lt k l=dh lt (l.take k)++(dh lt ((l.drop k).take k)++ij lt k (l.drop (k+k))):=by
 rw [z5 hk (by omega),z5 (l:=l.drop k) hk (by rw [List.length_drop];omega),List.drop_drop]
theorem aki {α:Type} {lt : α → α→Bool} {k:Nat} {l:List α} (hk : 0<k) (h:k<l.length) (h2:l.length≤k+k):ij lt k l=dh lt (l.take k)++dh lt (l.drop k):=by
 rw [z5 hk (by omega),pj (l:=l.drop k) (by rw [List.length_drop];omega)]
theorem ako {α:Type} {k:Nat} (l:List α):l.take k++(l.drop k).take k=l.take (k+k):=by rw [List.take_add]
theorem ati {α:Type} {lt : α → α→Bool} {k:Nat} {z : α} (hk : 0<k) (n:Nat):∀ l:List α,l.length≤n→(z ∈ ij lt k l↔z ∈ l):=by
 induction n with
 |zero=>intro l h;rw [pj (by omega),jh]
 |succ n ih=>
  intro l h
  by_cases e:l.length≤k
  ·rw [pj e,jh]
  ·rw [z5 hk (by omega),List.mem_append,jh,ih _ (by rw [List.length_drop];omega),← List.mem_append,List.take_append_drop]
theorem anm {α:Type} {lt : α → α→Bool} {k:Nat} (hk : 0<k) (n:Nat):∀ l:List α,l.length≤n→(ij lt k l).length=l.length:=by
 induction n with
 |zero=>intro l h;rw [pj (by omega),fg]
 |succ n ih=>
  intro l h
  by_cases e:l.length≤k
  ·rw [pj e,fg]
  ·rw [z5 hk (by omega),List.length_append,fg,ih _ (by rw [List.length_drop];omega),← List.length_append,List.take_append_drop]
theorem adu {α:Type} {lt : α → α→Bool} {V : α→Prop} (O:qj lt V) {A:List α} {x y : α} (hA:∀ z ∈ A++[x],V z) (hy:V y) (h:ib lt (A++[x])) (e:lt y x=false):∀ a ∈ A++[x],lt y a=false:=
 fun a ha=>Rh O (D:=[]) hA (by simpa using hy) h (by simp [ib]) e a ha y (by simp)
theorem me {α:Type} {l:List α} {i:Nat} {c : α} (h:l[i]? = some c):l.take (i+1)=l.take i++[c]:=by rw [List.take_add_one,h];rfl
theorem qw {α:Type} {l:List α} {i:Nat} {c : α} (h:l[i]? = some c):l.drop i=c::l.drop (i+1):=by
 obtain ⟨_,rfl⟩:=List.getElem?_eq_some_iff.1 h;exact List.drop_eq_getElem_cons _
theorem ib.take {α:Type} {lt : α → α→Bool} {l:List α} (h:ib lt l) (i:Nat):ib lt (l.take i):=List.Pairwise.sublist (List.take_sublist i l) h
theorem ib.drop {α:Type} {lt : α → α→Bool} {l:List α} (h:ib lt l) (i:Nat):ib lt (l.drop i):=List.Pairwise.sublist (List.drop_sublist i l) h
theorem Rx {α:Type} {lt : α → α→Bool} {V : α→Prop} (O:qj lt V) {l:List α} (hl:∀ z ∈ l,V z) (h:ib lt l) {y : α} (hy:V y) {i:Nat} (hi:i≤l.length) (e:∀ c,0<i→l[i - 1]? = some c→lt y c=false):∀ a ∈ l.take i,lt y a=false:=by
 cases i with
 |zero=>intro a ha;simp at ha
 |succ i=>
  have hc:l[i]? = some l[i]:=List.getElem?_eq_getElem (by omega)
  have h1:=me hc
  intro a ha
  rw [h1] at ha
  exact adu O (fun z hz=>hl z (List.mem_of_mem_take (i:=i+1) (by rw [h1];exact hz))) hy (by rw [← h1];exact h.take _) (e _ (by omega) hc) a ha
theorem ah7 {α:Type} {lt : α → α→Bool} {V : α→Prop} (O:qj lt V) {l:List α} (hl:∀ z ∈ l,V z) (h:ib lt l) {y : α} (hy:V y) {i:Nat} (e:∀ c,l[i]? = some c→lt y c=true):∀ a ∈ l.drop i,lt y a=true:=by
 intro a ha
 by_cases hi:i<l.length
 ·have hc:l[i]? = some l[i]:=List.getElem?_eq_getElem hi
  have h1:=qw hc
  rw [h1] at ha
  exact K5 O (C:=[]) (y:=y) (x:=l[i]) (B:=l.drop (i+1)) (fun z hz=>hl z (List.mem_of_mem_drop (i:=i) (by rw [h1];exact hz))) (by simpa using hy) (by rw [← h1];exact h.drop _) (by simp [ib]) (e _ hc) a ha y (by simp)
 ·rw [List.drop_eq_nil_of_le (by omega)] at ha;cases ha
theorem agj {α:Type} {lt : α → α→Bool} {V : α→Prop} (O:qj lt V) {l:List α} (hl:∀ z ∈ l,V z) (h:ib lt l) {x : α} (hx:V x) {i:Nat} (hi:i≤l.length) (e:∀ c,0<i→l[i - 1]? = some c→lt c x=true):∀ a ∈ l.take i,lt a x=true:=by
 cases i with
 |zero=>intro a ha;simp at ha
 |succ i=>
  have hc:l[i]? = some l[i]:=List.getElem?_eq_getElem (by omega)
  have h1:=me hc
  intro a ha
  rw [h1] at ha
  exact K5 O (B:=[]) (x:=x) (C:=l.take i) (y:=l[i]) (by simpa using hx) (fun z hz=>hl z (List.mem_of_mem_take (i:=i+1) (by rw [h1];exact hz))) (by simp [ib]) (by rw [← h1];exact h.take _) (e _ (by omega) hc) x (by simp) a ha
theorem ajo {α:Type} {lt : α → α→Bool} {x : α} {l:List α} {i:Nat} (h1:∀ a ∈ l.take i,lt a x=true) (h2:∀ c,l[i]? = some c→lt c x=false):eg lt [x] l=l.take i++x::l.drop i:=by
 have:=mc (lt:=lt) [] [x] (l.take i) (l.drop i) (by simp) (fun z hz y hy=>by simp at hz;subst hz;exact h1 y hy)
 rw [List.take_append_drop,List.nil_append,iw] at this
 rw [this]
 congr 1
 cases hd:l.drop i with
 |nil=>rw [gz]
 |cons c r=>
  have hc:l[i]? = some c:=by rw [← List.head?_drop,hd];rfl
  rw [jc,h2 c hc,cond_false,iw]
theorem afa {α:Type} {lt : α → α→Bool} {y : α} {l:List α} {i:Nat} (h1:∀ a ∈ l.take i,lt y a=false) (h2:∀ a ∈ l.drop i,lt y a=true):eg lt l [y]=l.take i++y::l.drop i:=by
 have:=mc (lt:=lt) (l.take i) (l.drop i) [y] [] (by simp) (fun z hz u hu=>by simp at hu;subst hu;exact h2 z hz)
 rw [List.take_append_drop,List.append_nil,gz] at this
 rw [this]
 have h3:=mc (lt:=lt) (l.take i) [] [] [y] (fun z hz u hu=>by simp at hu;subst hu;exact h1 z hz) (by simp)
 rw [List.append_nil,List.nil_append,gz,iw] at h3
 rw [h3,List.append_assoc];rfl
end Go.Vm
section
namespace Go.Proofs.YtgencolcibpcaaaGreat
open Go.Vm
set_option maxRecDepth 2000000
theorem Vw (s:ByteArray):wl PP [] 0 (Tryz.f124.body.getD .skip) (cy PP Tryz.f124.results.toList (fun r st=>(r1 (bo .i64)).get true st.h r=some (fo s))) (cf 0 [aq.val false s]) (bk []):=by
 unfold Tryz.f124
 simp only [↓wR,RA,simprocAttr,TF,ae]
 unfold fo
 rw [a9];refine ⟨fun h=>?_,fun h=>?_⟩
 ·rw [if_pos (.inl (by omega))]
  simp only [↓wR,RA,simprocAttr,TF,ae,h]
 ·simp only [↓wR,RA,simprocAttr,TF,ae,h]
  rw [a9];refine ⟨fun h2=>?_,fun h2=>?_⟩
  ·rw [if_pos (.inr (by omega))]
   simp only [↓wR,RA,simprocAttr,TF,ae,h2]
  ·rw [if_neg (by omega)]
   simp only [↓wR,RA,simprocAttr,TF,ae,h2]
noncomputable def yr (x:ByteArray × Unit):Option AV:=some ((r1 (bo .i64)).E true (fo x.1))
set_option maxRecDepth 2000000 in
theorem Pu (x:ByteArray × Unit) (r:AV) (h:yr x=some r):bb PP 124 ((aC aq a0).E x) r:=by
 cases h
 exact au (ai.nil PP) Tryz.func124 (by kernel_rfl) (by kernel_rfl) (by kernel_rfl) (Nat.le_of_ble_eq_true (by kernel_rfl)) (r1 (bo .i64)) true (fo x.1) (Vw x.1)
noncomputable abbrev aic:Nat × Bool × (List AV→M AV):=(124,true,cx (aC aq a0) yr)
theorem aq8 {c:UInt8} (h1:(65:Int)≤c.toNat) (h2:(c.toNat:Int)≤90):IntKind.u8.wrap ((c.toNat:Int)+32)=((low c).toNat:Int):=by
 have a1 : 65≤c:=by rw [UInt8.le_iff_toNat_le];simp;omega
 have a2:c≤90:=by rw [UInt8.le_iff_toNat_le];simp;omega
 have hlow:low c=c+32:=by simp [low,a1,a2]
 rw [hlow]
 simp [IntKind.wrap,IntKind.bits,IntKind.signed,UInt8.toNat_add]
theorem ai2 {c:UInt8} (h:¬ ((65:Int)≤c.toNat∧(c.toNat:Int)≤90)):low c=c:=by
 have:¬ (65≤c∧c≤90):=fun q=>h ⟨by have:=UInt8.le_iff_toNat_le.1 q.1;simp at this;omega,by have:=UInt8.le_iff_toNat_le.1 q.2;simp at this;omega⟩
 simp [low,this]
theorem aao (s:ByteArray) (hs:s.size≤16777216):wl PP [] 0 (Tryz.f181.body.getD .skip) (cy PP Tryz.f181.results.toList (fun r st=>(r1 aq).get true st.h r=some (fold s))) (cf 0 [aq.val false s]) (bk []):=by
 have hl:s.data.toList.length=s.size:=by simp
 obtain ⟨F,hF⟩:∃ F,F=s.data.toList.map low:=⟨_,rfl⟩
 have hFl:F.length=s.size:=by rw [hF,List.length_map,hl]
 have hfold:fold s=⟨F.toArray⟩:=by unfold fold;rw [hF]
 rw [hfold]
 unfold Tryz.f181
 simp only [↓wR,RA,simprocAttr,TF,ae]
 refine fq [0,4,3] (fun (i:Nat)=>[.sc (.string s),.sc (.int .i64 (i)),.sl 0 0 i 1]) (fun i=>[some (.row ((F.take i).map (ay.val false)) 0 0 5)]) (fun i=>i≤s.size) (fun i=>s.size - i) 0 (Nat.zero_le _) (by simp only [↓wR,RA,simprocAttr,TF,ae];(refine jf.lax [] (by first|exact Nat.le_of_ble_eq_true rfl|(simp [c8];omega)) ?_ ?_<;>repeat' first|exact dv.nil|exact cg.nil|exact eh.same _|exact eh.nil _ _ _|exact eh.mw _ _|exact cg.refl _ _|apply dv.cons|apply cg.ghost|apply cg.same|apply cg.row)) ?_
 intro i hi
 simp only [↓wR,RA,simprocAttr,TF,ae]
 rw [a9];refine ⟨fun h=>?_,fun h=>?_⟩
 ·have hlt:i<s.size:=by omega
  obtain ⟨c,hc⟩:∃ c,s.data.toList[i]? = some c:=⟨_,List.getElem?_eq_getElem (by omega)⟩
  have hfc:F[i]? = some (low c):=by rw [hF,List.getElem?_map,hc];rfl
  have hnx:=me hfc
  have hll:(F.take i).length=i:=by rw [List.length_take];omega
  have hlim:i+1≤140737488355328:=by omega
  simp only [↓wR,RA,simprocAttr,TF,ae,h,hc];repeat (simp (disch:=omega) only [ag,bz,bw,bu,ca];try simp only [↓wR,RA,simprocAttr,TF,ae,h,hc])
  by_cases h1:(65:Int)≤c.toNat
  ·by_cases h2:(c.toNat:Int)≤90
   ·have d1:decide ((c.toNat:Int) ≥ 65)=true:=decide_eq_true h1
    have d2:decide ((c.toNat:Int)≤90)=true:=decide_eq_true h2
    have hw:=aq8 h1 h2
    simp only [↓wR,RA,simprocAttr,TF,ae,d1,d2,hw,hll,hlim];repeat (simp (disch:=omega) only [ag,bz,bw,bu,ca];try simp only [↓wR,RA,simprocAttr,TF,ae,d1,d2,hw,hll,hlim])
    refine ⟨i+1,hlt,by omega,by (first|rfl|trivial|omega|((try (simp (disch:=omega) only [ag]));(try (simp only [FB]));first|done|rfl|omega)),?_⟩
    rw [hnx,List.map_append];rfl
   ·have d1:decide ((c.toNat:Int) ≥ 65)=true:=decide_eq_true h1
    have d2:decide ((c.toNat:Int)≤90)=false:=decide_eq_false h2
    have hw:low c=c:=ai2 (fun q=>h2 q.2)
    simp only [↓wR,RA,simprocAttr,TF,ae,d1,d2,hll,hlim];repeat (simp (disch:=omega) only [ag,bz,bw,bu,ca];try simp only [↓wR,RA,simprocAttr,TF,ae,d1,d2,hll,hlim])
    refine ⟨i+1,hlt,by omega,by (first|rfl|trivial|omega|((try (simp (disch:=omega) only [ag]));(try (simp only [FB]));first|done|rfl|omega)),?_⟩
    rw [hnx,List.map_append,hw];rfl
  ·have d1:decide ((c.toNat:Int) ≥ 65)=false:=decide_eq_false h1
   have hw:low c=c:=ai2 (fun q=>h1 q.1)
   simp only [↓wR,RA,simprocAttr,TF,ae,d1,hll,hlim];repeat (simp (disch:=omega) only [ag,bz,bw,bu,ca];try simp only [↓wR,RA,simprocAttr,TF,ae,d1,hll,hlim])
   refine ⟨i+1,hlt,by omega,by (first|rfl|trivial|omega|((try (simp (disch:=omega) only [ag]));(try (simp only [FB]));first|done|rfl|omega)),?_⟩
   rw [hnx,List.map_append,hw];rfl
 ·have hin:F.take i=F:=List.take_of_length_le (by omega)
  have hii:i=F.length:=by omega
  rw [hin,hii]
  simp only [↓wR,RA,simprocAttr,TF,ae,h]
noncomputable def qv (x:ByteArray × Unit):Option AV:=if x.1.size≤16777216 then some ((r1 aq).E true (fold x.1)) else none
set_option maxRecDepth 2000000 in
theorem E2 (x:ByteArray × Unit) (r:AV) (h:qv x=some r):bb PP 181 ((aC aq a0).E x) r:=by
 by_cases hc:x.1.size≤16777216
 case neg=>simp only [qv,if_neg hc] at h;cases h
 simp only [qv,if_pos hc] at h
 cases h
 exact au (ai.nil PP) Tryz.func181 (by kernel_rfl) (by kernel_rfl) (by kernel_rfl) (Nat.le_of_ble_eq_true (by kernel_rfl)) (r1 aq) true (fold x.1) (aao x.1 hc)
noncomputable abbrev Vs:Nat × Bool × (List AV→M AV):=(181,true,cx (aC aq a0) qv)
theorem ac0 {A B:List UInt8} {i:Nat} (h:i=A.length∨i=B.length) (ha:i≤A.length) (hb:i≤B.length):Lib.compareBytes (A.drop i) (B.drop i)=if A.length<B.length then -1 else if A.length > B.length then 1 else 0:=by
 rcases Nat.lt_trichotomy A.length B.length with q|q|q
 ·have h1:A.drop i=[]:=List.drop_eq_nil_of_le (by omega)
  rw [h1,if_pos q]
  cases h2:B.drop i with
  |nil=>have:=List.drop_eq_nil_iff.1 h2;omega
  |cons y r=>rfl
 ·have h1:A.drop i=[]:=List.drop_eq_nil_of_le (by omega)
  have h2:B.drop i=[]:=List.drop_eq_nil_of_le (by omega)
  rw [h1,h2,if_neg (by omega),if_neg (by omega)];rfl
 ·have h1:B.drop i=[]:=List.drop_eq_nil_of_le (by omega)
  rw [h1,if_neg (by omega),if_pos q]
  cases h2:A.drop i with
  |nil=>have:=List.drop_eq_nil_iff.1 h2;omega
  |cons y r=>rfl
theorem Pk (a b:ByteArray) (ha:a.size≤16777216) (hb:b.size≤16777216):wl PP [Vs] 0 (Tryz.f156.body.getD .skip) (cy PP Tryz.f156.results.toList (fun r st=>(r1 (bo .i64)).get true st.h r=some (qe (fold a) (fold b)))) (cf 0 [aq.val false a,aq.val false b]) (bk []):=by
 have hq:∀ a b c d,er a b c=d→er a b c=d:=fun _ _ _ _ h=>h
 obtain ⟨A,hA⟩:∃ A,A=fold a:=⟨_,rfl⟩
 obtain ⟨B,hB⟩:∃ B,B=fold b:=⟨_,rfl⟩
 have hla:A.data.toList.length=A.size:=by simp
 have hlb:B.data.toList.length=B.size:=by simp
 have sa:A.size≤16777216:=by rw [hA,A0];exact ha
 have sb:B.size≤16777216:=by rw [hB,A0];exact hb
 rw [← hA,← hB]
 unfold qe
 unfold Tryz.f156
 simp only [↓wR,RA,simprocAttr,TF,ae,qv,ha,hb,← hA,← hB]
 refine de [5,6,7] (fun (i:Nat)=>[.sc (.string A),.sc (.string B),.sc (.int .i64 (i))]) (fun _=>[]) (fun i=>i≤A.size∧i≤B.size∧Lib.compareBytes A.data.toList B.data.toList=Lib.compareBytes (A.data.toList.drop i) (B.data.toList.drop i)) (fun i=>A.size - i) 0 ⟨Nat.zero_le _,Nat.zero_le _,rfl⟩ (by simp only [↓wR,RA,simprocAttr,TF,ae]<;>rfl) (by simp only [↓wR,RA,simprocAttr,TF,ae]<;>rfl) ?_
 rintro i ⟨hi,hj,hv⟩
 simp only [↓wR,RA,simprocAttr,TF,ae]
 rw [a9];refine ⟨fun h1=>?_,fun h1=>?_⟩
 ·simp only [↓wR,RA,simprocAttr,TF,ae,h1]
  rw [a9];refine ⟨fun h2=>?_,fun h2=>?_⟩
  ·obtain ⟨x,hx⟩:∃ x,A.data.toList[i]? = some x:=⟨_,List.getElem?_eq_getElem (by omega)⟩
   obtain ⟨y,hy⟩:∃ y,B.data.toList[i]? = some y:=⟨_,List.getElem?_eq_getElem (by omega)⟩
   have hcx:A.data.toList.drop i=x::A.data.toList.drop (i+1):=by
    obtain ⟨k,rfl⟩:=List.getElem?_eq_some_iff.1 hx;exact List.drop_eq_getElem_cons k
   have hcy:B.data.toList.drop i=y::B.data.toList.drop (i+1):=by
    obtain ⟨k,rfl⟩:=List.getElem?_eq_some_iff.1 hy;exact List.drop_eq_getElem_cons k
   rw [hcx,hcy,Lib.compareBytes] at hv
   simp only [UInt8.lt_iff_toNat_lt] at hv
   simp only [↓wR,RA,simprocAttr,TF,ae,h2]
   refine ⟨by kernel_rfl,.inl ?_⟩
   simp only [↓wR,RA,simprocAttr,TF,ae,hx,hy]
   refine ⟨by apply hq;kernel_rfl,?_⟩
   rw [a9];refine ⟨fun h3=>?_,fun h3=>?_⟩
   ·rw [if_pos (by omega)] at hv
    simp only [↓wR,RA,simprocAttr,TF,ae,h3,hv]
   ·rw [if_neg (by omega)] at hv
    simp only [↓wR,RA,simprocAttr,TF,ae,h3]
    refine ⟨by kernel_rfl,.inl ?_⟩
    simp only [↓wR,RA,simprocAttr,TF,ae,hx,hy]
    refine ⟨by apply hq;kernel_rfl,?_⟩
    rw [a9];refine ⟨fun h4=>?_,fun h4=>?_⟩
    ·rw [if_pos (by omega)] at hv
     simp only [↓wR,RA,simprocAttr,TF,ae,h4,hv]
    ·rw [if_neg (by omega)] at hv
     simp only [↓wR,RA,simprocAttr,TF,ae,h4];repeat (simp (disch:=omega) only [ag,bz,bw,bu,ca];try simp only [↓wR,RA,simprocAttr,TF,ae,h4])
     exact ⟨i+1,⟨by omega,by omega,hv⟩,by omega,by (first|rfl|trivial|omega|((try (simp (disch:=omega) only [ag]));(try (simp only [FB]));first|done|rfl|omega))⟩
  ·have he:=ac0 (A:=A.data.toList) (B:=B.data.toList) (i:=i) (by omega) (by omega) (by omega)
   rw [hv,he,hla,hlb]
   simp only [↓wR,RA,simprocAttr,TF,ae,h2]
   rw [a9];refine ⟨fun h5=>?_,fun h5=>?_⟩
   ·rw [if_pos (by omega)];simp only [↓wR,RA,simprocAttr,TF,ae,h5]
   ·rw [if_neg (by omega)]
    simp only [↓wR,RA,simprocAttr,TF,ae,h5]
    rw [a9];refine ⟨fun h6=>?_,fun h6=>?_⟩
    ·rw [if_pos (by omega)];simp only [↓wR,RA,simprocAttr,TF,ae,h6]
    ·rw [if_neg (by omega)];simp only [↓wR,RA,simprocAttr,TF,ae,h6]
 ·have he:=ac0 (A:=A.data.toList) (B:=B.data.toList) (i:=i) (by omega) (by omega) (by omega)
  rw [hv,he,hla,hlb]
  simp only [↓wR,RA,simprocAttr,TF,ae,h1]
  rw [a9];refine ⟨fun h5=>?_,fun h5=>?_⟩
  ·rw [if_pos (by omega)];simp only [↓wR,RA,simprocAttr,TF,ae,h5]
  ·rw [if_neg (by omega)]
   simp only [↓wR,RA,simprocAttr,TF,ae,h5]
   rw [a9];refine ⟨fun h6=>?_,fun h6=>?_⟩
   ·rw [if_pos (by omega)];simp only [↓wR,RA,simprocAttr,TF,ae,h6]
   ·rw [if_neg (by omega)];simp only [↓wR,RA,simprocAttr,TF,ae,h6]
noncomputable def mr (x:ByteArray × ByteArray × Unit):Option AV:=if x.1.size≤16777216∧x.2.1.size≤16777216 then some ((r1 (bo .i64)).E true (qe (fold x.1) (fold x.2.1))) else none
set_option maxRecDepth 2000000 in
theorem z7 (x:ByteArray × ByteArray × Unit) (r:AV) (h:mr x=some r):bb PP 156 ((aC aq (aC aq a0)).E x) r:=by
 by_cases hc:x.1.size≤16777216∧x.2.1.size≤16777216
 case neg=>simp only [mr,if_neg hc] at h;cases h
 simp only [mr,if_pos hc] at h
 cases h
 exact au (ai.cons (ak E2) (ai.nil PP)) Tryz.func156 (by kernel_rfl) (by kernel_rfl) (by kernel_rfl) (Nat.le_of_ble_eq_true (by kernel_rfl)) (r1 (bo .i64)) true (qe (fold x.1) (fold x.2.1)) (Pk x.1 x.2.1 hc.1 hc.2)
noncomputable abbrev Kg:Nat × Bool × (List AV→M AV):=(156,true,cx (aC aq (aC aq a0)) mr)
theorem akb (n:Name) (hn:bp n<17592186044416):wl PP [] 0 (Tryz.f125.body.getD .skip) (cy PP Tryz.f125.results.toList (fun r st=>(r1 (bo .i64)).get true st.h r=some (bp n:Int))) (cf 0 [aj.val false n]) (bk []):=by
 unfold Tryz.f125
 simp only [ct]
 simp only [↓wR,RA,simprocAttr,TF,ae]
 refine de [0,3,4] (fun (i:Nat)=>[.vl false 1 (n.map (aq.val false)),.sc (.int .i64 (bp (n.take i))),.sc (.int .i64 (i))]) (fun _=>[]) (fun i=>i≤n.length∧bp (n.take i)≤bp n∧i<bp (n.take i)) (fun i=>n.length - i) 0 ⟨Nat.zero_le _,(g8 n 0).1,by simp [bp]⟩ (by simp only [↓wR,RA,simprocAttr,TF,ae]<;>rfl) (by simp only [↓wR,RA,simprocAttr,TF,ae]<;>rfl) ?_
 rintro i ⟨hi,hle,hgt⟩
 simp only [↓wR,RA,simprocAttr,TF,ae]
 rw [a9];refine ⟨fun h=>?_,fun h=>?_⟩
 ·obtain ⟨c,hc,hd1,hlt⟩:=ee (decide_eq_true h)
  have hnx:=yj n i c hc
  have hle2:=(g8 n (i+1)).1
  simp only [↓wR,RA,simprocAttr,TF,ae,h,hc];repeat (simp (disch:=omega) only [ag,bz,bw,bu,ca];try simp only [↓wR,RA,simprocAttr,TF,ae,h,hc])
  refine ⟨i+1,⟨hlt,hle2,by omega⟩,by omega,?_⟩
  rw [hnx];(first|rfl|trivial|omega|((try (simp (disch:=omega) only [ag]));(try (simp only [FB]));first|done|rfl|omega))
 ·have hin:n.take i=n:=List.take_of_length_le (by omega)
  rw [hin]
  simp only [↓wR,RA,simprocAttr,TF,ae,h]
noncomputable def vq (x:Name × Unit):Option AV:=if bp x.1<17592186044416 then some ((r1 (bo .i64)).E true ((bp x.1:Int))) else none
set_option maxRecDepth 2000000 in
theorem Ju (x:Name × Unit) (r:AV) (h:vq x=some r):bb PP 125 ((aC aj a0).E x) r:=by
 by_cases hc:bp x.1<17592186044416
 case neg=>simp only [vq,if_neg hc] at h;cases h
 simp only [vq,if_pos hc] at h
 cases h
 exact au (ai.nil PP) Tryz.func125 (by kernel_rfl) (by kernel_rfl) (by kernel_rfl) (Nat.le_of_ble_eq_true (by kernel_rfl)) (r1 (bo .i64)) true ((bp x.1:Int)) (akb x.1 hc)
noncomputable abbrev agw:Nat × Bool × (List AV→M AV):=(125,true,cx (aC aj a0) vq)
theorem agr (n:Name) (hn:bp n<17592186044416):wl PP [aic,agw] 0 (Tryz.f85.body.getD .skip) (cy PP Tryz.f85.results.toList (fun r st=>(r1 (bo .i64)).get true st.h r=some (da n))) (cf 0 [aj.val false n]) (bk []):=by
 have hlen:n.length<bp n:=(g8 n 0).2
 unfold Tryz.f85
 simp only [ct]
 simp only [↓wR,RA,simprocAttr,TF,ae]
 refine de [0,3] (fun (i:Nat)=>[.vl false 1 (n.map (aq.val false)),.sc (.int .i64 (i))]) (fun _=>[]) (fun i=>i≤n.length∧m8 (n.take i)=false) (fun i=>n.length - i) 0 ⟨Nat.zero_le _,rfl⟩ (by simp only [↓wR,RA,simprocAttr,TF,ae]<;>rfl) (by simp only [↓wR,RA,simprocAttr,TF,ae]<;>rfl) ?_
 rintro i ⟨hi,hb⟩
 simp only [↓wR,RA,simprocAttr,TF,ae]
 rw [a9];refine ⟨fun h=>?_,fun h=>?_⟩
 ·obtain ⟨c,hc,hd1,hlt⟩:=ee (decide_eq_true h)
  simp only [↓wR,RA,simprocAttr,TF,ae,h,hc,yr];repeat (simp (disch:=omega) only [ag,bz,bw,bu,ca];try simp only [↓wR,RA,simprocAttr,TF,ae,h,hc,yr])
  rw [dz];refine ⟨fun ⟨h2,e2⟩=>?_,fun ⟨h2,e2⟩=>?_⟩
  ·have hbad:=Fv n i c hc e2
   have hne:fo c=4:=by
    unfold fo at e2 ⊢
    split at e2
    ·rename_i q;rw [if_pos q]
    ·exact absurd rfl e2
   have hv:da n=4:=by unfold da;rw [if_pos hbad]
   simp only [↓wR,RA,simprocAttr,TF,ae,h2,hv,hne]
  ·simp only [↓wR,RA,simprocAttr,TF,ae,h2];repeat (simp (disch:=omega) only [ag,bz,bw,bu,ca];try simp only [↓wR,RA,simprocAttr,TF,ae,h2])
   refine ⟨i+1,⟨hlt,?_⟩,by omega,by (first|rfl|trivial|omega|((try (simp (disch:=omega) only [ag]));(try (simp only [FB]));first|done|rfl|omega))⟩
   rw [Gz n i c hc,hb];simpa using e2
 ·have hin:n.take i=n:=List.take_of_length_le (by omega)
  rw [hin] at hb
  simp only [↓wR,RA,simprocAttr,TF,ae,h,vq,hn]
  rw [a9];refine ⟨fun h3=>?_,fun h3=>?_⟩
  ·have hv:da n=5:=by unfold da;rw [hb,if_neg (by simp),if_pos (by omega)]
   simp only [↓wR,RA,simprocAttr,TF,ae,h3,hv]
  ·have hv:da n=0:=by unfold da;rw [hb,if_neg (by simp),if_neg (by omega)]
   simp only [↓wR,RA,simprocAttr,TF,ae,h3,hv]
noncomputable def zk (x:Name × Unit):Option AV:=if bp x.1<17592186044416 then some ((r1 (bo .i64)).E true (da x.1)) else none
set_option maxRecDepth 2000000 in
theorem Je (x:Name × Unit) (r:AV) (h:zk x=some r):bb PP 85 ((aC aj a0).E x) r:=by
 by_cases hc:bp x.1<17592186044416
 case neg=>simp only [zk,if_neg hc] at h;cases h
 simp only [zk,if_pos hc] at h
 cases h
 exact au (ai.cons (ak Pu) (ai.cons (ak Ju) (ai.nil PP))) Tryz.func85 (by kernel_rfl) (by kernel_rfl) (by kernel_rfl) (Nat.le_of_ble_eq_true (by kernel_rfl)) (r1 (bo .i64)) true (da x.1) (agr x.1 hc)
noncomputable abbrev ahn:Nat × Bool × (List AV→M AV):=(85,true,cx (aC aj a0) zk)
theorem Xz (l:List ByteArray):dr [] l=0:=by cases l<;>rfl
theorem adp (a b:Name) (ha:cp a) (hb:cp b):wl PP [Kg] 0 (Tryz.f113.body.getD .skip) (cy PP Tryz.f113.results.toList (fun r st=>(r1 (bo .i64)).get true st.h r=some (common a b:Int))) (cf 0 [aj.val false a,aj.val false b]) (bk []):=by
 have hq:∀ a b c d,er a b c=d→er a b c=d:=fun _ _ _ _ h=>h
 have la:=ha.lt
 have lb:=hb.lt
 unfold Tryz.f113
 simp only [ct]
 simp only [↓wR,RA,simprocAttr,TF,ae]
 refine de [0,1,5] (fun (x:Nat)=>[.vl false 1 (a.map (aq.val false)),.vl false 1 (b.map (aq.val false)),.sc (.int .i64 (x))]) (fun _=>[]) (fun x=>x≤a.length∧x≤b.length∧common a b=x+dr (a.reverse.drop x) (b.reverse.drop x)) (fun x=>a.length - x) 0 ⟨Nat.zero_le _,Nat.zero_le _,by simp [common]⟩ (by simp only [↓wR,RA,simprocAttr,TF,ae]<;>rfl) (by simp only [↓wR,RA,simprocAttr,TF,ae]<;>rfl) ?_
 rintro x ⟨hx,hx2,hR⟩
 simp only [↓wR,RA,simprocAttr,TF,ae]
 refine ⟨by kernel_rfl,.inl ?_⟩
 rw [a9];refine ⟨fun h1=>?_,fun h1=>?_⟩
 ·simp only [↓wR,RA,simprocAttr,TF,ae,h1]
  rw [a9];refine ⟨fun h2=>?_,fun h2=>?_⟩
  ·obtain ⟨c,hc⟩:∃ c,a[a.length - 1 - x]? = some c:=⟨_,List.getElem?_eq_getElem (by omega)⟩
   obtain ⟨d,hd⟩:∃ d,b[b.length - 1 - x]? = some d:=⟨_,List.getElem?_eq_getElem (by omega)⟩
   have e1:((a.length:Int) - 1 - x).toNat=a.length - 1 - x:=by omega
   have e2:(0:Int)≤(a.length:Int) - 1 - x:=by omega
   have e4:((b.length:Int) - 1 - x).toNat=b.length - 1 - x:=by omega
   have e5:(0:Int)≤(b.length:Int) - 1 - x:=by omega
   rw [El (by omega) hc,El (by omega) hd,dr] at hR
   simp only [↓wR,RA,simprocAttr,TF,ae,h2,e1,e2,e4,e5,hc,hd,mr,ha.label c (List.mem_of_getElem? hc),hb.label d (List.mem_of_getElem? hd)];repeat (simp (disch:=omega) only [ag,bz,bw,bu,ca];try simp only [↓wR,RA,simprocAttr,TF,ae,h2,e1,e2,e4,e5,hc,hd,mr,ha.label c (List.mem_of_getElem? hc),hb.label d (List.mem_of_getElem? hd)])
   refine ⟨by apply hq;kernel_rfl,?_⟩
   rw [cr];refine ⟨fun ⟨h3,e3⟩=>?_,fun ⟨h3,e3⟩=>?_⟩
   ·have h4:fold c=fold d:=Qg e3
    rw [if_pos h4] at hR
    simp only [↓wR,RA,simprocAttr,TF,ae,h3];repeat (simp (disch:=omega) only [ag,bz,bw,bu,ca];try simp only [↓wR,RA,simprocAttr,TF,ae,h3])
    exact ⟨x+1,⟨by omega,by omega,by omega⟩,by omega,by (first|rfl|trivial|omega|((try (simp (disch:=omega) only [ag]));(try (simp only [FB]));first|done|rfl|omega))⟩
   ·have h4:¬ fold c=fold d:=fun q=>e3 (by rw [q];unfold qe;exact Hy _)
    rw [if_neg h4] at hR
    simp only [↓wR,RA,simprocAttr,TF,ae,h3];repeat (simp (disch:=omega) only [ag,bz,bw,bu,ca];try simp only [↓wR,RA,simprocAttr,TF,ae,h3])
    rw [hR,Nat.add_zero]
  ·have h5:b.reverse.drop x=[]:=List.drop_eq_nil_of_le (by simp;omega)
   rw [h5,J0] at hR
   simp only [↓wR,RA,simprocAttr,TF,ae,h2];repeat (simp (disch:=omega) only [ag,bz,bw,bu,ca];try simp only [↓wR,RA,simprocAttr,TF,ae,h2])
   refine ⟨by apply hq;kernel_rfl,?_⟩
   rw [hR,Nat.add_zero]
 ·have h5:a.reverse.drop x=[]:=List.drop_eq_nil_of_le (by simp;omega)
  rw [h5,Xz] at hR
  simp only [↓wR,RA,simprocAttr,TF,ae,h1];repeat (simp (disch:=omega) only [ag,bz,bw,bu,ca];try simp only [↓wR,RA,simprocAttr,TF,ae,h1])
  refine ⟨by apply hq;kernel_rfl,?_⟩
  rw [hR,Nat.add_zero]
noncomputable def rn (x:Name × Name × Unit):Option AV:=if cp x.1∧cp x.2.1 then some ((r1 (bo .i64)).E true ((common x.1 x.2.1:Int))) else none
set_option maxRecDepth 2000000 in
theorem Gy (x:Name × Name × Unit) (r:AV) (h:rn x=some r):bb PP 113 ((aC aj (aC aj a0)).E x) r:=by
 by_cases hc:cp x.1∧cp x.2.1
 case neg=>simp only [rn,if_neg hc] at h;cases h
 simp only [rn,if_pos hc] at h
 cases h
 exact au (ai.cons (ak z7) (ai.nil PP)) Tryz.func113 (by kernel_rfl) (by kernel_rfl) (by kernel_rfl) (Nat.le_of_ble_eq_true (by kernel_rfl)) (r1 (bo .i64)) true ((common x.1 x.2.1:Int)) (adp x.1 x.2.1 hc.1 hc.2)
noncomputable abbrev Pv:Nat × Bool × (List AV→M AV):=(113,true,cx (aC aj (aC aj a0)) rn)
theorem as2 (n top:Name) (hn:cp n) (ht:cp top):wl PP [Pv] 0 (Tryz.f74.body.getD .skip) (cy PP Tryz.f74.results.toList (fun r st=>(r1 bc).get true st.h r=some (qo n top))) (cf 0 [aj.val false n,aj.val false top]) (bk []):=by
 unfold Tryz.f74
 simp only [ct]
 simp only [↓wR,RA,simprocAttr,TF,ae,rn,hn,ht]
 congr 1
 unfold qo
 have:=uk n top
 rw [Bool.eq_iff_iff];simp [← this];omega
theorem akm (n top:Name) (hn:cp n) (ht:cp top):wl PP [Pv] 0 (Tryz.f62.body.getD .skip) (cy PP Tryz.f62.results.toList (fun r st=>(r1 bc).get true st.h r=some (fm n top))) (cf 0 [aj.val false n,aj.val false top]) (bk []):=by
 unfold Tryz.f62
 simp only [ct]
 simp only [↓wR,RA,simprocAttr,TF,ae,rn,hn,ht]
 rw [dg];refine ⟨fun h=>?_,fun h=>?_⟩
 ·have hl:n.length=top.length:=by simp at h;omega
  simp only [↓wR,RA,simprocAttr,TF,ae,h,rn,hn,ht]
  congr 1
  unfold fm
  have:=xa n top
  rw [Bool.eq_iff_iff];simp [← this,hl];omega
 ·have hl:¬ n.length=top.length:=by simp at h;omega
  simp only [↓wR,RA,simprocAttr,TF,ae,h]
  have:=xa n top
  simp [fm,← this,hl]
noncomputable def Cb (x:Name × Name × Unit):Option AV:=if cp x.1∧cp x.2.1 then some ((r1 bc).E true (fm x.1 x.2.1)) else none
set_option maxRecDepth 2000000 in
theorem N0 (x:Name × Name × Unit) (r:AV) (h:Cb x=some r):bb PP 62 ((aC aj (aC aj a0)).E x) r:=by
 by_cases hc:cp x.1∧cp x.2.1
 case neg=>simp only [Cb,if_neg hc] at h;cases h
 simp only [Cb,if_pos hc] at h
 cases h
 exact au (ai.cons (ak Gy) (ai.nil PP)) Tryz.func62 (by kernel_rfl) (by kernel_rfl) (by kernel_rfl) (Nat.le_of_ble_eq_true (by kernel_rfl)) (r1 bc) true (fm x.1 x.2.1) (akm x.1 x.2.1 hc.1 hc.2)
noncomputable abbrev ame:Nat × Bool × (List AV→M AV):=(62,true,cx (aC aj (aC aj a0)) Cb)
theorem aa0 (a b:Name) (ha:cp a) (hb:cp b):wl PP [Pv,Kg] 0 (Tryz.f116.body.getD .skip) (cy PP Tryz.f116.results.toList (fun r st=>(r1 (bo .i64)).get true st.h r=some (kj a b))) (cf 0 [aj.val false a,aj.val false b]) (bk []):=by
 unfold Tryz.f116
 simp only [ct]
 simp only [↓wR,RA,simprocAttr,TF,ae,rn,ha,hb]
 have h1:=ux a.reverse b.reverse
 have h2:=yv a.reverse b.reverse
 rw [List.length_reverse] at h1 h2
 change common a b≤a.length at h1
 change common a b≤b.length at h2
 obtain ⟨k,hk⟩:∃ k,common a b=k:=⟨_,rfl⟩
 rw [hk] at h1 h2
 unfold kj
 rw [hk]
 rw [dg];refine ⟨fun h=>?_,fun h=>?_⟩
 ·simp only [↓wR,RA,simprocAttr,TF,ae,h]
  have hka:k=a.length:=by simp at h;omega
  rw [dg];refine ⟨fun h3=>?_,fun h3=>?_⟩
  ·have hkb:k=b.length:=by simp at h3;omega
   simp only [↓wR,RA,simprocAttr,TF,ae,h3]
   rw [if_pos ⟨hka,hkb⟩]
  ·have hkb:¬ k=b.length:=by simp at h3;omega
   simp only [↓wR,RA,simprocAttr,TF,ae,h3,h]
   rw [if_neg (fun e=>hkb e.2),if_pos hka]
 ·simp only [↓wR,RA,simprocAttr,TF,ae,h]
  have hka:¬ k=a.length:=by simp at h;omega
  rw [dg];refine ⟨fun h3=>?_,fun h3=>?_⟩
  ·have hkb:k=b.length:=by simp at h3;omega
   simp only [↓wR,RA,simprocAttr,TF,ae,h3]
   rw [if_neg (fun e=>hka e.1),if_neg hka,if_pos hkb]
  ·have hkb:¬ k=b.length:=by simp at h3;omega
   rw [if_neg (fun e=>hka e.1),if_neg hka,if_neg hkb]
   obtain ⟨x,hx⟩:∃ x,a[a.length - 1 - k]? = some x:=⟨_,List.getElem?_eq_getElem (by omega)⟩
   obtain ⟨y,hy⟩:∃ y,b[b.length - 1 - k]? = some y:=⟨_,List.getElem?_eq_getElem (by omega)⟩
   simp only [↓wR,RA,simprocAttr,TF,ae,h3]
   refine ⟨by kernel_rfl,.inl ?_⟩
   have la:=ha.len
   have lb:=hb.len
   simp (disch:=omega) only [ag,bz,bw,bu,ca]
   have e1:(((a.length:Int) - 1) - k).toNat=a.length - 1 - k:=by omega
   have e2:(0:Int)≤((a.length:Int) - 1) - k:=by omega
   have e3:(((b.length:Int) - 1) - k).toNat=b.length - 1 - k:=by omega
   have e4:(0:Int)≤((b.length:Int) - 1) - k:=by omega
   simp only [↓wR,RA,simprocAttr,TF,ae,hx,e1,e2]
   simp (disch:=omega) only [ag,bz,bw,bu,ca]
   simp only [↓wR,RA,simprocAttr,TF,ae,hy,e3,e4,mr,ha.label x (List.mem_of_getElem? hx),hb.label y (List.mem_of_getElem? hy)]
   exact ⟨by kernel_rfl,by simp [T5,hx,hy]⟩
noncomputable def x5 (x:Name × Name × Unit):Option AV:=if cp x.1∧cp x.2.1 then some ((r1 (bo .i64)).E true (kj x.1 x.2.1)) else none
set_option maxRecDepth 2000000 in
theorem Tl (x:Name × Name × Unit) (r:AV) (h:x5 x=some r):bb PP 116 ((aC aj (aC aj a0)).E x) r:=by
 by_cases hc:cp x.1∧cp x.2.1
 case neg=>simp only [x5,if_neg hc] at h;cases h
 simp only [x5,if_pos hc] at h
 cases h
 exact au (ai.cons (ak Gy) (ai.cons (ak z7) (ai.nil PP))) Tryz.func116 (by kernel_rfl) (by kernel_rfl) (by kernel_rfl) (Nat.le_of_ble_eq_true (by kernel_rfl)) (r1 (bo .i64)) true (kj x.1 x.2.1) (aa0 x.1 x.2.1 hc.1 hc.2)
noncomputable abbrev alx:Nat × Bool × (List AV→M AV):=(116,true,cx (aC aj (aC aj a0)) x5)
noncomputable def kf:cw Shape:=Da (k6 (bo .i64) (k6 (bo .i64) (k6 (bo .i64) (k6 (bo .i64) (bo .i64))))) (fun s=>(s.names,s.nums,s.texts,s.raw,s.size)) (fun p=>⟨p.1,p.2.1,p.2.2.2.2,p.2.2.1,p.2.2.2.1⟩) (fun _=>rfl) (fun _=>rfl)
theorem pk (l:Bool) (s:Shape):kf.val l s = .agg [.sc (.int .i64 s.names),.sc (.int .i64 s.nums),.sc (.int .i64 s.texts),.sc (.int .i64 s.raw),.sc (.int .i64 s.size)]:=id rfl
theorem fe (fr h) (a b c d e:Int):kf.ga fr h (.agg [.sc (.int .i64 a),.sc (.int .i64 b),.sc (.int .i64 c),.sc (.int .i64 d),.sc (.int .i64 e)])=some ⟨a,b,e,c,d⟩:=apz kf fr h ⟨a,b,e,c,d⟩
theorem ara (t:UInt16):wl PP [] 0 (Tryz.f164.body.getD .skip) (cy PP Tryz.f164.results.toList (fun r st=>(r2 kf bc).get true st.h r=some (cj t,!jv t))) (cf 0 [bj.val false t]) (bk []):=by
 have hk:∀ n:Int,(t.toNat:Int)=n→n≠0→¬ (128≤n∧n≤255)→jv t=false:=by
  intro n h1 h2 h3
  unfold jv
  rw [h1]
  simp only [Bool.or_eq_false_iff,beq_eq_false_iff_ne,ne_eq,Bool.and_eq_false_iff,decide_eq_false_iff_not]
  exact ⟨h2,by omega⟩
 unfold Tryz.f164
 unfold cj
 simp only [↓wR,RA,simprocAttr,TF,ae]
 rw [cr];refine ⟨fun ⟨h0,e0⟩=>?_,fun ⟨h0,e0⟩=>?_⟩
 ·simp only [↓wR,RA,simprocAttr,TF,ae,h0,fe,hk _ e0 (by decide) (by decide)]
  rw [if_pos e0]
 rw [if_neg e0]
 simp only [↓wR,RA,simprocAttr,TF,ae,h0]
 rw [cr];refine ⟨fun ⟨h1,e1⟩=>?_,fun ⟨h1,e1⟩=>?_⟩
 ·simp only [↓wR,RA,simprocAttr,TF,ae,h1,fe,hk _ e1 (by decide) (by decide)]
  rw [if_pos e1]
 rw [if_neg e1]
 simp only [↓wR,RA,simprocAttr,TF,ae,h1]
 rw [cr];refine ⟨fun ⟨h2,e2⟩=>?_,fun ⟨h2,e2⟩=>?_⟩
 ·simp only [↓wR,RA,simprocAttr,TF,ae,h2,fe,hk _ e2 (by decide) (by decide)]
  rw [if_pos e2]
 rw [if_neg e2]
 simp only [↓wR,RA,simprocAttr,TF,ae,h2]
 rw [cr];refine ⟨fun ⟨h3,e3⟩=>?_,fun ⟨h3,e3⟩=>?_⟩
 ·simp only [↓wR,RA,simprocAttr,TF,ae,h3,fe,hk _ e3 (by decide) (by decide)]
  rw [if_pos e3]
 rw [if_neg e3]
 simp only [↓wR,RA,simprocAttr,TF,ae,h3]
 rw [cr];refine ⟨fun ⟨h4,e4⟩=>?_,fun ⟨h4,e4⟩=>?_⟩
 ·simp only [↓wR,RA,simprocAttr,TF,ae,h4,fe,hk _ e4 (by decide) (by decide)]
  rw [if_pos e4]
 rw [if_neg e4]
 simp only [↓wR,RA,simprocAttr,TF,ae,h4]
 rw [cr];refine ⟨fun ⟨h5,e5⟩=>?_,fun ⟨h5,e5⟩=>?_⟩
 ·simp only [↓wR,RA,simprocAttr,TF,ae,h5,fe,hk _ e5 (by decide) (by decide)]
  rw [if_pos e5]
 rw [if_neg e5]
 simp only [↓wR,RA,simprocAttr,TF,ae,h5]
 rw [cr];refine ⟨fun ⟨h6,e6⟩=>?_,fun ⟨h6,e6⟩=>?_⟩
 ·simp only [↓wR,RA,simprocAttr,TF,ae,h6,fe,hk _ e6 (by decide) (by decide)]
  rw [if_pos e6]
 rw [if_neg e6]
 simp only [↓wR,RA,simprocAttr,TF,ae,h6]
 rw [cr];refine ⟨fun ⟨h7,e7⟩=>?_,fun ⟨h7,e7⟩=>?_⟩
 ·simp only [↓wR,RA,simprocAttr,TF,ae,h7,fe,hk _ e7 (by decide) (by decide)]
  rw [if_pos e7]
 rw [if_neg e7]
 simp only [↓wR,RA,simprocAttr,TF,ae,h7]
 rw [cr];refine ⟨fun ⟨h8,e8⟩=>?_,fun ⟨h8,e8⟩=>?_⟩
 ·simp only [↓wR,RA,simprocAttr,TF,ae,h8,fe,hk _ e8 (by decide) (by decide)]
  rw [if_pos e8]
 rw [if_neg e8]
 simp only [↓wR,RA,simprocAttr,TF,ae,h8]
 rw [cr];refine ⟨fun ⟨h9,e9⟩=>?_,fun ⟨h9,e9⟩=>?_⟩
 ·simp only [↓wR,RA,simprocAttr,TF,ae,h9,fe,hk _ e9 (by decide) (by decide)]
  rw [if_pos e9]
 rw [if_neg e9]
 simp only [↓wR,RA,simprocAttr,TF,ae,h9]
 have hb:(!jv t)=(if (t.toNat:Int)=0 then false else if (t.toNat:Int)<128 then true else decide (255<(t.toNat:Int))):=by
  unfold jv
  rw [Bool.eq_iff_iff]
  split
  ·rename_i h;simp [h]
  ·split
   ·rename_i h1 h2;simp [h1];omega
   ·rename_i h1 h2;simp [h1];omega
 rw [hb]
 rw [dz];refine ⟨fun ⟨h10,e10⟩=>?_,fun ⟨h10,e10⟩=>?_⟩
 ·rw [if_neg e10]
  simp only [↓wR,RA,simprocAttr,TF,ae,h10]
  rw [a9];refine ⟨fun h11=>?_,fun h11=>?_⟩
  ·rw [if_pos h11]
   simp only [↓wR,RA,simprocAttr,TF,ae,h11,fe]
  ·rw [if_neg h11]
   simp only [↓wR,RA,simprocAttr,TF,ae,h11,fe]
 ·rw [if_pos e10]
  simp only [↓wR,RA,simprocAttr,TF,ae,h10,fe]
noncomputable def W2 (x:UInt16 × Unit):Option AV:=some ((r2 kf bc).E true ((cj x.1,!jv x.1)))
set_option maxRecDepth 2000000 in
theorem Ks (x:UInt16 × Unit) (r:AV) (h:W2 x=some r):bb PP 164 ((aC bj a0).E x) r:=by
 cases h
 exact au (ai.nil PP) Tryz.func164 (by kernel_rfl) (by kernel_rfl) (by kernel_rfl) (Nat.le_of_ble_eq_true (by kernel_rfl)) (r2 kf bc) true ((cj x.1,!jv x.1)) (ara x.1)
noncomputable abbrev rOf:Nat × Bool × (List AV→M AV):=(164,true,cx (aC bj a0) W2)
def ta (n:Int):UInt32:=if n=1 then 255 else if n=2 then 65535 else 4294967295
theorem aj9 (n:Int):wl PP [] 0 (Tryz.f188.body.getD .skip) (cy PP Tryz.f188.results.toList (fun r st=>(r1 br).get true st.h r=some (ta n))) (cf 0 [(bo .i64).val false n]) (bk []):=by
 unfold ta
 unfold Tryz.f188
 simp only [↓wR,RA,simprocAttr,TF,ae]
 rw [cr];refine ⟨fun ⟨h0,e0⟩=>?_,fun ⟨h0,e0⟩=>?_⟩
 ·simp only [↓wR,RA,simprocAttr,TF,ae,h0]
  rw [if_pos e0];rfl
 rw [if_neg e0]
 simp only [↓wR,RA,simprocAttr,TF,ae,h0]
 rw [cr];refine ⟨fun ⟨h1,e1⟩=>?_,fun ⟨h1,e1⟩=>?_⟩
 ·simp only [↓wR,RA,simprocAttr,TF,ae,h1]
  rw [if_pos e1];rfl
 rw [if_neg e1]
 simp only [↓wR,RA,simprocAttr,TF,ae,h1]
 rfl
noncomputable def Un (x:Int × Unit):Option AV:=some ((r1 br).E true (ta x.1))
set_option maxRecDepth 2000000 in
theorem afu (x:Int × Unit) (r:AV) (h:Un x=some r):bb PP 188 ((aC (bo .i64) a0).E x) r:=by
 cases h
 exact au (ai.nil PP) Tryz.func188 (by kernel_rfl) (by kernel_rfl) (by kernel_rfl) (Nat.le_of_ble_eq_true (by kernel_rfl)) (r1 br) true (ta x.1) (aj9 x.1)
noncomputable abbrev ary:Nat × Bool × (List AV→M AV):=(188,true,cx (aC (bo .i64) a0) Un)
theorem ad9 (n:UInt32) (k:Int) (hk : 0≤k∧k≤4):wl PP [] 0 (Tryz.f191.body.getD .skip) (cy PP Tryz.f191.results.toList (fun r st=>(r1 (bh ay)).get false st.h r=some ((ug n).drop (4 - k).toNat))) (cf 0 [br.val false n,(bo .i64).val false k]) (bk []):=by
 unfold Tryz.f191
 simp only [↓wR,RA,simprocAttr,TF,ae]
 simp (disch:=omega) only [ag,bz,bw,bu,ca]
 have h4:(4 - k).toNat≤4:=by omega
 have hkk:k=0∨k=1∨k=2∨k=3∨k=4:=by omega
 simp only [↓wR,RA,simprocAttr,TF,ae,hk,h4]
 rcases hkk with rfl|rfl|rfl|rfl|rfl<;>first|rfl|(simp only [↓wR,RA,simprocAttr,TF,ae,M9];done)|(simp only [↓wR,RA,simprocAttr,TF,ae,M9,List.drop,List.take];rfl)
noncomputable def wt (x:UInt32 × Int × Unit):Option AV:=if 0≤x.2.1∧x.2.1≤4 then some ((r1 (bh ay)).E false (((ug x.1).drop (4 - x.2.1).toNat))) else none
set_option maxRecDepth 2000000 in
theorem Wa (x:UInt32 × Int × Unit) (r:AV) (h:wt x=some r):bb PP 191 ((aC br (aC (bo .i64) a0)).E x) r:=by
 by_cases hc : 0≤x.2.1∧x.2.1≤4
 case neg=>simp only [wt,if_neg hc] at h;cases h
 simp only [wt,if_pos hc] at h
 cases h
 exact au (ai.nil PP) Tryz.func191 (by kernel_rfl) (by kernel_rfl) (by kernel_rfl) (Nat.le_of_ble_eq_true (by kernel_rfl)) (r1 (bh ay)) false (((ug x.1).drop (4 - x.2.1).toNat)) (ad9 x.1 x.2.1 hc)
noncomputable abbrev am6:Nat × Bool × (List AV→M AV):=(191,true,cx (aC br (aC (bo .i64) a0)) wt)
theorem ao6 (s:ByteArray) (hs:s.size≤16777216):wl PP [] 0 (Tryz.f189.body.getD .skip) (cy PP Tryz.f189.results.toList (fun r st=>(r1 bc).get true st.h r=some (oi s))) (cf 0 [aq.val false s]) (bk []):=by
 unfold Tryz.f189
 simp only [↓wR,RA,simprocAttr,TF,ae]
 rw [a9];refine ⟨fun h1=>?_,fun h1=>?_⟩
 ·have hv:oi s=false:=by unfold oi;rw [Bool.and_eq_false_iff];right;rw [decide_eq_false_iff_not];omega
  simp only [↓wR,RA,simprocAttr,TF,ae,h1,hv]
 simp only [↓wR,RA,simprocAttr,TF,ae,h1]
 rw [a9];refine ⟨fun h2=>?_,fun h2=>?_⟩
 ·have hv:oi s=false:=by unfold oi;rw [Bool.and_eq_false_iff];right;rw [decide_eq_false_iff_not];omega
  simp only [↓wR,RA,simprocAttr,TF,ae,h2,hv]
 simp only [↓wR,RA,simprocAttr,TF,ae,h2]
 refine de [0,3] (fun (i:Nat)=>[.sc (.string s),.sc (.int .i64 i)]) (fun _=>[]) (fun i=>i≤s.size∧s.data.toList.all wc=(s.data.toList.drop i).all wc) (fun i=>s.size - i) 0 ⟨Nat.zero_le _,rfl⟩ (by simp only [↓wR,RA,simprocAttr,TF,ae]<;>rfl) (by simp only [↓wR,RA,simprocAttr,TF,ae]<;>rfl) ?_
 rintro i ⟨hi,hR⟩
 simp only [↓wR,RA,simprocAttr,TF,ae]
 rw [a9];refine ⟨fun h=>?_,fun h=>?_⟩
 ·obtain ⟨c,hc⟩:∃ c,s.data.toList[i]? = some c:=⟨_,List.getElem?_eq_getElem (by simp;omega)⟩
  have hd:=Db hc
  rw [hd,List.all_cons] at hR
  simp only [↓wR,RA,simprocAttr,TF,ae,h,hc];repeat (simp (disch:=omega) only [ag,bz,bw,bu,ca];try simp only [↓wR,RA,simprocAttr,TF,ae,h,hc])
  repeat' (rw [a9];refine ⟨fun h=>?_,fun h=>?_⟩<;>simp only [↓wR,RA,simprocAttr,TF,h,hc])
  all_goals first
   |(
    have ht:wc c=false:=by (unfold wc;rw [decide_eq_false_iff_not];omega)
    rw [oi,hR,ht];rfl)
   |(
    have ht:wc c=true:=by (unfold wc;rw [decide_eq_true_eq];omega)
    refine ⟨i+1,⟨by omega,by rw [hR,ht];simp⟩,by omega,by (first|rfl|trivial|omega|((try (simp (disch:=omega) only [ag]));(try (simp only [FB]));first|done|rfl|omega))⟩)
 ·have hdn:s.data.toList.drop i=[]:=List.drop_eq_nil_of_le (by simp;omega)
  rw [hdn,List.all_nil] at hR
  have hv:oi s=true:=by unfold oi;rw [hR,Bool.true_and,decide_eq_true_eq];omega
  simp only [↓wR,RA,simprocAttr,TF,ae,h,hv]
noncomputable def M1 (x:ByteArray × Unit):Option AV:=if x.1.size≤16777216 then some ((r1 bc).E true (oi x.1)) else none
set_option maxRecDepth 2000000 in
theorem ai6 (x:ByteArray × Unit) (r:AV) (h:M1 x=some r):bb PP 189 ((aC aq a0).E x) r:=by
 by_cases hc:x.1.size≤16777216
 case neg=>simp only [M1,if_neg hc] at h;cases h
 simp only [M1,if_pos hc] at h
 cases h
 exact au (ai.nil PP) Tryz.func189 (by kernel_rfl) (by kernel_rfl) (by kernel_rfl) (Nat.le_of_ble_eq_true (by kernel_rfl)) (r1 bc) true (oi x.1) (ao6 x.1 hc)
noncomputable abbrev atg:Nat × Bool × (List AV→M AV):=(189,true,cx (aC aq a0) M1)
noncomputable def If (t:UInt16) (d:bf):Bool:=if (t.toNat:Int)=257 then oi (d.texts.headD ⟨#[]⟩) else true
noncomputable def aev (t:UInt16) (d:bf):Bool:=if (t.toNat:Int)=16∧(d.texts.any fun x=>decide (255<x.size))=true then false else If t d
noncomputable def T0 (s:Shape) (t:UInt16) (d:bf):Bool:=if (d.nums.any fun n=>decide ((ta s.size).toNat<n.toNat))=true then false else aev t d
def ln (s:Shape) (d:bf):Prop:=((d.names.length:Int)≠s.names∨(d.nums.length:Int)≠s.nums)∨(0≤s.texts∧(d.texts.length:Int)≠s.texts)∨(s.texts<0∧(d.texts.length:Int)=0)∨(0≤s.raw∧(d.raw.length:Int)≠s.raw)
noncomputable def yu (s:Shape) (t:UInt16) (d:bf):Bool:=open Classical in if ln s d then false else T0 s t d
def N4 (s:Shape) (t:UInt16):Prop:=(t.toNat:Int)=257→s.texts=2
instance (s:Shape) (t:UInt16):Decidable (N4 s t):=inferInstanceAs (Decidable (_→_))
set_option maxHeartbeats 4000000 in
theorem ald (s:Shape) (t:UInt16) (d:bf) (hd:cd d) (h257:N4 s t):wl PP [ary,atg] 0 (Tryz.f165.body.getD .skip) (cy PP Tryz.f165.results.toList (fun r st=>(r1 bc).get true st.h r=some (yu s t d))) (cf 0 [bj.val false t,kf.val false s,aw.val false d]) (bk []):=by
 obtain ⟨l1,l2,l3,l4⟩:=hd.lens
 have hbad:ln s d→yu s t d=false:=fun h=>if_pos h
 have hok:¬ ln s d→yu s t d=T0 s t d:=fun h=>if_neg h
 unfold Tryz.f165
 simp only [pk,ep,ct]
 have hg:∀ (L:SL) (P1:Prop),(P1→0<d.texts.length)→True:=fun _ _ _=>trivial
 simp only [↓wR,RA,simprocAttr,TF,ae]
 rw [dz];refine ⟨fun ⟨a1,e1⟩=>?_,fun ⟨a1,e1⟩=>?_⟩
 ·have hv:=hbad (.inl (.inl e1))
  simp only [↓wR,RA,simprocAttr,TF,ae,a1,hv]
 simp only [↓wR,RA,simprocAttr,TF,ae,a1]
 rw [dz];refine ⟨fun ⟨a2,e2⟩=>?_,fun ⟨a2,e2⟩=>?_⟩
 ·have hv:=hbad (.inl (.inr e2))
  simp only [↓wR,RA,simprocAttr,TF,ae,a2,hv]
 simp only [↓wR,RA,simprocAttr,TF,ae,a2]
 rw [a9];refine ⟨fun h3=>?_,fun h3=>?_⟩
 simp only [↓wR,RA,simprocAttr,TF,ae,h3]
 rw [dz];refine ⟨fun ⟨a3,e3⟩=>?_,fun ⟨a3,e3⟩=>?_⟩
 have hv:=hbad (.inr (.inl ⟨h3,e3⟩))
 simp only [↓wR,RA,simprocAttr,TF,ae,a3,hv]
 simp only [↓wR,RA,simprocAttr,TF,ae,a3]
 rw [a9];refine ⟨fun h4=>?_,fun h4=>?_⟩
 exfalso;omega
 simp only [↓wR,RA,simprocAttr,TF,ae,h4]
 rw [a9];refine ⟨fun h5=>?_,fun h5=>?_⟩
 simp only [↓wR,RA,simprocAttr,TF,ae,h5]
 rw [dz];refine ⟨fun ⟨a4,e4⟩=>?_,fun ⟨a4,e4⟩=>?_⟩
 have hv:=hbad (.inr (.inr (.inr ⟨h5,e4⟩)))
 simp only [↓wR,RA,simprocAttr,TF,ae,a4,hv]
 have hv:=hok (by unfold ln;omega)
 have hp:(t.toNat:Int)=257→0<d.texts.length:=fun q=>by have:=h257 q;omega
 simp only [↓wR,RA,simprocAttr,TF,ae,a4]
 rotate_left
 have hv:=hok (by unfold ln;omega)
 have hp:(t.toNat:Int)=257→0<d.texts.length:=fun q=>by have:=h257 q;omega
 simp only [↓wR,RA,simprocAttr,TF,ae,h5]
 rotate_left
 simp only [↓wR,RA,simprocAttr,TF,ae,h3]
 rw [a9];refine ⟨fun h4=>?_,fun h4=>?_⟩
 simp only [↓wR,RA,simprocAttr,TF,ae,h4]
 rw [cr];refine ⟨fun ⟨a3,e3⟩=>?_,fun ⟨a3,e3⟩=>?_⟩
 have hv:=hbad (.inr (.inr (.inl ⟨h4,e3⟩)))
 simp only [↓wR,RA,simprocAttr,TF,ae,a3,hv]
 simp only [↓wR,RA,simprocAttr,TF,ae,a3]
 rw [a9];refine ⟨fun h5=>?_,fun h5=>?_⟩
 simp only [↓wR,RA,simprocAttr,TF,ae,h5]
 rw [dz];refine ⟨fun ⟨a4,e4⟩=>?_,fun ⟨a4,e4⟩=>?_⟩
 have hv:=hbad (.inr (.inr (.inr ⟨h5,e4⟩)))
 simp only [↓wR,RA,simprocAttr,TF,ae,a4,hv]
 have hv:=hok (by unfold ln;omega)
 have hp:(t.toNat:Int)=257→0<d.texts.length:=fun q=>by have:=h257 q;omega
 simp only [↓wR,RA,simprocAttr,TF,ae,a4]
 rotate_left
 have hv:=hok (by unfold ln;omega)
 have hp:(t.toNat:Int)=257→0<d.texts.length:=fun q=>by have:=h257 q;omega
 simp only [↓wR,RA,simprocAttr,TF,ae,h5]
 rotate_left
 exfalso;omega
 all_goals
  rw [hv]
  clear hv hg hbad hok h257
  unfold T0
  refine de [0,4,5,7] (fun (i:Nat)=>[.sc (.int .u16 t.toNat),.ptr 0 0,.ptr 1 0,.sc (.int .i64 (i))]) (fun _=>[some (.row [.sc (.int .i64 (s).names),.sc (.int .i64 (s).nums),.sc (.int .i64 (s).texts),.sc (.int .i64 (s).raw),.sc (.int .i64 (s).size)] 0 2 183),some (.row [.vl false 1 (d.names.map (aj.val false)),.vl false 1 (d.nums.map (br.val false)),.vl false 1 (d.texts.map (aq.val false)),.vl false 1 (d.raw.map (ay.val false))] 0 2 101)]) (fun i=>i≤d.nums.length∧(d.nums.any fun n=>decide ((ta s.size).toNat<n.toNat))=((d.nums.drop i).any fun n=>decide ((ta s.size).toNat<n.toNat))) (fun i=>d.nums.length - i) 0 ⟨Nat.zero_le _,by rw [List.drop_zero]⟩ (by simp only [↓wR,RA,simprocAttr,TF,ae]<;>rfl) (by simp only [↓wR,RA,simprocAttr,TF,ae]<;>rfl) ?_
  rintro i ⟨hi,hR⟩
  simp only [↓wR,RA,simprocAttr,TF,ae]
  rw [a9];refine ⟨fun h=>?_,fun h=>?_⟩
  ·obtain ⟨c,hc,hd1,hlt⟩:=ee (decide_eq_true h)
   rw [hd1,List.any_cons] at hR
   simp only [↓wR,RA,simprocAttr,TF,ae,h]
   refine ⟨by kernel_rfl,.inl ?_⟩
   simp only [↓wR,RA,simprocAttr,TF,ae,hc,Un]
   refine ⟨by kernel_rfl,?_⟩
   rw [a9];refine ⟨fun h6=>?_,fun h6=>?_⟩
   ·rw [if_pos (by rw [hR,decide_eq_true (by omega),Bool.true_or])]
    simp only [↓wR,RA,simprocAttr,TF,ae,h6]
   ·simp only [↓wR,RA,simprocAttr,TF,ae,h6];repeat (simp (disch:=omega) only [ag,bz,bw,bu,ca];try simp only [↓wR,RA,simprocAttr,TF,ae,h6])
    exact ⟨i+1,⟨hlt,by rw [hR,decide_eq_false (by omega),Bool.false_or]⟩,by omega,by (first|rfl|trivial|omega|((try (simp (disch:=omega) only [ag]));(try (simp only [FB]));first|done|rfl|omega))⟩
  rw [gp (decide_eq_false h),List.any_nil] at hR
  rw [if_neg (by rw [hR];decide)]
  simp only [↓wR,RA,simprocAttr,TF,ae,h]
  unfold aev
  refine de [0,5,8] (fun (i:Nat)=>[.sc (.int .u16 t.toNat),.ptr 0 0,.sc (.int .i64 (i))]) (fun _=>[some (.row [.vl false 1 (d.names.map (aj.val false)),.vl false 1 (d.nums.map (br.val false)),.vl false 1 (d.texts.map (aq.val false)),.vl false 1 (d.raw.map (ay.val false))] 0 2 101)]) (fun i=>i≤d.texts.length∧(d.texts.any fun x=>decide (255<x.size))=((d.texts.drop i).any fun x=>decide (255<x.size))) (fun i=>d.texts.length - i) 0 ⟨Nat.zero_le _,by rw [List.drop_zero]⟩ (by simp only [↓wR,RA,simprocAttr,TF,ae]<;>rfl) (by simp only [↓wR,RA,simprocAttr,TF,ae]<;>rfl) ?_
  rintro i ⟨hi2,hR2⟩
  simp only [↓wR,RA,simprocAttr,TF,ae]
  rw [cr];refine ⟨fun ⟨h7,e7⟩=>?_,fun ⟨h7,e7⟩=>?_⟩
  ·simp only [↓wR,RA,simprocAttr,TF,ae,h7]
   rw [a9];refine ⟨fun h8=>?_,fun h8=>?_⟩
   ·obtain ⟨c,hc,hd1,hlt⟩:=ee (decide_eq_true h8)
    rw [hd1,List.any_cons] at hR2
    simp only [↓wR,RA,simprocAttr,TF,ae,h8,hc]
    rw [a9];refine ⟨fun h9=>?_,fun h9=>?_⟩
    ·rw [if_pos ⟨e7,by rw [hR2,decide_eq_true (by omega),Bool.true_or]⟩]
     simp only [↓wR,RA,simprocAttr,TF,ae,h9]
    ·simp only [↓wR,RA,simprocAttr,TF,ae,h9];repeat (simp (disch:=omega) only [ag,bz,bw,bu,ca];try simp only [↓wR,RA,simprocAttr,TF,ae,h9])
     exact ⟨i+1,⟨hlt,by rw [hR2,decide_eq_false (by omega),Bool.false_or]⟩,by omega,by (first|rfl|trivial|omega|((try (simp (disch:=omega) only [ag]));(try (simp only [FB]));first|done|rfl|omega))⟩
   ·rw [gp (decide_eq_false h8),List.any_nil] at hR2
    rw [if_neg (by rw [hR2];rintro ⟨_,q⟩;cases q)]
    have hv:If t d=true:=if_neg (by omega)
    rw [hv]
    simp only [↓wR,RA,simprocAttr,TF,ae,h8,e7]
  ·rw [if_neg (fun q=>e7 q.1)]
   simp only [↓wR,RA,simprocAttr,TF,ae,h7]
   rw [dz];refine ⟨fun ⟨h10,e10⟩=>?_,fun ⟨h10,e10⟩=>?_⟩
   ·have hv:If t d=true:=if_neg e10
    rw [hv]
    simp only [↓wR,RA,simprocAttr,TF,ae,h10]
   ·obtain ⟨c,hc⟩:∃ c,d.texts[0]? = some c:=⟨_,List.getElem?_eq_getElem (hp e10)⟩
    have hh:d.texts.headD ⟨#[]⟩=c:=by
     cases ht:d.texts with
     |nil=>rw [ht] at hc;cases hc
     |cons a l=>rw [ht] at hc;simpa using hc
    have hv:If t d=oi c:=by unfold If;rw [if_pos e10,hh]
    rw [hv]
    simp only [↓wR,RA,simprocAttr,TF,ae,h10,hc,M1,hd.text c (List.mem_of_getElem? hc)]
noncomputable def Gc (x:UInt16 × Shape × bf × Unit):Option AV:=if cd x.2.2.1∧N4 x.2.1 x.1 then some ((r1 bc).E true (yu x.2.1 x.1 x.2.2.1)) else none
set_option maxRecDepth 2000000 in
theorem adl (x:UInt16 × Shape × bf × Unit) (r:AV) (h:Gc x=some r):bb PP 165 ((aC bj (aC kf (aC aw a0))).E x) r:=by
 by_cases hc:cd x.2.2.1∧N4 x.2.1 x.1
 case neg=>simp only [Gc,if_neg hc] at h;cases h
 simp only [Gc,if_pos hc] at h
 cases h
 exact au (ai.cons (ak afu) (ai.cons (ak ai6) (ai.nil PP))) Tryz.func165 (by kernel_rfl) (by kernel_rfl) (by kernel_rfl) (Nat.le_of_ble_eq_true (by kernel_rfl)) (r1 bc) true (yu x.2.1 x.1 x.2.2.1) (ald x.2.1 x.1 x.2.2.1 hc.1 hc.2)
noncomputable abbrev arv:Nat × Bool × (List AV→M AV):=(165,true,cx (aC bj (aC kf (aC aw a0))) Gc)
def th (l:List Name):Nat:=(l.map bp).sum
def ti (t:UInt16):Nat→List ByteArray→Nat
 |_,[]=>0
 |i,x::r=>x.size+(if (t.toNat:Int)=16∨i=0 then 1 else 0)+ti t (i+1) r
theorem aoe (l:List Name):th l≤lj bp l:=by
 induction l with
 |nil=>exact Nat.le_refl _
 |cons a l ih=>simp only [th,List.map_cons,List.sum_cons,lj,List.foldr_cons] at ih ⊢;omega
theorem ao7 (t:UInt16) (l:List ByteArray):∀ i,ti t i l≤lj ByteArray.size l:=by
 induction l with
 |nil=>intro i;exact Nat.le_refl _
 |cons a l ih=>
  intro i
  have:=ih (i+1)
  simp only [ti,lj,List.foldr_cons] at this ⊢
  split<;>omega
def Cf (s:Shape) (t:UInt16) (d:bf):Int:=d.raw.length+d.nums.length * s.size+th d.names+ti t 0 d.texts
theorem an9 {l:List Name} {i:Nat} {c:Name} (h:l.drop i=c::l.drop (i+1)):th (l.drop i)=bp c+th (l.drop (i+1)):=by rw [h];simp [th]
theorem ao3 {t:UInt16} {l:List ByteArray} {i:Nat} {c:ByteArray} (h:l.drop i=c::l.drop (i+1)):ti t i (l.drop i)=c.size+(if (t.toNat:Int)=16∨i=0 then 1 else 0)+ti t (i+1) (l.drop (i+1)):=by rw [h];rfl
set_option maxHeartbeats 4000000 in
theorem agc (s:Shape) (t:UInt16) (d:bf) (hd:cd d) (hs : 0≤s.size∧s.size≤4):wl PP [agw] 0 (Tryz.f166.body.getD .skip) (cy PP Tryz.f166.results.toList (fun r st=>(r1 (bo .i64)).get true st.h r=some (Cf s t d))) (cf 0 [bj.val false t,kf.val false s,aw.val false d]) (bk []):=by
 obtain ⟨l1,l2,l3,l4⟩:=hd.lens
 have hn:=aoe d.names
 have ht:=ao7 t d.texts 0
 have hw:lj bp d.names+lj ByteArray.size d.texts≤16777216:=by unfold cd Ae at hd;omega
 have hm0 : 0≤(d.nums.length:Int) * s.size:=Int.mul_nonneg (by omega) hs.1
 have hm1:(d.nums.length:Int) * s.size≤d.nums.length * 4:=Int.mul_le_mul_of_nonneg_left hs.2 (by omega)
 have hz:Cf s t d=d.raw.length+d.nums.length * s.size+th d.names+ti t 0 d.texts:=rfl
 obtain ⟨A,hA⟩:∃ A:Int,A=d.raw.length+d.nums.length * s.size:=⟨_,rfl⟩
 rw [hz,← hA]
 have hA0 : 0≤A∧A≤134217728:=by omega
 unfold Tryz.f166
 simp only [pk,ep,ct]
 simp only [↓wR,RA,simprocAttr,TF,ae]
 simp (disch:=omega) only [ag,bz,bw,bu,ca]
 rw [← hA]
 refine de [0,5,7,8] (fun (i:Nat)=>[.sc (.int .u16 t.toNat),.ptr 0 0,.sc (.int .i64 (A+(th d.names - th (d.names.drop i):Nat))),.sc (.int .i64 (i))]) (fun _=>[some (.row [.vl false 1 (d.names.map (aj.val false)),.vl false 1 (d.nums.map (br.val false)),.vl false 1 (d.texts.map (aq.val false)),.vl false 1 (d.raw.map (ay.val false))] 0 2 101)]) (fun i=>i≤d.names.length∧th (d.names.drop i)≤th d.names) (fun i=>d.names.length - i) 0 ⟨Nat.zero_le _,Nat.le_refl _⟩ (by simp only [↓wR,RA,simprocAttr,TF,ae]<;>first|rfl|(rw [List.drop_zero,Nat.sub_self,Int.add_zero])) (by simp only [↓wR,RA,simprocAttr,TF,ae]<;>rfl) ?_
 rintro i ⟨hi,hx⟩
 simp only [↓wR,RA,simprocAttr,TF,ae]
 rw [a9];refine ⟨fun h=>?_,fun h=>?_⟩
 ·obtain ⟨c,hc,hd1,hlt⟩:=ee (decide_eq_true h)
  have e1:=an9 hd1
  have hnc:=hd.name c (List.mem_of_getElem? hc)
  simp only [↓wR,RA,simprocAttr,TF,ae,h,hc,vq,hnc.fit];repeat (simp (disch:=omega) only [ag,bz,bw,bu,ca];try simp only [↓wR,RA,simprocAttr,TF,ae,h,hc,vq,hnc.fit])
  exact ⟨i+1,⟨hlt,by omega⟩,by omega,by (first|rfl|trivial|omega|((try (simp (disch:=omega) only [ag]));(try (simp only [FB]));first|done|rfl|omega))⟩
 rw [gp (decide_eq_false h)]
 have e0:th []=0:=rfl
 rw [e0,Nat.sub_zero]
 simp only [↓wR,RA,simprocAttr,TF,ae,h]
 refine de [0,5,7,9] (fun (i:Nat)=>[.sc (.int .u16 t.toNat),.ptr 0 0,.sc (.int .i64 (A+th d.names+(ti t 0 d.texts - ti t i (d.texts.drop i):Nat))),.sc (.int .i64 (i))]) (fun _=>[some (.row [.vl false 1 (d.names.map (aj.val false)),.vl false 1 (d.nums.map (br.val false)),.vl false 1 (d.texts.map (aq.val false)),.vl false 1 (d.raw.map (ay.val false))] 0 2 101)]) (fun i=>i≤d.texts.length∧ti t i (d.texts.drop i)≤ti t 0 d.texts) (fun i=>d.texts.length - i) 0 ⟨Nat.zero_le _,Nat.le_refl _⟩ (by simp only [↓wR,RA,simprocAttr,TF,ae]<;>first|rfl|(rw [List.drop_zero,Nat.sub_self,Int.add_zero])) (by simp only [↓wR,RA,simprocAttr,TF,ae]<;>rfl) ?_
 rintro i ⟨hi,hx⟩
 simp only [↓wR,RA,simprocAttr,TF,ae]
 rw [a9];refine ⟨fun h2=>?_,fun h2=>?_⟩
 ·obtain ⟨c,hc,hd1,hlt⟩:=ee (decide_eq_true h2)
  have e1:=ao3 (t:=t) hd1
  simp only [↓wR,RA,simprocAttr,TF,ae,h2,hc];repeat (simp (disch:=omega) only [ag,bz,bw,bu,ca];try simp only [↓wR,RA,simprocAttr,TF,ae,h2,hc])
  rw [cr];refine ⟨fun ⟨h3,e3⟩=>?_,fun ⟨h3,e3⟩=>?_⟩
  ·rw [if_pos (.inl e3)] at e1
   simp only [↓wR,RA,simprocAttr,TF,ae,h3];repeat (simp (disch:=omega) only [ag,bz,bw,bu,ca];try simp only [↓wR,RA,simprocAttr,TF,ae,h3])
   exact ⟨i+1,⟨hlt,by omega⟩,by omega,by (first|rfl|trivial|omega|((try (simp (disch:=omega) only [ag]));(try (simp only [FB]));first|done|rfl|omega))⟩
  ·simp only [↓wR,RA,simprocAttr,TF,ae,h3]
   rw [cr];refine ⟨fun ⟨h4,e4⟩=>?_,fun ⟨h4,e4⟩=>?_⟩
   ·rw [if_pos (.inr (by omega))] at e1
    simp only [↓wR,RA,simprocAttr,TF,ae,h4];repeat (simp (disch:=omega) only [ag,bz,bw,bu,ca];try simp only [↓wR,RA,simprocAttr,TF,ae,h4])
    exact ⟨i+1,⟨hlt,by omega⟩,by omega,by (first|rfl|trivial|omega|((try (simp (disch:=omega) only [ag]));(try (simp only [FB]));first|done|rfl|omega))⟩
   ·rw [if_neg (by omega)] at e1
    simp only [↓wR,RA,simprocAttr,TF,ae,h4];repeat (simp (disch:=omega) only [ag,bz,bw,bu,ca];try simp only [↓wR,RA,simprocAttr,TF,ae,h4])
    exact ⟨i+1,⟨hlt,by omega⟩,by omega,by (first|rfl|trivial|omega|((try (simp (disch:=omega) only [ag]));(try (simp only [FB]));first|done|rfl|omega))⟩
 rw [gp (decide_eq_false h2)]
 have e1:ti t i []=0:=by cases i<;>rfl
 rw [e1,Nat.sub_zero]
 simp only [↓wR,RA,simprocAttr,TF,ae,h2]
noncomputable def C2 (x:UInt16 × Shape × bf × Unit):Option AV:=if cd x.2.2.1∧(0≤x.2.1.size∧x.2.1.size≤4) then some ((r1 (bo .i64)).E true (Cf x.2.1 x.1 x.2.2.1)) else none
set_option maxRecDepth 2000000 in
theorem aah (x:UInt16 × Shape × bf × Unit) (r:AV) (h:C2 x=some r):bb PP 166 ((aC bj (aC kf (aC aw a0))).E x) r:=by
 by_cases hc:cd x.2.2.1∧(0≤x.2.1.size∧x.2.1.size≤4)
 case neg=>simp only [C2,if_neg hc] at h;cases h
 simp only [C2,if_pos hc] at h
 cases h
 exact au (ai.cons (ak Ju) (ai.nil PP)) Tryz.func166 (by kernel_rfl) (by kernel_rfl) (by kernel_rfl) (Nat.le_of_ble_eq_true (by kernel_rfl)) (r1 (bo .i64)) true (Cf x.2.1 x.1 x.2.2.1) (agc x.2.1 x.1 x.2.2.1 hc.1 hc.2)
noncomputable abbrev apd:Nat × Bool × (List AV→M AV):=(166,true,cx (aC bj (aC kf (aC aw a0))) C2)
theorem Q7 (s:Shape):(⟨s.names,s.nums,s.size,s.texts,s.raw⟩:Shape)=s:=rfl
theorem wu (t:UInt16):((t.toNat:Int)=16∧(cj t).texts = -1∧(cj t).nums=0∧(cj t).size=0∧(cj t).raw=0)∨((t.toNat:Int)=257∧(cj t).texts=2∧(cj t).nums=1∧(cj t).size=1∧(cj t).raw=0) ∨
 ((t.toNat:Int)≠16∧(t.toNat:Int)≠257∧(cj t).texts=0∧(((cj t).size=0∧(cj t).nums=0)∨(cj t).size=2∨(cj t).size=4)∧((t.toNat:Int)=6→(cj t).raw=0)):=by
 unfold cj
 split
 ·exact .inr (.inr ⟨by omega,by omega,rfl,.inl ⟨rfl,rfl⟩,by omega⟩)
 split
 ·exact .inr (.inr ⟨by omega,by omega,rfl,.inl ⟨rfl,rfl⟩,by omega⟩)
 split
 ·exact .inr (.inr ⟨by omega,by omega,rfl,.inl ⟨rfl,rfl⟩,by omega⟩)
 split
 ·exact .inr (.inr ⟨by omega,by omega,rfl,.inl ⟨rfl,rfl⟩,by omega⟩)
 split
 ·exact .inr (.inr ⟨by omega,by omega,rfl,.inl ⟨rfl,rfl⟩,by omega⟩)
 split
 ·exact .inr (.inr ⟨by omega,by omega,rfl,.inr (.inr rfl),fun _=>rfl⟩)
 split
 ·exact .inr (.inr ⟨by omega,by omega,rfl,.inr (.inl rfl),by omega⟩)
 split
 ·exact .inr (.inr ⟨by omega,by omega,rfl,.inr (.inl rfl),by omega⟩)
 split
 ·exact .inl ⟨by assumption,rfl,rfl,rfl,rfl⟩
 split
 ·exact .inr (.inl ⟨by assumption,rfl,rfl,rfl,rfl⟩)
 ·exact .inr (.inr ⟨by omega,by omega,rfl,.inl ⟨rfl,rfl⟩,by omega⟩)
theorem Eg {α:Type} {p q : α→Bool}:∀ {l:List α},(∀ x ∈ l,p x=q x)→l.any p=l.any q
 | [],_=>rfl
 |a::l,h=>by rw [List.any_cons,List.any_cons,h a (by simp),Eg (fun x hx=>h x (by simp [hx]))]
theorem am7 (s:Shape) (hs:s.size=0∨s.size=1∨s.size=2∨s.size=4) (l:List UInt32) (h0:s.size=0→l=[]):(s.size<4∧(l.any fun n=>decide (vh s≤(n.toNat:Int)))=true)↔(l.any fun n=>decide ((ta s.size).toNat<n.toNat))=true:=by
 have hb:∀ n:UInt32,n.toNat<4294967296:=fun n=>n.toNat_lt
 rcases hs with h|h|h|h
 ·rw [h0 h];simp
 ·have e1:vh s=256:=by unfold vh;rw [h];rfl
  have e2:(ta s.size).toNat=255:=by rw [h];rfl
  rw [e1,e2,Eg (q:=fun n=>decide (255<n.toNat)) (fun n _=>by rw [decide_eq_decide];omega)]
  exact ⟨fun q=>q.2,fun q=>⟨by omega,q⟩⟩
 ·have e1:vh s=65536:=by unfold vh;rw [h];rfl
  have e2:(ta s.size).toNat=65535:=by rw [h];rfl
  rw [e1,e2,Eg (q:=fun n=>decide (65535<n.toNat)) (fun n _=>by rw [decide_eq_decide];omega)]
  exact ⟨fun q=>q.2,fun q=>⟨by omega,q⟩⟩
 ·have e2:(ta s.size).toNat=4294967295:=by rw [h];rfl
  rw [e2]
  refine ⟨fun q=>by omega,fun q=>?_⟩
  obtain ⟨n,_,hn⟩:=List.any_eq_true.1 q
  have:=hb n
  simp at hn;omega
theorem O9 (t:UInt16) (d:bf):yu (cj t) t d=n5 (cj t) t d:=by
 have hk:=wu t
 unfold yu n5 T0 aev If
 by_cases hb:(d.names.length:Int)≠(cj t).names∨(d.nums.length:Int)≠(cj t).nums∨(0≤(cj t).raw∧(d.raw.length:Int)≠(cj t).raw)
 ·rw [if_pos hb,if_pos (by unfold ln;omega)]
 rw [if_neg hb]
 have hm:=am7 (cj t) (by omega) d.nums (fun e=>List.eq_nil_of_length_eq_zero (by omega))
 by_cases hm1:(d.nums.any fun n=>decide ((ta (cj t).size).toNat<n.toNat))=true
 ·rw [if_pos (hm.2 hm1),if_pos hm1,ite_self]
 rw [if_neg (fun q=>hm1 (hm.1 q)),if_neg hm1]
 rcases hk with ⟨k1,k2,_⟩|⟨k1,k2,_⟩|⟨k1,k2,k3,_⟩
 ·rw [if_neg (show ¬ (t.toNat:Int)=257 by omega),if_neg (show ¬ (t.toNat:Int)=257 by omega),if_neg (show ¬ (cj t).texts=0 by omega)]
  by_cases hl:d.texts.length=0
  ·rw [if_pos (by unfold ln;omega),decide_eq_false (by omega),Bool.false_and]
  ·rw [if_neg (by unfold ln;omega),decide_eq_true (by omega),Bool.true_and]
   cases ha:(d.texts.any fun x=>decide (255<x.size)) with
   |true=>rw [if_pos ⟨k1,rfl⟩];rfl
   |false=>rw [if_neg (by rintro ⟨_,q⟩;cases q)];rfl
 ·rw [if_pos k1,if_pos k1]
  by_cases hl:d.texts.length=2
  ·rw [if_neg (show ¬ ln (cj t) d by unfold ln;omega),decide_eq_true hl,Bool.true_and,if_neg (fun q=>by have:=q.1;omega)]
  ·rw [if_pos (show ln (cj t) d by unfold ln;omega),decide_eq_false hl,Bool.false_and]
 ·rw [if_neg k2,if_neg k2,if_pos k3]
  by_cases hl:d.texts.length=0
  ·rw [if_neg (show ¬ ln (cj t) d by unfold ln;omega),decide_eq_true hl,if_neg (fun q=>by have:=q.1;omega)]
  ·rw [if_pos (show ln (cj t) d by unfold ln;omega),decide_eq_false hl]
theorem Mk:∀ {l:List Name},il l=0→(l.flatMap ir).length=th l
 | [],_=>rfl
 |n::l,h=>by
  unfold il at h
  split at h
  ·exact absurd h (by assumption)
  ·rename_i h1
   have h2:da n=0:=by omega
   have h3:=ph n
   rw [List.flatMap_cons,List.length_append,Mk h]
   simp only [ir,h2,ne_eq,not_true,if_false,nameBytes,List.length_append,List.length_singleton,th,List.map_cons,List.sum_cons]
   omega
theorem On (t:UInt16):∀ (l:List ByteArray) (i:Nat),(ld t i l).length=ti t i l
 | [],i=>rfl
 |x::l,i=>by
  have:=On t l (i+1)
  have hx:x.data.toList.length=x.size:=by simp
  simp only [ld,ti,List.length_append,this,hx]
  split<;>simp<;>omega
theorem Mz (t:UInt16) (hs : 0≤(cj t).size∧(cj t).size≤4):∀ l:List UInt32,((l.flatMap (ue t)).length:Int)=l.length * (cj t).size
 | []=>by simp
 |n::l=>by
  have:=Mz t hs l
  have h1:((ue t n).length:Int)=(cj t).size:=by unfold ue;rw [List.length_drop,Bk];omega
  rw [List.flatMap_cons,List.length_append,List.length_cons,Int.natCast_add,this,h1,Int.natCast_add,Int.add_mul]
  omega
theorem ak8 (t:UInt16) (d:bf) (hf:n5 (cj t) t d=true) (hn:il d.names=0):Cf (cj t) t d=((jx t d).length:Int):=by
 have hk:=wu t
 have h1:=Mz t (u4 t) d.nums
 have h2:=Mk hn
 have h3:=On t d.texts 0
 unfold Cf jx
 change ((qk t d).length:Int)=_ at h1
 change (nj d).length=_ at h2
 change (my t d).length=_ at h3
 split
 ·rename_i h6
  rw [← O9] at hf
  unfold yu at hf
  split at hf
  ·cases hf
  ·rename_i hb
   unfold ln at hb
   have e1:d.texts=[]:=List.eq_nil_of_length_eq_zero (by omega)
   rw [e1]
   rw [List.length_append]
   have:ti t 0 []=0:=rfl
   omega
 ·simp only [List.length_append]
  omega
set_option maxHeartbeats 4000000 in
theorem Tp (t:UInt16) (d:bf) (hd:cd d):wl PP [rOf,arv,ahn,apd] 0 (Tryz.f126.body.getD .skip) (cy PP Tryz.f126.results.toList (fun r st=>(r1 (bo .i64)).get true st.h r=some (du t d))) (cf 0 [bj.val false t,aw.val false d]) (bk []):=by
 have hs:=u4 t
 have hl:=hd.lens
 have h257:N4 (cj t) t:=fun e=>by have:=wu t;omega
 have hsz:=ak8 t d
 unfold Tryz.f126
 simp only [ep,ct]
 simp only [↓wR,RA,simprocAttr,TF,ae,W2,pk]
 unfold du
 rw [dg];refine ⟨fun hb=>?_,fun hb=>?_⟩
 ·have hb':jv t=true:=by simpa using hb
  rw [if_pos hb']
  simp only [↓wR,RA,simprocAttr,TF,ae,hb]
 have hb':jv t=false:=by simpa using hb
 rw [if_neg (by rw [hb'];decide)]
 simp only [↓wR,RA,simprocAttr,TF,ae,hb,fe,Q7,Gc,hd,h257,O9]
 rw [dg];refine ⟨fun hf=>?_,fun hf=>?_⟩
 ·rw [if_pos (by simpa using hf)]
  simp only [↓wR,RA,simprocAttr,TF,ae,hf]
 have hf':n5 (cj t) t d=true:=by simpa using hf
 rw [if_neg (by rw [hf'];decide)]
 simp only [↓wR,RA,simprocAttr,TF,ae,hf]
 refine de [0,3,5,7] (fun (i:Nat)=>[.sc (.int .u16 t.toNat),.ptr 0 0,.ptr 1 0,.sc (.int .i64 (i))]) (fun _=>[some (.row [.vl false 1 (d.names.map (aj.val false)),.vl false 1 (d.nums.map (br.val false)),.vl false 1 (d.texts.map (aq.val false)),.vl false 1 (d.raw.map (ay.val false))] 0 2 101),some (.row [.sc (.int .i64 (cj t).names),.sc (.int .i64 (cj t).nums),.sc (.int .i64 (cj t).texts),.sc (.int .i64 (cj t).raw),.sc (.int .i64 (cj t).size)] 0 2 183)]) (fun i=>i≤d.names.length∧il d.names=il (d.names.drop i)) (fun i=>d.names.length - i) 0 ⟨Nat.zero_le _,rfl⟩ (by simp only [↓wR,RA,simprocAttr,TF,ae]<;>rfl) (by simp only [↓wR,RA,simprocAttr,TF,ae]<;>rfl) ?_
 rintro i ⟨hi,hx⟩
 simp only [↓wR,RA,simprocAttr,TF,ae]
 rw [a9];refine ⟨fun h=>?_,fun h=>?_⟩
 ·obtain ⟨c,hc,hd1,hlt⟩:=ee (decide_eq_true h)
  rw [Jd hd1] at hx
  simp only [↓wR,RA,simprocAttr,TF,ae,h,hc,zk,(hd.name c (List.mem_of_getElem? hc)).fit]
  rw [dg];refine ⟨fun h1=>?_,fun h1=>?_⟩
  ·have he:da c≠0:=by simpa using h1
   rw [if_pos he] at hx
   rw [if_pos (by rw [hx];exact he),hx]
   simp only [↓wR,RA,simprocAttr,TF,ae,h1]
  ·have he:da c=0:=by simpa using h1
   rw [if_neg (by omega)] at hx
   simp only [↓wR,RA,simprocAttr,TF,ae,h1];repeat (simp (disch:=omega) only [ag,bz,bw,bu,ca];try simp only [↓wR,RA,simprocAttr,TF,ae,h1])
   exact ⟨i+1,⟨hlt,hx⟩,by omega,by (first|rfl|trivial|omega|((try (simp (disch:=omega) only [ag]));(try (simp only [FB]));first|done|rfl|omega))⟩
 rw [gp (decide_eq_false h)] at hx
 have hx0:il d.names=0:=hx
 rw [if_neg (by rw [hx];decide)]
 simp only [↓wR,RA,simprocAttr,TF,ae,h,fe,Q7,C2,hd,hs,hsz hf' hx0]
 rw [a9];refine ⟨fun h2=>?_,fun h2=>?_⟩
 ·rw [if_pos (by omega)]
  simp only [↓wR,RA,simprocAttr,TF,ae,h2]
 ·rw [if_neg (by omega)]
  simp only [↓wR,RA,simprocAttr,TF,ae,h2]
noncomputable def ma (x:UInt16 × bf × Unit):Option AV:=if cd x.2.1 then some ((r1 (bo .i64)).E true (du x.1 x.2.1)) else none
set_option maxRecDepth 2000000 in
theorem A8 (x:UInt16 × bf × Unit) (r:AV) (h:ma x=some r):bb PP 126 ((aC bj (aC aw a0)).E x) r:=by
 by_cases hc:cd x.2.1
 case neg=>simp only [ma,if_neg hc] at h;cases h
 simp only [ma,if_pos hc] at h
 cases h
 exact au (ai.cons (ak Ks) (ai.cons (ak adl) (ai.cons (ak Je) (ai.cons (ak aah) (ai.nil PP))))) Tryz.func126 (by kernel_rfl) (by kernel_rfl) (by kernel_rfl) (Nat.le_of_ble_eq_true (by kernel_rfl)) (r1 (bo .i64)) true (du x.1 x.2.1) (Tp x.1 x.2.1 hc)
noncomputable abbrev Mr:Nat × Bool × (List AV→M AV):=(126,true,cx (aC bj (aC aw a0)) ma)
end Go.Proofs.YtgencolcibpcaaaGreat
end
