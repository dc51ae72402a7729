/- A piece of the proof. Proved: where the arguments are together of bulk at most 1048576, the law ZoneTells returns true (what is at a name, what beyond a cut), and what it was given reads afterwards as it did before. No other conditions. -/
import Derived.WalkKit
import Derived.CallsIn
import Derived.RangeFuncIn
import Derived.RangeFuncLeaves
import Derived.Orders
import Derived.OrdersIn
import Derived.Scope
import Derived.RangeFuncOwn
import Derived.Stop.SameAnswer
import Derived.Laws.Externs
import Derived.Lib.Bytealg
import Derived.ProofKit
import Derived.OpenShut
import Derived.ReadAgain
import Derived.Deep.Slices
import Derived.ChangeSame
import Derived.Test.YtgencolcibpcaaaGreatProg
import Derived.KernelRfl
import Derived.Test.YtgencolcibpcaaaGreatRows
import Derived.Maps.RangeRun
import Derived.JoinedCond
import Derived.Test.YtgencolcibpcaaaGreatL2
set_option linter.unusedSimpArgs false
set_option linter.unusedVariables false
set_option linter.unusedSectionVars false
section
namespace Go.Vm
open Go.Proofs
theorem alq:(Tryz.prog.underlying 3=some (.int .i64)) ∧
 (Tryz.prog.underlying 4=some (.bool)) ∧
 (Tryz.prog.underlying 5=some (.int .u8)) ∧
 (Tryz.prog.underlying 9=some (.string)) ∧
 (Tryz.prog.underlying 22=some (.slice 31)) ∧
 (Tryz.prog.underlying 23=some (.slice 9)) ∧
 (Tryz.prog.underlying 24=some (.slice 9)) ∧
 (Tryz.prog.underlying 28=some (.int .u32)) ∧
 (Tryz.prog.underlying 29=some (.slice 101)) ∧
 (Tryz.prog.underlying 44=some (.slice 121)) ∧
 (Tryz.prog.underlying 59=some (.slice 24)):=
 ⟨by kernel_rfl,by kernel_rfl,by kernel_rfl,by kernel_rfl,by kernel_rfl,by kernel_rfl,by kernel_rfl,by kernel_rfl,by kernel_rfl,by kernel_rfl,by kernel_rfl⟩
theorem alm:(Tryz.prog.underlying 98=some (.slice 28)) ∧
 (Tryz.prog.underlying 99=some (.slice 5)) ∧
 (Tryz.prog.underlying 141=some (.slice 3)) ∧
 (Tryz.prog.underlying 154=some (.slice 4)) ∧
 (Tryz.prog.underlying 214=some (.slice 99)):=
 ⟨by kernel_rfl,by kernel_rfl,by kernel_rfl,by kernel_rfl,by kernel_rfl⟩
theorem am0:(l9 Tryz.prog 3=some false) ∧
 (l9 Tryz.prog 4=some false) ∧
 (l9 Tryz.prog 5=some false) ∧
 (l9 Tryz.prog 9=some false) ∧
 (l9 Tryz.prog 22=some false) ∧
 (l9 Tryz.prog 23=some false) ∧
 (l9 Tryz.prog 24=some false) ∧
 (l9 Tryz.prog 26=some false):=
 ⟨by kernel_rfl,by kernel_rfl,by kernel_rfl,by kernel_rfl,by kernel_rfl,by kernel_rfl,by kernel_rfl,by kernel_rfl⟩
theorem al7:(l9 Tryz.prog 27=some false) ∧
 (l9 Tryz.prog 28=some false) ∧
 (l9 Tryz.prog 29=some false) ∧
 (l9 Tryz.prog 31=some true) ∧
 (l9 Tryz.prog 41=some true) ∧
 (l9 Tryz.prog 45=some false) ∧
 (l9 Tryz.prog 59=some false) ∧
 (l9 Tryz.prog 98=some false) ∧
 (l9 Tryz.prog 99=some false) ∧
 (l9 Tryz.prog 101=some true) ∧
 (l9 Tryz.prog 109=some false) ∧
 (l9 Tryz.prog 121=some true):=
 ⟨by kernel_rfl,by kernel_rfl,by kernel_rfl,by kernel_rfl,by kernel_rfl,by kernel_rfl,by kernel_rfl,by kernel_rfl,by kernel_rfl,by kernel_rfl,by kernel_rfl,by kernel_rfl⟩
theorem ani:(l9 Tryz.prog 183=some true) ∧
 (l9 Tryz.prog 198=some true):=
 ⟨by kernel_rfl,by kernel_rfl⟩
theorem afy:(dj Tryz.prog 3=some 1) ∧
 (dj Tryz.prog 4=some 1) ∧
 (dj Tryz.prog 5=some 1) ∧
 (dj Tryz.prog 9=some 1) ∧
 (dj Tryz.prog 22=some 1) ∧
 (dj Tryz.prog 23=some 1) ∧
 (dj Tryz.prog 24=some 1) ∧
 (dj Tryz.prog 26=some 1):=
 ⟨by kernel_rfl,by kernel_rfl,by kernel_rfl,by kernel_rfl,by kernel_rfl,by kernel_rfl,by kernel_rfl,by kernel_rfl⟩
theorem ahl:(dj Tryz.prog 27=some 1) ∧
 (dj Tryz.prog 28=some 1) ∧
 (dj Tryz.prog 29=some 1) ∧
 (dj Tryz.prog 31=some 5) ∧
 (dj Tryz.prog 41=some 2) ∧
 (dj Tryz.prog 45=some 1) ∧
 (dj Tryz.prog 59=some 1) ∧
 (dj Tryz.prog 98=some 1) ∧
 (dj Tryz.prog 99=some 1) ∧
 (dj Tryz.prog 101=some 4) ∧
 (dj Tryz.prog 109=some 1) ∧
 (dj Tryz.prog 121=some 8):=
 ⟨by kernel_rfl,by kernel_rfl,by kernel_rfl,by kernel_rfl,by kernel_rfl,by kernel_rfl,by kernel_rfl,by kernel_rfl,by kernel_rfl,by kernel_rfl,by kernel_rfl,by kernel_rfl⟩
theorem agt:(dj Tryz.prog 183=some 5) ∧
 (dj Tryz.prog 198=some 5):=
 ⟨by kernel_rfl,by kernel_rfl⟩
theorem Zj:(j7 Tryz.prog 4=some 1):=by kernel_rfl
theorem afs:(fh Tryz.prog 3=some (.int .i64 0)) ∧
 (fh Tryz.prog 4=some (.bool false)) ∧
 (fh Tryz.prog 5=some (.int .u8 0)) ∧
 (fh Tryz.prog 24=some (.slice none 0 0)):=
 ⟨by kernel_rfl,by kernel_rfl,by kernel_rfl,by kernel_rfl⟩
theorem ag5:(fh Tryz.prog 31=some (.agg #[.slice none 0 0,.int .u16 0,.int .u16 0,.int .u32 0,.slice none 0 0])) ∧
 (fh Tryz.prog 41=some (.agg #[.slice none 0 0,.slice none 0 0])) ∧
 (fh Tryz.prog 59=some (.slice none 0 0)) ∧
 (fh Tryz.prog 101=some (.agg #[.slice none 0 0,.slice none 0 0,.slice none 0 0,.slice none 0 0])):=
 ⟨by kernel_rfl,by kernel_rfl,by kernel_rfl,by kernel_rfl⟩
theorem ahu:(fh Tryz.prog 183=some (.agg #[.int .i64 0,.int .i64 0,.int .i64 0,.int .i64 0,.int .i64 0])) ∧
 (fh Tryz.prog 198=some (.agg #[.int .i64 0,.int .i64 0,.int .i64 0,.int .i64 0,.int .i64 0])):=
 ⟨by kernel_rfl,by kernel_rfl⟩
theorem ali:(zr Tryz.prog 22=some (31,5,[.sc (.slice none 0 0),.sc (.int .u16 0),.sc (.int .u16 0),.sc (.int .u32 0),.sc (.slice none 0 0)])) ∧
 (zr Tryz.prog 23=some (9,1,[.sc (.string .empty)])) ∧
 (zr Tryz.prog 24=some (9,1,[.sc (.string .empty)])) ∧
 (zr Tryz.prog 29=some (101,4,[.sc (.slice none 0 0),.sc (.slice none 0 0),.sc (.slice none 0 0),.sc (.slice none 0 0)])) ∧
 (zr Tryz.prog 44=some (121,8,[.sc (.slice none 0 0),.sc (.int .u16 0),.sc (.int .u16 0),.sc (.int .u32 0),.sc (.slice none 0 0),.sc (.slice none 0 0),.sc (.slice none 0 0),.sc (.slice none 0 0)])) ∧
 (zr Tryz.prog 59=some (24,1,[.sc (.slice none 0 0)])) ∧
 (zr Tryz.prog 98=some (28,1,[.sc (.int .u32 0)])) ∧
 (zr Tryz.prog 99=some (5,1,[.sc (.int .u8 0)])) ∧
 (zr Tryz.prog 141=some (3,1,[.sc (.int .i64 0)])) ∧
 (zr Tryz.prog 214=some (99,1,[.sc (.slice none 0 0)])):=
 ⟨by kernel_rfl,by kernel_rfl,by kernel_rfl,by kernel_rfl,by kernel_rfl,by kernel_rfl,by kernel_rfl,by kernel_rfl,by kernel_rfl,by kernel_rfl⟩
theorem abn:(vp Tryz.prog 31=some ([.sc (.slice none 0 0),.sc (.int .u16 0),.sc (.int .u16 0),.sc (.int .u32 0),.sc (.slice none 0 0)],[(0,1),(1,1),(2,1),(3,1),(4,1)])) ∧
 (vp Tryz.prog 41=some ([.sc (.slice none 0 0),.sc (.slice none 0 0)],[(0,1),(1,1)])) ∧
 (vp Tryz.prog 101=some ([.sc (.slice none 0 0),.sc (.slice none 0 0),.sc (.slice none 0 0),.sc (.slice none 0 0)],[(0,1),(1,1),(2,1),(3,1)])) ∧
 (vp Tryz.prog 111=some ([.sc (.slice none 0 0),.sc (.slice none 0 0),.sc (.int .i64 0)],[(0,2),(2,1)])) ∧
 (vp Tryz.prog 121=some ([.sc (.slice none 0 0),.sc (.int .u16 0),.sc (.int .u16 0),.sc (.int .u32 0),.sc (.slice none 0 0),.sc (.slice none 0 0),.sc (.slice none 0 0),.sc (.slice none 0 0)],[(0,1),(1,1),(2,1),(3,1),(4,4)])) ∧
 (vp Tryz.prog 183=some ([.sc (.int .i64 0),.sc (.int .i64 0),.sc (.int .i64 0),.sc (.int .i64 0),.sc (.int .i64 0)],[(0,1),(1,1),(2,1),(3,1),(4,1)])) ∧
 (vp Tryz.prog 198=some ([.sc (.int .i64 0),.sc (.int .i64 0),.sc (.int .i64 0),.sc (.int .i64 0),.sc (.int .i64 0)],[(0,1),(1,1),(2,1),(3,1),(4,1)])):=
 ⟨by kernel_rfl,by kernel_rfl,by kernel_rfl,by kernel_rfl,by kernel_rfl,by kernel_rfl,by kernel_rfl⟩
theorem ab3:(fl Tryz.prog 31 0=some ⟨"Owner",24,0,false, "", "",0⟩) ∧
 (fl Tryz.prog 31 1=some ⟨"Type",26,1,false, "", "",24⟩) ∧
 (fl Tryz.prog 31 2=some ⟨"Class",27,2,false, "", "",26⟩) ∧
 (fl Tryz.prog 31 3=some ⟨"TTL",28,3,false, "", "",28⟩) ∧
 (fl Tryz.prog 31 4=some ⟨"Data",29,4,false, "", "",32⟩):=
 ⟨by kernel_rfl,by kernel_rfl,by kernel_rfl,by kernel_rfl,by kernel_rfl⟩
theorem Zp:(fl Tryz.prog 41 0=some ⟨"Origin",24,0,false, "", "",0⟩) ∧
 (fl Tryz.prog 41 1=some ⟨"Sets",22,1,false, "", "",24⟩) ∧
 (fl Tryz.prog 101 0=some ⟨"Names",59,0,false, "", "",0⟩) ∧
 (fl Tryz.prog 101 1=some ⟨"Nums",98,1,false, "", "",24⟩) ∧
 (fl Tryz.prog 101 2=some ⟨"Texts",23,2,false, "", "",48⟩) ∧
 (fl Tryz.prog 101 3=some ⟨"Raw",99,3,false, "", "",72⟩) ∧
 (fl Tryz.prog 111 0=some ⟨"z",41,0,false, "", "nomenclator/zone",0⟩) ∧
 (fl Tryz.prog 111 1=some ⟨"e",45,2,false, "", "nomenclator/zone",48⟩):=
 ⟨by kernel_rfl,by kernel_rfl,by kernel_rfl,by kernel_rfl,by kernel_rfl,by kernel_rfl,by kernel_rfl,by kernel_rfl⟩
theorem adg:(fl Tryz.prog 121 0=some ⟨"Owner",24,0,false, "", "",0⟩) ∧
 (fl Tryz.prog 121 1=some ⟨"Type",26,1,false, "", "",24⟩) ∧
 (fl Tryz.prog 121 2=some ⟨"Class",27,2,false, "", "",26⟩) ∧
 (fl Tryz.prog 121 3=some ⟨"TTL",28,3,false, "", "",28⟩) ∧
 (fl Tryz.prog 121 4=some ⟨"Data",101,4,false, "", "",32⟩) ∧
 (fl Tryz.prog 183 0=some ⟨"Names",3,0,false, "", "",0⟩) ∧
 (fl Tryz.prog 183 1=some ⟨"Nums",3,1,false, "", "",8⟩) ∧
 (fl Tryz.prog 183 2=some ⟨"Texts",3,2,false, "", "",16⟩) ∧
 (fl Tryz.prog 183 3=some ⟨"Raw",3,3,false, "", "",24⟩) ∧
 (fl Tryz.prog 183 4=some ⟨"Wide",3,4,false, "", "",32⟩):=
 ⟨by kernel_rfl,by kernel_rfl,by kernel_rfl,by kernel_rfl,by kernel_rfl,by kernel_rfl,by kernel_rfl,by kernel_rfl,by kernel_rfl,by kernel_rfl⟩
theorem Za:(fl Tryz.prog 198 0=some ⟨"names",3,0,false, "", "nomenclator/rdata",0⟩) ∧
 (fl Tryz.prog 198 1=some ⟨"nums",3,1,false, "", "nomenclator/rdata",8⟩) ∧
 (fl Tryz.prog 198 2=some ⟨"size",3,2,false, "", "nomenclator/rdata",16⟩) ∧
 (fl Tryz.prog 198 3=some ⟨"texts",3,3,false, "", "nomenclator/rdata",24⟩) ∧
 (fl Tryz.prog 198 4=some ⟨"raw",3,4,false, "", "nomenclator/rdata",32⟩):=
 ⟨by kernel_rfl,by kernel_rfl,by kernel_rfl,by kernel_rfl,by kernel_rfl⟩
theorem akw:(yt Tryz.prog 22=some (31,5,56)) ∧
 (yt Tryz.prog 23=some (9,1,16)) ∧
 (yt Tryz.prog 24=some (9,1,16)) ∧
 (yt Tryz.prog 29=some (101,4,96)) ∧
 (yt Tryz.prog 44=some (121,8,128)) ∧
 (yt Tryz.prog 59=some (24,1,24)) ∧
 (yt Tryz.prog 98=some (28,1,4)) ∧
 (yt Tryz.prog 99=some (5,1,1)):=
 ⟨by kernel_rfl,by kernel_rfl,by kernel_rfl,by kernel_rfl,by kernel_rfl,by kernel_rfl,by kernel_rfl,by kernel_rfl⟩
theorem ash:(∀ kd,Ip 5 kd 31=true) ∧
 (Ip 1 .str 9=true) ∧
 (∀ kd,Ip 4 kd 101=true) ∧
 (∀ kd,Ip 8 kd 121=true) ∧
 (Ip 1 .no 24=true) ∧
 (Ip 1 (.int .u32) 28=true) ∧
 (Ip 1 (.int .u8) 5=true):=
 ⟨fun _=>by kernel_rfl,by kernel_rfl,fun _=>by kernel_rfl,fun _=>by kernel_rfl,by kernel_rfl,by kernel_rfl,by kernel_rfl⟩
theorem TF:type_of% alq∧type_of% alm∧type_of% am0∧type_of% al7∧type_of% ani∧type_of% afy∧type_of% ahl∧type_of% agt∧type_of% Zj∧type_of% afs∧type_of% ag5∧type_of% ahu∧type_of% ali∧type_of% abn∧type_of% ab3∧type_of% Zp∧type_of% adg∧type_of% Za∧type_of% akw∧type_of% ash:=
 ⟨alq,alm,am0,al7,ani,afy,ahl,agt,Zj,afs,ag5,ahu,ali,abn,ab3,Zp,adg,Za,akw,ash⟩
end Go.Vm
end
section
namespace Go.Proofs.YtgencolcibpcaaaGreat
open Go.Vm
noncomputable abbrev PP:=Tryz.prog
theorem mixed:PP.follows .mixedOrders=true:=by kernel_rfl
theorem au {T:ec} (hT:ak PP T) {f:Nat} {fn:Func} (hf:PP.funcs[f]? = some fn) (hb:fn.body.isSome=true) (he:nv PP f=true) (hs:du fn.ntmps (fn.body.getD .skip)=true)
 {args:List AV} (hl:args.length≤fn.ntmps) {ρ:Type} (R:RC ρ) (fr:Bool) (x : ρ)
 (h:wl PP T 0 (fn.body.getD .skip) (db PP fn.results.toList (fun r st=>R.get fr st.h r=some x)) (cd 0 args) (bk [])):bc PP f args (R.E fr x):=
 Uh (body:=fn.body.getD .skip) hT mixed hf (by cases hq:fn.body with|none=>rw [hq] at hb;cases hb|some b=>rfl) he hs hl R fr x h
def gz (s:ByteArray):Int:=if s.size<1∨63<s.size then 4 else 0
theorem Xz (s:ByteArray):wl PP [] 0 (Tryz.f159.body.getD .skip) (db PP Tryz.f159.results.toList (fun r st=>(r1 (ba .i64)).get true st.h r=some (gz s))) (cd 0 [ai.val false s]) (bk []):=by
 unfold Tryz.f159
 simp only [↓wR,RA,simprocAttr,TF]
 rw [cy]
 refine ⟨fun h=>?_,fun h=>?_⟩
 ·have h1:s.size<1:=by simp at h;omega
  simp only [↓wR,RA,simprocAttr,TF,gz,h,h1,true_or]
 ·have h1:¬ s.size<1:=by simp at h;omega
  simp only [↓wR,RA,simprocAttr,TF,h]
  rw [cy]
  refine ⟨fun h=>?_,fun h=>?_⟩
  ·have h2 : 63<s.size:=by simp at h;omega
   simp only [↓wR,RA,simprocAttr,TF,gz,h2,or_true]
  ·have h2:¬ 63<s.size:=by simp at h;omega
   simp only [↓wR,RA,simprocAttr,TF,gz,h1,h2,or_self]
noncomputable def E5 (x:ByteArray × Unit):Option AV:=some ((r1 (ba .i64)).E true (gz x.1))
set_option maxRecDepth 2000000 in
theorem Q3 (x:ByteArray × Unit) (r:AV) (h:E5 x=some r):bc PP 159 ((aC ai a0).E x) r:=by
 cases h
 exact au (ak.nil PP) Tryz.func159 (by kernel_rfl) (by kernel_rfl) (by kernel_rfl) (Nat.le_of_ble_eq_true (by kernel_rfl)) (r1 (ba .i64)) true (gz x.1) (Xz x.1)
noncomputable abbrev ajy:Nat × Bool × (List AV→M AV):=(159,true,cx (aC ai a0) E5)
def cf (n:Name):Nat:=n.foldl (fun k s=>k+(s.size+1)) 1
theorem Xq (l:Name) (c:ByteArray):cf (l++[c])=cf l+(c.size+1):=by simp [cf]
theorem B5 (n:Name) (i:Nat) (c:ByteArray) (h:n[i]? = some c):cf (n.take (i+1))=cf (n.take i)+(c.size+1):=by
 obtain ⟨hk,rfl⟩:=List.getElem?_eq_some_iff.1 h
 rw [List.take_succ_eq_append_getElem hk,Xq]
theorem Bx (l:Name):∀ k,l.foldl (fun k s=>k+(s.size+1)) k=k+l.foldl (fun k s=>k+(s.size+1)) 0:=by
 induction l with
 |nil=>intro k;simp
 |cons a l ih=>intro k;simp only [List.foldl_cons];rw [ih,ih (0+_)];omega
theorem p0 (a b:Name):cf (a++b)+1=cf a+cf b:=by
 simp only [cf,List.foldl_append]
 rw [Bx b,Bx b 1];omega
theorem i6 (n:Name) (i:Nat):cf (n.take i)≤cf n∧n.length<cf n:=by
 constructor
 ·have:=p0 (n.take i) (n.drop i)
  rw [List.take_append_drop] at this
  have h1 : 1≤cf (n.drop i):=by simp only [cf];rw [Bx];omega
  omega
 ·induction n with
  |nil=>simp [cf]
  |cons a l ih=>
   have:=p0 [a] l
   simp only [List.singleton_append] at this
   have h1:cf [a]=a.size+2:=by simp [cf];omega
   simp only [List.length_cons]
   omega
theorem wrap_i64 (x:Int) (h0 : -9223372036854775808≤x) (h1:x<9223372036854775808):IntKind.i64.wrap x=x:=by
 simp [IntKind.wrap,IntKind.bits,IntKind.signed];omega
theorem aep (n:Name) (hn:cf n<17592186044416):wl PP [] 0 (Tryz.f160.body.getD .skip) (db PP Tryz.f160.results.toList (fun r st=>(r1 (ba .i64)).get true st.h r=some (cf n:Int))) (cd 0 [aq.val false n]) (bk []):=by
 unfold Tryz.f160
 rw [cq]
 simp only [↓wR,RA,simprocAttr,TF]
 refine dp [3,6,7,8] (fun (x:Nat)=>[.sc (.int .i64 (cf (n.take x))),.vl false 1 (n.map (ai.val false)),.sc (.int .i64 n.length),.sc (.int .i64 x)]) (fun _=>[]) (fun x=>x≤n.length) (fun x=>n.length - x) 0 (Nat.zero_le _) ?_ ?_ ?_
 ·simp only [↓wR,RA,simprocAttr,TF]<;>rfl
 ·simp only [↓wR,RA,simprocAttr,TF]
 ·intro i hi
  have h1:=i6 n i
  simp only [↓wR,RA,simprocAttr,TF]
  rw [cy]
  refine ⟨fun h=>?_,fun h=>?_⟩
  ·have h4:i<n.length:=by simp at h;omega
   obtain ⟨c,hc⟩:∃ c,n[i]? = some c:=⟨n[i],by simp [h4]⟩
   have h2:=B5 n i c hc
   have h3:=(i6 n (i+1)).1
   simp only [↓wR,RA,simprocAttr,TF,hc]
   refine ⟨i+1,by omega,by omega,?_⟩
   rw [h2]
   simp only [List.cons.injEq,and_true,true_and,AV.sc.injEq,Value.int.injEq]
   refine ⟨?_,?_⟩
   ·rw [wrap_i64 ((c.size:Int)+1) (by omega) (by omega),wrap_i64 _ (by omega) (by omega)];omega
   ·rw [wrap_i64 _ (by omega) (by omega)];omega
  ·have h4:i=n.length:=by simp at h;omega
   subst h4
   simp only [↓wR,RA,simprocAttr,TF,List.take_length]
noncomputable def zc (x:Name × Unit):Option AV:=if cf x.1<17592186044416 then some ((r1 (ba .i64)).E true ((cf x.1:Int))) else none
set_option maxRecDepth 2000000 in
theorem Uc (x:Name × Unit) (r:AV) (h:zc x=some r):bc PP 160 ((aC aq a0).E x) r:=by
 by_cases hc:cf x.1<17592186044416
 case neg=>simp only [zc,if_neg hc] at h;cases h
 simp only [zc,if_pos hc] at h
 cases h
 exact au (ak.nil PP) Tryz.func160 (by kernel_rfl) (by kernel_rfl) (by kernel_rfl) (Nat.le_of_ble_eq_true (by kernel_rfl)) (r1 (ba .i64)) true ((cf x.1:Int)) (aep x.1 hc)
noncomputable abbrev aoq:Nat × Bool × (List AV→M AV):=(160,true,cx (aC aq a0) zc)
def pg (n:Name):Bool:=n.any fun s=>decide (gz s≠0)
def dm (n:Name):Int:=if pg n then 4 else if 255<cf n then 5 else 0
theorem Kr (n:Name) (i:Nat) (c:ByteArray) (h:n[i]? = some c):pg (n.take (i+1))=(pg (n.take i) || decide (gz c≠0)):=by
 obtain ⟨hk,rfl⟩:=List.getElem?_eq_some_iff.1 h
 rw [List.take_succ_eq_append_getElem hk]
 simp only [pg,List.any_append,List.any_cons,List.any_nil,Bool.or_false]
theorem I6 (n:Name) (i:Nat) (c:ByteArray) (h:n[i]? = some c) (hc:gz c≠0):pg n=true:=by
 simp only [pg,List.any_eq_true]
 exact ⟨c,List.mem_of_getElem? h,by simp [hc]⟩
theorem ac8 (s:ByteArray):gz s=0∨gz s=4:=by unfold gz;split<;>simp
theorem abv (n:Name) (hn:cf n<17592186044416):wl PP [ajy,aoq] 0 (Tryz.f121.body.getD .skip) (db PP Tryz.f121.results.toList (fun r st=>(r1 (ba .i64)).get true st.h r=some (dm n))) (cd 0 [aq.val false n]) (bk []):=by
 unfold Tryz.f121
 rw [cq]
 simp only [↓wR,RA,simprocAttr,TF]
 refine dp [0,6,7,8] (fun (x:Nat)=>[.vl false 1 (n.map (ai.val false)),.vl false 1 (n.map (ai.val false)),.sc (.int .i64 n.length),.sc (.int .i64 x)]) (fun _=>[]) (fun x=>x≤n.length∧pg (n.take x)=false) (fun x=>n.length - x) 0 ⟨Nat.zero_le _,by simp [pg]⟩ ?_ ?_ ?_
 ·simp only [↓wR,RA,simprocAttr,TF]<;>rfl
 ·simp only [↓wR,RA,simprocAttr,TF]
 ·rintro i ⟨hi,hb⟩
  have h1:=i6 n i
  simp only [↓wR,RA,simprocAttr,TF]
  rw [cy]
  refine ⟨fun h=>?_,fun h=>?_⟩
  ·have h4:i<n.length:=by simp at h;omega
   obtain ⟨c,hc⟩:∃ c,n[i]? = some c:=⟨n[i],by simp [h4]⟩
   simp only [↓wR,RA,simprocAttr,TF,hc,E5]
   rw [cy]
   refine ⟨fun h=>?_,fun h=>?_⟩
   ·have h5:gz c≠0:=by simpa using h
    have h6:gz c=4:=(ac8 c).resolve_left h5
    simp only [↓wR,RA,simprocAttr,TF,dm,I6 n i c hc h5,h6]
   ·have h5:gz c=0:=by simpa using h
    simp only [↓wR,RA,simprocAttr,TF]
    refine ⟨i+1,⟨by omega,by rw [Kr n i c hc,hb];simp [h5]⟩,by omega,?_⟩
    simp only [List.cons.injEq,and_true,true_and,AV.sc.injEq,Value.int.injEq]
    rw [wrap_i64 _ (by omega) (by omega)];omega
  ·have h4:i=n.length:=by simp at h;omega
   subst h4
   rw [List.take_length] at hb
   simp only [↓wR,RA,simprocAttr,TF,zc,hn]
   rw [cy]
   refine ⟨fun h=>?_,fun h=>?_⟩
   ·have h5 : 255<cf n:=by simp at h;omega
    simp only [↓wR,RA,simprocAttr,TF,dm,hb,h5]
   ·have h5:¬ 255<cf n:=by simp at h;omega
    simp only [↓wR,RA,simprocAttr,TF,dm,hb,h5]
noncomputable def pq (x:Name × Unit):Option AV:=if cf x.1<17592186044416 then some ((r1 (ba .i64)).E true (dm x.1)) else none
set_option maxRecDepth 2000000 in
theorem rh (x:Name × Unit) (r:AV) (h:pq x=some r):bc PP 121 ((aC aq a0).E x) r:=by
 by_cases hc:cf x.1<17592186044416
 case neg=>simp only [pq,if_neg hc] at h;cases h
 simp only [pq,if_pos hc] at h
 cases h
 exact au (ak.cons (aj Q3) (ak.cons (aj Uc) (ak.nil PP))) Tryz.func121 (by kernel_rfl) (by kernel_rfl) (by kernel_rfl) (Nat.le_of_ble_eq_true (by kernel_rfl)) (r1 (ba .i64)) true (dm x.1) (abv x.1 hc)
noncomputable abbrev ew:Nat × Bool × (List AV→M AV):=(121,true,cx (aC aq a0) pq)
def low (c:UInt8):UInt8:=if 65≤c∧c≤90 then c+32 else c
def fold (s:ByteArray):ByteArray:=⟨(s.data.toList.map low).toArray⟩
def mq (l:List UInt8) (i:Nat):List UInt8:=(l.take i).map low++l.drop i
theorem anm (l:List UInt8) (i:Nat):(mq l i).length=l.length:=by simp [mq];omega
theorem U7 (l:List UInt8) (i:Nat) (h:i<l.length):(mq l i)[i]? = l[i]? := by
 simp [mq,List.getElem?_append,Nat.min_eq_left (Nat.le_of_lt h)]
theorem Wg (l:List UInt8) (i:Nat) (h:i<l.length):(mq l i).take i++[low l[i]]++(mq l i).drop (i+1)=mq l (i+1):=by
 have h1:((l.take i).map low).length=i:=by simp;omega
 have h2:(mq l i).take i=(l.take i).map low:=by rw [mq,List.take_append_of_le_length (by omega),List.take_of_length_le (by omega)]
 have h3:(mq l i).drop (i+1)=l.drop (i+1):=by
  rw [mq,List.drop_append,List.drop_eq_nil_of_le (by omega),h1]
  simp
 rw [h2,h3,mq,List.take_succ_eq_append_getElem h,List.map_append]
 rfl
theorem S7 (l:List UInt8) (i:Nat) (h:i<l.length) (hk:low l[i]=l[i]):mq l i=mq l (i+1):=by
 rw [← Wg l i h,hk]
 have:(mq l i)[i]? = some l[i]:=by rw [U7 l i h];simp [h]
 obtain ⟨hlt,e⟩:=List.getElem?_eq_some_iff.1 this
 rw [← e,← List.take_succ_eq_append_getElem hlt,List.take_append_drop]
set_option maxRecDepth 20000 in
theorem Zo (s:ByteArray) (hs:s.size≤16777216):wl PP [] 0 (Tryz.f152.body.getD .skip) (db PP Tryz.f152.results.toList (fun r st=>(r1 ai).get true st.h r=some (fold s))) (cd 0 [ai.val false s]) (bk []):=by
 unfold Tryz.f152
 have hl:s.data.toList.length=s.size:=by simp
 simp only [↓wR,RA,simprocAttr,TF,hs]
 refine dp [3,8,9,10] (fun (x:Nat)=>[.sl 0 0 s.size 1,.sl 0 0 s.size 1,.sc (.int .i64 s.size),.sc (.int .i64 x)]) (fun x=>[some (.row ((mq s.data.toList x).map (bg.val false)) 0 1 5)]) (fun x=>x≤s.size) (fun x=>s.size - x) 0 (Nat.zero_le _) ?_ ?_ ?_
 ·simp only [↓wR,RA,simprocAttr,TF]<;>rfl
 ·simp only [↓wR,RA,simprocAttr,TF]<;>rfl
 ·intro i hi
  simp only [↓wR,RA,simprocAttr,TF]
  rw [cy]
  refine ⟨fun h=>?_,fun h=>?_⟩
  ·have h4:i<s.size:=by simp at h;omega
   have h6:i<s.data.toList.length:=by omega
   have h5:(mq s.data.toList i)[i]? = some s.data.toList[i]:=by rw [U7 s.data.toList i h6];simp [h6]
   obtain ⟨c,hc⟩:∃ c,s.data.toList[i]=c:=⟨_,rfl⟩
   have hcl:=c.toNat_lt
   rw [hc] at h5
   simp only [↓wR,RA,simprocAttr,TF,h4,h5]
   rw [cy]
   refine ⟨fun h1=>?_,fun h1=>?_⟩
   ·simp only [↓wR,RA,simprocAttr,TF,h1]
    rw [cy]
    refine ⟨fun h2=>?_,fun h2=>?_⟩
    ·have h7:i+1≤s.size:=by omega
     have hlow:low c=c+32:=by
      simp at h1 h2
      have a1 : 65≤c:=by rw [UInt8.le_iff_toNat_le];simp;omega
      have a2:c≤90:=by rw [UInt8.le_iff_toNat_le];simp;omega
      simp [low,a1,a2]
     have hw:IntKind.u8.wrap (IntKind.u8.wrap ((c.toNat:Int)+97) - 65)=((low c).toNat:Int):=by
      simp at h1 h2
      rw [hlow]
      simp [IntKind.wrap,IntKind.bits,IntKind.signed,UInt8.toNat_add]
      omega
     have hst:List.map (bg.val false) (List.take i (mq s.data.toList i))++[AV.sc (Value.int IntKind.u8 ((low c).toNat:Int))]++List.map (bg.val false) (List.drop (i+1) (mq s.data.toList i))=List.map (bg.val false) (mq s.data.toList (i+1)):=by
      rw [← Wg s.data.toList i h6,hc,List.map_append,List.map_append];rfl
     simp only [↓wR,RA,simprocAttr,TF,h4,h7,anm,hl,hw,hst]
     refine ⟨i+1,h7,by omega,?_,rfl⟩
     rw [wrap_i64 _ (by omega) (by omega)];rfl
    ·simp only [↓wR,RA,simprocAttr,TF]
     have hk:low c=c:=by
      simp at h2
      have a2:¬ c≤90:=by rw [UInt8.le_iff_toNat_le];simp;omega
      simp [low,a2]
     refine ⟨i+1,by omega,by omega,?_,?_⟩
     ·rw [wrap_i64 _ (by omega) (by omega)];rfl
     ·rw [S7 s.data.toList i h6 (by rw [hc];exact hk)]
   ·simp only [↓wR,RA,simprocAttr,TF,h1]
    have hk:low c=c:=by
     simp at h1
     have a2:¬ 65≤c:=by rw [UInt8.le_iff_toNat_le];simp;omega
     simp [low,a2]
    refine ⟨i+1,by omega,by omega,?_,?_⟩
    ·rw [wrap_i64 _ (by omega) (by omega)];rfl
    ·rw [S7 s.data.toList i h6 (by rw [hc];exact hk)]
  ·have h4:i=s.size:=by simp at h;omega
   subst h4
   have:∃ m,List.map low s.data.toList=m:=⟨_,rfl⟩
   obtain ⟨m,hm⟩:=this
   have h5:mq s.data.toList s.size=m:=by rw [mq,List.take_of_length_le (Nat.le_of_eq hl),List.drop_eq_nil_of_le (Nat.le_of_eq hl),List.append_nil,hm]
   have hlm:m.length=s.size:=by rw [← hm,List.length_map,hl]
   have h6:List.take s.size (List.map (bg.val false) m)=List.map (bg.val false) m:=List.take_of_length_le (by rw [List.length_map,hlm];exact Nat.le_refl _)
   have hf:fold s=⟨m.toArray⟩:=by rw [fold,hm]
   rw [h5,hf]
   simp only [↓wR,RA,simprocAttr,TF,hlm,h6]
noncomputable def sf (x:ByteArray × Unit):Option AV:=if x.1.size≤16777216 then some ((r1 ai).E true (fold x.1)) else none
set_option maxRecDepth 2000000 in
theorem Ab (x:ByteArray × Unit) (r:AV) (h:sf x=some r):bc PP 152 ((aC ai a0).E x) r:=by
 by_cases hc:x.1.size≤16777216
 case neg=>simp only [sf,if_neg hc] at h;cases h
 simp only [sf,if_pos hc] at h
 cases h
 exact au (ak.nil PP) Tryz.func152 (by kernel_rfl) (by kernel_rfl) (by kernel_rfl) (Nat.le_of_ble_eq_true (by kernel_rfl)) (r1 ai) true (fold x.1) (Zo x.1 hc)
noncomputable abbrev Li:Nat × Bool × (List AV→M AV):=(152,true,cx (aC ai a0) sf)
theorem ads (a b:ByteArray) (ha:a.size≤16777216) (hb:b.size≤16777216):wl PP [Li] 0 (Tryz.f145.body.getD .skip) (db PP Tryz.f145.results.toList (fun r st=>(r1 az).get true st.h r=some (decide (fold a=fold b)))) (cd 0 [ai.val false a,ai.val false b]) (bk []):=by
 unfold Tryz.f145
 simp only [↓wR,RA,simprocAttr,TF,sf,ha,hb]
noncomputable def yv (x:ByteArray × ByteArray × Unit):Option AV:=if x.1.size≤16777216∧x.2.1.size≤16777216 then some ((r1 az).E true (decide (fold x.1=fold x.2.1))) else none
set_option maxRecDepth 2000000 in
theorem Uu (x:ByteArray × ByteArray × Unit) (r:AV) (h:yv x=some r):bc PP 145 ((aC ai (aC ai a0)).E x) r:=by
 by_cases hc:x.1.size≤16777216∧x.2.1.size≤16777216
 case neg=>simp only [yv,if_neg hc] at h;cases h
 simp only [yv,if_pos hc] at h
 cases h
 exact au (ak.cons (aj Ab) (ak.nil PP)) Tryz.func145 (by kernel_rfl) (by kernel_rfl) (by kernel_rfl) (Nat.le_of_ble_eq_true (by kernel_rfl)) (r1 az) true (decide (fold x.1=fold x.2.1)) (ads x.1 x.2.1 hc.1 hc.2)
noncomputable abbrev alk:Nat × Bool × (List AV→M AV):=(145,true,cx (aC ai (aC ai a0)) yv)
end Go.Proofs.YtgencolcibpcaaaGreat
end
section
namespace Go.Proofs.YtgencolcibpcaaaGreat
open Go.Vm Go.RowKit
theorem avo {x:Value} (h:ld x = .str):∃ s,x = .string s:=by cases x<;>first|exact ⟨_,rfl⟩|cases h
theorem Gi {x:Value} {k:IntKind} (h:ld x = .int k):∃ i,x = .int k i:=by cases x<;>first|(cases h;exact ⟨_,rfl⟩)|cases h
theorem Jh:Tryz.f38.ntmps=22:=rfl
set_option maxHeartbeats 1600000 in
set_option maxRecDepth 1000000 in
theorem ss {S:Nat→Prop} {M:Nat} {v:Value} {w:World} (hM:M<9223372036854775807) (hv:ml S M w .str v) :
 Calls PP 38 #[v] w (fun e w'=>∃ r,e = .returned r∧ib S 1 false w w'):=by
 rcases hv with ⟨a,rfl⟩|⟨b,off,n,cap,cs,e,rfl,h1,⟨h2,hcm⟩,h3,h4,h5,h6⟩
 ·go_enter Tryz.func38,Jh
  cases a with
  |none=>
   go_wp2
   refine wp_loop_rounds 1 ?_
   rw [rounds_succ]
   go_wp2
   go_end0
   exact ⟨_,rfl,.refl _ _ _ _⟩
  |some a=>
   go_wp2
   refine wp_loop_rounds 1 ?_
   rw [rounds_succ]
   go_wp2
   go_end0
   exact ⟨_,rfl,.refl _ _ _ _⟩
 unfold maxLen at hcm
 go_enter Tryz.func38,Jh
 go_wp2
 go_loopw [3] (fun i wr=>∃ k:Nat,k≤cap∧i = .int .i64 k∧Lp w b cs e off 1 k wr)
  (fun i _=>cap - (RowKit.intOf i).toNat)
 case atStart=>exact ⟨0,Nat.zero_le _,rfl,.start h3⟩
 case round=>
  obtain ⟨k,hk,rfl,hl⟩:=hrel
  by_cases hkc:k<cap
  ·have hlt:off+k<cs.size:=by omega
   obtain ⟨x,hx⟩:∃ x,cs[off+k]? = some x:=⟨_,Array.getElem?_eq_getElem hlt⟩
   obtain ⟨q1,q2⟩:=h6 k x hkc hx
   obtain ⟨s,rfl⟩:=avo q1
   have hs:=hl.cell hx
   have hfz:=hl.frozen (off+k)
   have hsM:s.size+1≤9223372036854775807:=by have:=q2 s rfl;omega
   go_wp2
   go_roundw
   case rel=>exact ⟨k+1,by omega,by simp,hl.step hx (by simp [ld]) rfl (fun s' e=>by cases e;exact ⟨s,rfl,by rw [ByteArray.size_append];exact Nat.le_refl _⟩)⟩
   case measure=>simp [RowKit.intOf];omega
  ·go_wp2
   go_end0
   exact ⟨_,rfl,hl.nk h3 h1⟩
theorem Y5:Tryz.f117.ntmps=22:=rfl
set_option maxHeartbeats 1600000 in
set_option maxRecDepth 1000000 in
theorem X4 {S:Nat→Prop} {M:Nat} {v:Value} {w:World} (hv:ml S M w (.int .u8) v) :
 Calls PP 117 #[v] w (fun e w'=>∃ r,e = .returned r∧ib S 1 false w w'):=by
 obtain ⟨base,n,cap,rfl,h2,hcm,hb0⟩:=hv.form
 unfold maxLen at hcm
 have hst:=Jx.start (m:=1) hv
 go_enter Tryz.func117,Y5
 go_wp2
 go_loopw [3] (fun i wr=>∃ k:Nat,k≤cap∧i = .int .i64 k∧Jx S 1 k w (.slice base n cap) wr)
  (fun i _=>cap - (RowKit.intOf i).toNat)
 case atStart=>exact ⟨0,Nat.zero_le _,rfl,hst⟩
 case round=>
  obtain ⟨k,hk,rfl,hl⟩:=hrel
  by_cases hkc:k<cap
  ·obtain ⟨b,off,x,rfl,hs,hfz,q1,q2,hstep⟩:=hl.at (by decide) hv hkc
   obtain ⟨y,rfl⟩:=Gi q1
   go_wp2
   go_roundw
   case rel=>exact ⟨k+1,by omega,by simp,hstep _ rfl (fun s' e=>by cases e)⟩
   case measure=>simp [RowKit.intOf];omega
  ·go_wp2
   go_end0
   exact ⟨_,rfl,hl.nk⟩
theorem afh:Tryz.f66.ntmps=44:=rfl
set_option maxHeartbeats 1600000 in
set_option maxRecDepth 1000000 in
theorem Ji {S:Nat→Prop} {Nn M:Nat} {va vb vc vd:Value} {w:World} (hM4 : 4≤M) (hM:M+(Nn+3)<9223372036854775807) (hS:∀ b,w.heap.size≤b→S b) (hv:v8 S Nn M w [va,vb,vc,vd]) :
 Calls PP 66 #[.agg #[va,vb,vc,vd]] w (fun e w'=>∃ r,e = .returned r∧ib S (Nn+3) false w w'):=by
 obtain ⟨_,_,_,_,he,ha,hb,hc,hd⟩:=hv
 cases he
 have hal:ib S 0 false w (w.alloc (.cells #[va,vb,vc,vd] 101)):=ib.alloc _
 obtain ⟨bn,an,cn,rfl,an1,an2,an3,an4⟩:=ha.form
 obtain ⟨bm,am,cm,rfl,am2,am3,am4⟩:=hb.form
 unfold maxLen at an3 am3
 have hheap:(w.alloc (.cells #[Value.slice bn an cn,.slice bm am cm,vc,vd] 101)).heap[w.heap.size]? = some (.cells #[Value.slice bn an cn,.slice bm am cm,vc,vd] 101 (0,0)):=C5 _ _
 have cell:∀ {m:Nat} {wr:World},ib S m false (w.alloc (.cells #[Value.slice bn an cn,.slice bm am cm,vc,vd] 101)) wr→wr.cell? ⟨w.heap.size,0,none⟩=some (.slice bn an cn)∧wr.cell? ⟨w.heap.size,1,none⟩=some (.slice bm am cm)∧wr.cell? ⟨w.heap.size,2,none⟩=some vc∧wr.cell? ⟨w.heap.size,3,none⟩=some vd:=by
  intro m wr h
  refine ⟨h.stay (by rw [iy hheap];rfl) rfl,h.stay (by rw [iy hheap];rfl) rfl,h.stay (by rw [iy hheap];rfl) hc.slice,h.stay (by rw [iy hheap];rfl) hd.slice⟩
 go_enter Tryz.func66,afh
 go_wp2
 go_loopw [2] (fun i wr=>∃ k:Nat,k≤an∧i = .int .i64 k∧ib S k false (w.alloc (.cells #[Value.slice bn an cn,.slice bm am cm,vc,vd] 101)) wr)
  (fun i _=>an - (RowKit.intOf i).toNat)
 case atStart=>exact ⟨0,Nat.zero_le _,rfl,.refl _ _ _ _⟩
 case round=>
  obtain ⟨k,hk,rfl,ho⟩:=hrel
  obtain ⟨c0,c1,c2,c3⟩:=cell ho
  by_cases hkc:k<an
  ·have hn:=Kb hM4 (hal.trans ho) ha
   obtain ⟨b,off,cs,e,rfl,e1,e2,e3,e4,e5,e6,v,e7,e8⟩:=hn.at hkc
   have h9:cs.getD (off+k) undef=v:=by simpa using e7
   have hx:wr.cell? ⟨b,off+k,none⟩=some v:=by rw [← h9];exact cell_of e2 (by omega)
   go_wp2
   refine (ss (by omega) e8).mono ?_
   rintro ex w2 ⟨r,rfl,hov⟩
   go_wp2
   go_roundw
   case rel=>exact ⟨k+1,hkc,by simp,ho.trans hov⟩
   case measure=>simp [RowKit.intOf];omega
  ·go_wp2
   have hbb:=(hb.nk (by decide) (hal.trans ho)).mono (M':=M+Nn) (by omega)
   have hst:=Jx.start (m:=1) hbb
   go_loopw [4] (fun i w2=>∃ q:Nat,q≤cm∧i = .int .i64 q∧Jx S 1 q wr (.slice bm am cm) w2)
    (fun i _=>cm - (RowKit.intOf i).toNat)
   case atStart=>exact ⟨0,Nat.zero_le _,rfl,hst⟩
   case round=>
    obtain ⟨q,hq,rfl,hl⟩:=hrel
    by_cases hqc:q<cm
    ·obtain ⟨b,off,x,rfl,hs,hfz,q1,q2,hstep⟩:=hl.at (by decide) hbb hqc
     obtain ⟨y,rfl⟩:=Gi q1
     go_wp2
     go_roundw
     case rel=>exact ⟨q+1,by omega,by simp,hstep _ rfl (fun s' e=>by cases e)⟩
     case measure=>simp [RowKit.intOf];omega
    ·have ho2:=hl.nk
     obtain ⟨d0,d1,d2,d3⟩:=cell (ho.trans ho2)
     go_wp2
     have h3:=(hal.trans ho).trans ho2
     refine (ss (M:=M+(0+k+1)) (by omega) (hc.nk (by decide) h3)).mono ?_
     rintro ex w2 ⟨r,rfl,hov⟩
     obtain ⟨f0,f1,f2,f3⟩:=cell ((ho.trans ho2).trans hov)
     go_wp2
     refine (X4 (hd.nk (by decide) (h3.trans hov))).mono ?_
     rintro ex w3 ⟨r2,rfl,hov2⟩
     go_wp2
     go_end0
     exact ⟨_,rfl,((h3.trans hov).trans hov2).mono (by omega)⟩
theorem au3:TK.sz 9=some 1:=by kernel_rfl
theorem afi:Tryz.f19.ntmps=86:=rfl
set_option maxHeartbeats 3200000 in
set_option maxRecDepth 1000000 in
theorem ace {S:Nat→Prop} {Nn Nd N M:Nat} {v:Value} {w:World} (hM4 : 4≤M) (hM:M+N * (1+Nd * (Nn+3))+(Nn+3)<9223372036854775807) (hS:∀ b,w.heap.size≤b→S b) (hv:j9 S N w 5 (Ou S Nn Nd M) v) :
 Calls PP 19 #[v] w (fun e w'=>∃ r,e = .returned r∧ib S (N * (1+Nd * (Nn+3))) true w w'):=by
 obtain ⟨bn,an,cn,rfl,an1,an2,an3,an4⟩:=hv.form
 unfold maxLen at an3
 go_enter Tryz.func19,afi
 go_wp2
 go_loopw [2] (fun i wr=>∃ k:Nat,k≤an∧i = .int .i64 k∧ib S (k * (1+Nd * (Nn+3))) true w wr)
  (fun i _=>an - (RowKit.intOf i).toNat)
 case atStart=>exact ⟨0,Nat.zero_le _,rfl,(ib.refl _ _ _ _)⟩
 case round=>
  obtain ⟨k,hk,rfl,ho⟩:=hrel
  by_cases hkc:k<an
  ·have hn:=H3 hM4 ho hv
   obtain ⟨b,off,cs,e,rfl,e1,e2,e3,e4,e5,e6,o,ty,cl,u,d,e7,e8,e9,e10,e11,e12⟩:=hn.at hkc
   simp only [show List.range 5=[0,1,2,3,4] from rfl,List.map_cons,List.map_nil,List.cons.injEq,and_true,Nat.add_zero] at e7
   obtain ⟨g0,g1,g2,g3,g4⟩:=e7
   have c0:wr.cell? ⟨b,off+k * 5,none⟩=some o:=by rw [← g0];exact cell_of e2 (by omega)
   have c4:wr.cell? ⟨b,off+k * 5+4,none⟩=some d:=by rw [← g4];exact cell_of e2 (by omega)
   go_wp2
   refine (ss (M:=M+k * (1+Nd * (Nn+3))) (by have:=Nat.mul_le_mul_right (1+Nd * (Nn+3)) (show k≤N by omega);omega) e8).mono ?_
   rintro ex w2 ⟨r,rfl,hov⟩
   obtain ⟨bd,dn,dc,rfl,d1,d2,d3,d4⟩:=e12.form
   unfold maxLen at d3
   have hsz:w.heap.size≤w2.heap.size:=Nat.le_trans ho.size hov.size
   have f4:w2.cell? ⟨b,off+k * 5+4,none⟩=some (.slice bd dn dc):=hov.stay c4 rfl
   go_wp2
   go_loopw [3] (fun i wr2=>∃ q:Nat,q≤dn∧i = .int .i64 q∧ib S (q * (Nn+3)) false w2 wr2)
    (fun i _=>dn - (RowKit.intOf i).toNat)
   case atStart=>exact ⟨0,Nat.zero_le _,rfl,(ib.refl _ _ _ _)⟩
   case round=>
    obtain ⟨q,hq,rfl,ho2⟩:=hrel
    have f5:=ho2.stay f4 rfl
    by_cases hqc:q<dn
    ·have hd2:=Jg (by omega) (hov.trans ho2) e12
     obtain ⟨b2,off2,cs2,et2,rfl,p1,p2,p3,p4,p5,p6,p7⟩:=hd2.at hqc
     obtain ⟨x0,x1,x2,x3,p8,p9⟩:=id p7
     simp only [show List.range 4=[0,1,2,3] from rfl,List.map_cons,List.map_nil,List.cons.injEq,and_true,Nat.add_zero] at p8
     obtain ⟨q0,q1,q2,q3⟩:=p8
     have i0:wr.cell? ⟨b2,off2+q * 4,none⟩=some x0:=by rw [← q0];exact cell_of p2 (by omega)
     have i1:wr.cell? ⟨b2,off2+q * 4+1,none⟩=some x1:=by rw [← q1];exact cell_of p2 (by omega)
     have i2:wr.cell? ⟨b2,off2+q * 4+2,none⟩=some x2:=by rw [← q2];exact cell_of p2 (by omega)
     have i3:wr.cell? ⟨b2,off2+q * 4+3,none⟩=some x3:=by rw [← q3];exact cell_of p2 (by omega)
     have hk1:k * (1+Nd * (Nn+3))+(1+Nd * (Nn+3))≤N * (1+Nd * (Nn+3)):=by rw [← Nat.succ_mul];exact Nat.mul_le_mul_right _ (by omega)
     have hq1:q * (Nn+3)+(Nn+3)≤Nd * (Nn+3):=by rw [← Nat.succ_mul];exact Nat.mul_le_mul_right _ (by omega)
     go_wp2
     refine (Ji (M:=M+k * (1+Nd * (Nn+3))+(1+q * (Nn+3))) (by omega) (by omega) (fun b hb=>hS b (by have:=ho2.size;omega)) ⟨x0,x1,x2,x3,rfl,p9⟩).mono ?_
     rintro ex w3 ⟨r3,rfl,hov3⟩
     go_wp2
     go_roundw
     case rel=>exact ⟨q+1,hqc,by simp,by rw [Nat.succ_mul];exact ho2.trans hov3⟩
     case measure=>simp [RowKit.intOf];omega
    ·go_wp2
     go_region
     go_wp2
     have hq1:q=dn:=by omega
     subst hq1
     have h3:=hov.trans ho2
     go_loopw [5] (fun i wr3=>∃ p:Nat,q≤p∧(p≤dc∨p=q)∧i = .int .i64 p∧ib S 0 true wr wr3)
      (fun i _=>dc - (RowKit.intOf i).toNat)
     case atStart=>exact ⟨q,Nat.le_refl _,.inr rfl,rfl,ib.quiet _ _ _ (Nat.le_refl _) rfl rfl rfl (fun _ _=>rfl)⟩
     case round=>
      obtain ⟨p,hp1,hp2,rfl,ho3⟩:=hrel
      by_cases hpc:p<dc
      ·have hd3:=Jg (xx:=true) (by omega) (h3.any.trans ho3) e12
       obtain ⟨b2,off2,cs2,et2,rfl,p1,p2,p3,p4,p5,p6⟩:=hd3.room hpc
       have hfz:=abu p2
       have m0:=fun o=>Ce p2 o (j:=off2+p * 4) (by omega)
       have m1:=fun o=>Ce p2 o (j:=off2+p * 4+1) (by omega)
       have m2:=fun o=>Ce p2 o (j:=off2+p * 4+2) (by omega)
       have m3:=fun o=>Ce p2 o (j:=off2+p * 4+3) (by omega)
       go_wp2
       go_roundw
       case rel=>exact ⟨p+1,by omega,.inl (by omega),by simp,ho3.trans (ib.spare p2 p1 p3 (hS _ (by have:=ho3.size;have:=ho2.size;omega)) (by omega) au3 (by decide))⟩
       case measure=>simp [RowKit.intOf];omega
      ·have ht:=(ho.trans h3.any).trans ho3
       obtain ⟨b',off',cs',e',he',y1,y2,y3,y4,y5,y6,o',ty',cl',u',d',y7,y8,y9,y10,y11,y12⟩:=(H3 hM4 ht hv).at hkc
       cases he'
       simp only [show List.range 5=[0,1,2,3,4] from rfl,List.map_cons,List.map_nil,List.cons.injEq,and_true,Nat.add_zero] at y7
       obtain ⟨z0,z1',z2,z3',z4⟩:=y7
       have l1:wr.cell? ⟨b,off+k * 5+1,none⟩=some ty':=by rw [← z1'];exact cell_of y2 (by omega)
       have l3:wr.cell? ⟨b,off+k * 5+3,none⟩=some u':=by rw [← z3'];exact cell_of y2 (by omega)
       have z1:=Bb y2 (off+k * 5+1)
       have z3:=Bb y2 (off+k * 5+3)
       obtain ⟨i1,rfl⟩:=Gi y9
       obtain ⟨i3,rfl⟩:=Gi y11
       go_wp2
       have hs3:=ib.set (v:=.int .u32 (bits BinOp.xor .u32 i3 77)) y2 y1 (j:=off+k * 5+3) (x:=.int .u32 i3) (by rw [← z3',Array.getD_eq_getD_getElem?,Array.getElem?_eq_getElem (by omega)];rfl) (by intro q;cases q) rfl (fun s q=>by cases q)
       have hs1:=ib.set (v:=.int .u16 (bits BinOp.xor .u16 i1 77)) hs3.2 y1 (j:=off+k * 5+1) (x:=.int .u16 i1) (by rw [Array.getElem?_setIfInBounds,if_neg (by omega),← z1',Array.getD_eq_getD_getElem?,Array.getElem?_eq_getElem (by omega)];rfl) (by intro q;cases q) rfl (fun s q=>by cases q)
       have hq3:q * (Nn+3)≤Nd * (Nn+3):=Nat.mul_le_mul_right _ d1
       go_roundw
       case rel=>exact ⟨k+1,hkc,by simp,by rw [Nat.succ_mul];exact ((ht.trans (hs3.1.trans hs1.1).any)).mono (by omega)⟩
       case measure=>simp [RowKit.intOf];omega
  ·go_wp2
   go_end0
   exact ⟨_,rfl,ho.mono (Nat.mul_le_mul_right _ (by omega))⟩
theorem Uy:Tryz.f37.ntmps=41:=rfl
set_option maxHeartbeats 3200000 in
set_option maxRecDepth 1000000 in
theorem S0 {S:Nat→Prop} {Nn N M:Nat} {v:Value} {w:World} (hM4 : 4≤M) (hM:M+N * (1+(Nn+3))+(Nn+3)<9223372036854775807) (hS:∀ b,w.heap.size≤b→S b) (hv:j9 S N w 8 (O7 S Nn M) v) :
 Calls PP 37 #[v] w (fun e w'=>∃ r,e = .returned r∧ib S (N * (1+(Nn+3))) true w w'):=by
 obtain ⟨bn,an,cn,rfl,an1,an2,an3,an4⟩:=hv.form
 unfold maxLen at an3
 go_enter Tryz.func37,Uy
 go_wp2
 go_loopw [2] (fun i wr=>∃ k:Nat,k≤an∧i = .int .i64 k∧ib S (k * (1+(Nn+3))) true w wr)
  (fun i _=>an - (RowKit.intOf i).toNat)
 case atStart=>exact ⟨0,Nat.zero_le _,rfl,(ib.refl _ _ _ _)⟩
 case round=>
  obtain ⟨k,hk,rfl,ho⟩:=hrel
  by_cases hkc:k<an
  ·have hk1:k * (1+(Nn+3))+(1+(Nn+3))≤N * (1+(Nn+3)):=by rw [← Nat.succ_mul];exact Nat.mul_le_mul_right _ (by omega)
   have hn:=O5 hM4 ho hv
   obtain ⟨b,off,cs,e,rfl,e1,e2,e3,e4,e5,e6,o,ty,cl,u,d,e7,e8,e9,e10,e11,x0,x1,x2,x3,rfl,e12⟩:=hn.at hkc
   simp only [show List.range 8=[0,1,2,3,4,5,6,7] from rfl,List.map_cons,List.map_nil,List.cons.injEq,and_true,Nat.add_zero] at e7
   obtain ⟨g0,g1,g2,g3,g4,g5,g6,g7⟩:=e7
   have c0:wr.cell? ⟨b,off+k * 8,none⟩=some o:=by rw [← g0];exact cell_of e2 (by omega)
   have c4:wr.cell? ⟨b,off+k * 8+4,none⟩=some x0:=by rw [← g4];exact cell_of e2 (by omega)
   have c5:wr.cell? ⟨b,off+k * 8+5,none⟩=some x1:=by rw [← g5];exact cell_of e2 (by omega)
   have c6:wr.cell? ⟨b,off+k * 8+6,none⟩=some x2:=by rw [← g6];exact cell_of e2 (by omega)
   have c7:wr.cell? ⟨b,off+k * 8+7,none⟩=some x3:=by rw [← g7];exact cell_of e2 (by omega)
   go_wp2
   refine (ss (M:=M+k * (1+(Nn+3))) (by omega) e8).mono ?_
   rintro ex w2 ⟨r,rfl,hov⟩
   have c4':=hov.stay c4 e12.1.slice
   have c5':=hov.stay c5 e12.2.1.slice
   have c6':=hov.stay c6 e12.2.2.1.slice
   have c7':=hov.stay c7 e12.2.2.2.slice
   have hd:=v8.nk (by omega) hov ⟨x0,x1,x2,x3,rfl,e12⟩
   go_wp2
   refine (Ji (M:=M+k * (1+(Nn+3))+1) (by omega) (by omega) (fun b hb=>hS b (by have:=ho.size;have:=hov.size;omega)) hd).mono ?_
   rintro ex w3 ⟨r3,rfl,hov3⟩
   have ht:=ho.trans (hov.trans hov3).any
   obtain ⟨b',off',cs',e',he',y1,y2,y3,y4,y5,y6,o',ty',cl',u',d',y7,y8,y9,y10,y11,x0',x1',x2',x3',rfl,y12⟩:=(O5 hM4 ht hv).at hkc
   cases he'
   simp only [show List.range 8=[0,1,2,3,4,5,6,7] from rfl,List.map_cons,List.map_nil,List.cons.injEq,and_true,Nat.add_zero] at y7
   obtain ⟨z0,z1',z2,z3',z4⟩:=y7
   have l1:w3.cell? ⟨b,off+k * 8+1,none⟩=some ty':=by rw [← z1'];exact cell_of y2 (by omega)
   have l3:w3.cell? ⟨b,off+k * 8+3,none⟩=some u':=by rw [← z3'];exact cell_of y2 (by omega)
   have z1:=Bb y2 (off+k * 8+1)
   have z3:=Bb y2 (off+k * 8+3)
   obtain ⟨i1,rfl⟩:=Gi y9
   obtain ⟨i3,rfl⟩:=Gi y11
   go_wp2
   have hs3:=ib.set (v:=.int .u32 (bits BinOp.xor .u32 i3 77)) y2 y1 (j:=off+k * 8+3) (x:=.int .u32 i3) (by rw [← z3',Array.getD_eq_getD_getElem?,Array.getElem?_eq_getElem (by omega)];rfl) (by intro q;cases q) rfl (fun s q=>by cases q)
   have hs1:=ib.set (v:=.int .u16 (bits BinOp.xor .u16 i1 77)) hs3.2 y1 (j:=off+k * 8+1) (x:=.int .u16 i1) (by rw [Array.getElem?_setIfInBounds,if_neg (by omega),← z1',Array.getD_eq_getD_getElem?,Array.getElem?_eq_getElem (by omega)];rfl) (by intro q;cases q) rfl (fun s q=>by cases q)
   go_roundw
   case rel=>exact ⟨k+1,hkc,by simp,by rw [Nat.succ_mul];exact ((ht.trans (hs3.1.trans hs1.1).any)).mono (by omega)⟩
   case measure=>simp [RowKit.intOf];omega
  ·go_wp2
   go_end0
   exact ⟨_,rfl,ho.mono (Nat.mul_le_mul_right _ (by omega))⟩
end Go.Proofs.YtgencolcibpcaaaGreat
end
section
namespace Go.Proofs.YtgencolcibpcaaaGreat
open Go.Vm
def jm:List ByteArray→List ByteArray→Nat
 |a::r,b::q=>if fold a=fold b then jm r q+1 else 0
 |_,_=>0
theorem N7 (l:List ByteArray):jm l []=0:=by cases l<;>rfl
def common (a b:Name):Nat:=jm a.reverse b.reverse
theorem Ho {l:List ByteArray} {x:Nat} {c:ByteArray} (h:x<l.length) (hc:l[l.length - 1 - x]? = some c):l.reverse.drop x=c::l.reverse.drop (x+1):=by
 have h1:l.reverse[x]? = some c:=by rw [List.getElem?_reverse h];exact hc
 obtain ⟨h2,h3⟩:=List.getElem?_eq_some_iff.1 h1
 rw [← h3];exact List.drop_eq_getElem_cons h2
set_option maxRecDepth 20000 in
theorem X6 (a b:Name) (ha:∀ s ∈ a,s.size≤16777216) (hb:∀ s ∈ b,s.size≤16777216) (hla:a.length<17592186044416) (hlb:b.length<17592186044416):wl PP [alk] 0 (Tryz.f106.body.getD .skip) (db PP Tryz.f106.results.toList (fun r st=>(r1 (ba .i64)).get true st.h r=some (common a b:Int))) (cd 0 [aq.val false a,aq.val false b]) (bk []):=by
 unfold Tryz.f106
 simp only [cq]
 simp only [↓wR,RA,simprocAttr,TF]
 refine c8 (T:=[]) (ak.nil PP) mixed Tryz.func144 rfl (by kernel_rfl) (by kernel_rfl) (by kernel_rfl) (by kernel_rfl) ?_;unfold Tryz.f144
 simp only [↓wR,RA,simprocAttr,TF]
 refine ⟨[2,3,4,5,10],?_⟩
 have hib:xq PP 177=some (Tryz.f177.ntmps,Tryz.f177.body.getD .skip):=by kernel_rfl
 simp only [↓wR,RA,simprocAttr,TF,hib]
 refine ⟨by kernel_rfl,fun l=>?_⟩
 unfold Tryz.f177
 simp only [↓wR,RA,simprocAttr,TF]
 refine Er [0,1,3] (fun (x:Nat)=>[.sc (.func (.yield l) #[] #[]),.ptr 4 0,.sc (.int .i64 ((a.length:Int) - 1 - x))]) (fun x=>[some (.row [.vl false 1 (a.map (ai.val false))] 0 2 24),some (.row [.vl false 1 (b.map (ai.val false))] 0 2 24),some (.row [.sc (.int .i64 0)] 0 2 3),some (.row [.sc (.int .i64 x)] 0 2 3),some (.row [.vl false 1 (a.map (ai.val false))] 0 2 24)]) (fun x=>x≤a.length∧common a b=x+jm (a.reverse.drop x) (b.reverse.drop x)) (fun x=>a.length - x) 0 ⟨Nat.zero_le _,by simp [common]⟩ ?_ ?_ ?_
 ·simp only [↓wR,RA,simprocAttr,TF];simp;rw [wrap_i64 _ (by omega) (by omega)]
 ·simp only [↓wR,RA,simprocAttr,TF]<;>rfl
 rintro x ⟨hx,hR⟩
 simp only [↓wR,RA,simprocAttr,TF]
 rw [qu];refine ⟨fun h=>?_,fun h=>?_⟩
 ·have hx':x<a.length:=by simp at h;omega
  obtain ⟨c,hc⟩:∃ c,a[a.length - 1 - x]? = some c:=⟨_,List.getElem?_eq_getElem (by omega)⟩
  have e:((a.length:Int) - 1 - x).toNat=a.length - 1 - x:=by omega
  have e2:(0:Int)≤(a.length:Int) - 1 - x:=by omega
  simp only [↓wR,RA,simprocAttr,TF,e,hc,e2]
  refine u6 [0,1,3,12,16] ?_
  simp only [↓wR,RA,simprocAttr,TF,vm,mb,hc]
  simp (disch:=omega) only [ag,bz,b9,bu,bw]
  rw [cy];refine ⟨fun h1=>?_,fun h1=>?_⟩
  ·have hb0:b.length≤x:=by simp at h1;omega
   have hb1:b.reverse.drop x=[]:=List.drop_eq_nil_of_le (by simpa using hb0)
   rw [hb1,N7] at hR
   simp only [↓wR,RA,simprocAttr,TF,h1]
   rw [hR,Nat.add_zero]
  ·have hb0:x<b.length:=by simp at h1;omega
   obtain ⟨d,hd⟩:∃ d,b[b.length - 1 - x]? = some d:=⟨_,List.getElem?_eq_getElem (by omega)⟩
   have e4:((b.length:Int) - ((a.length:Int) - ((a.length:Int) - 1 - x))).toNat=b.length - 1 - x:=by omega
   have e5:(0:Int)≤(b.length:Int) - ((a.length:Int) - ((a.length:Int) - 1 - x)):=by omega
   simp only [↓wR,RA,simprocAttr,TF,h1,hd,e4,e5,yv,ha c (List.mem_of_getElem? hc),hb d (List.mem_of_getElem? hd)]
   rw [Ho hx' hc,Ho hb0 hd,jm] at hR
   rw [cy];refine ⟨fun h2=>?_,fun h2=>?_⟩
   ·have h3:¬ fold c=fold d:=by simpa using h2
    rw [if_neg h3] at hR
    simp only [↓wR,RA,simprocAttr,TF,h2]
    rw [hR,Nat.add_zero]
   ·have h3:fold c=fold d:=by simpa using h2
    rw [if_pos h3] at hR
    simp only [↓wR,RA,simprocAttr,TF,h2]
    refine ⟨x+1,⟨by omega,by omega⟩,by omega,?_,?_⟩
    ·simp only [List.cons.injEq,and_true,true_and,AV.sc.injEq,Value.int.injEq]
     simp (disch:=omega) only [ag,bz,b9,bu,bw]
     omega
    ·simp (disch:=omega) only [ag,bz,b9,bu,bw]
     rfl
 ·have h4:x=a.length:=by simp at h;omega
  have h5:a.reverse.drop x=[]:=List.drop_eq_nil_of_le (by simp;omega)
  rw [h5,jm] at hR
  simp only [↓wR,RA,simprocAttr,TF,h]
  rw [hR,Nat.add_zero]
  all_goals simp
theorem aej (args:List AV):Cf PP 194 args (Cx.kc args):=
 Cx.D0 (fn:=(PP.funcs[194]?).getD default) (by kernel_rfl) (by kernel_rfl) (by kernel_rfl) (by kernel_rfl) (by kernel_rfl) args
noncomputable abbrev ak8:Nat × Bool × (List AV→M AV):=(194,true,Cx.kc)
theorem amx:ak PP [ak8]:=ak.cons aej (ak.nil PP)
noncomputable def yw (a b:ByteArray):Int:=Lib.compareBytes a.data.toList b.data.toList
theorem Mq (a b:ByteArray):wl PP [] 0 (Tryz.f151.body.getD .skip) (db PP Tryz.f151.results.toList (fun r st=>(r1 (ba .i64)).get true st.h r=some (yw a b))) (cd 0 [ai.val false a,ai.val false b]) (bk []):=by
 unfold Tryz.f151
 simp only [↓wR,RA,simprocAttr,TF]
 refine c8 (T:=[ak8]) amx mixed Tryz.func179 rfl (by kernel_rfl) (by kernel_rfl) (by kernel_rfl) (by kernel_rfl) ?_;unfold Tryz.f179
 simp only [↓wR,RA,simprocAttr,TF,yw]
noncomputable def yf (x:ByteArray × ByteArray × Unit):Option AV:=some ((r1 (ba .i64)).E true (yw x.1 x.2.1))
set_option maxRecDepth 2000000 in
theorem I2 (x:ByteArray × ByteArray × Unit) (r:AV) (h:yf x=some r):bc PP 151 ((aC ai (aC ai a0)).E x) r:=by
 cases h
 exact au (ak.nil PP) Tryz.func151 (by kernel_rfl) (by kernel_rfl) (by kernel_rfl) (Nat.le_of_ble_eq_true (by kernel_rfl)) (r1 (ba .i64)) true (yw x.1 x.2.1) (Mq x.1 x.2.1)
noncomputable abbrev T5:Nat × Bool × (List AV→M AV):=(151,true,cx (aC ai (aC ai a0)) yf)
theorem Qd (a b:ByteArray) (ha:a.size≤16777216) (hb:b.size≤16777216):wl PP [Li,T5] 0 (Tryz.f109.body.getD .skip) (db PP Tryz.f109.results.toList (fun r st=>(r1 (ba .i64)).get true st.h r=some (yw (fold a) (fold b)))) (cd 0 [ai.val false a,ai.val false b]) (bk []):=by
 unfold Tryz.f109
 simp only [↓wR,RA,simprocAttr,TF,sf,yf,ha,hb]
noncomputable def si (x:ByteArray × ByteArray × Unit):Option AV:=if x.1.size≤16777216∧x.2.1.size≤16777216 then some ((r1 (ba .i64)).E true (yw (fold x.1) (fold x.2.1))) else none
set_option maxRecDepth 2000000 in
theorem Ms (x:ByteArray × ByteArray × Unit) (r:AV) (h:si x=some r):bc PP 109 ((aC ai (aC ai a0)).E x) r:=by
 by_cases hc:x.1.size≤16777216∧x.2.1.size≤16777216
 case neg=>simp only [si,if_neg hc] at h;cases h
 simp only [si,if_pos hc] at h
 cases h
 exact au (ak.cons (aj Ab) (ak.cons (aj I2) (ak.nil PP))) Tryz.func109 (by kernel_rfl) (by kernel_rfl) (by kernel_rfl) (Nat.le_of_ble_eq_true (by kernel_rfl)) (r1 (ba .i64)) true (yw (fold x.1) (fold x.2.1)) (Qd x.1 x.2.1 hc.1 hc.2)
noncomputable abbrev ac9:Nat × Bool × (List AV→M AV):=(109,true,cx (aC ai (aC ai a0)) si)
def ey (n:Name):List ByteArray:=n.map fold
def bj (n:Name):Prop:=cf n≤16777216
instance (n:Name):Decidable (bj n):=inferInstanceAs (Decidable (_≤_))
theorem Yy {n:Name} {s:ByteArray} (h:s ∈ n):s.size<cf n:=by
 obtain ⟨a,b,rfl⟩:=List.append_of_mem h
 have h1:=p0 a ([s]++b)
 have h2:=p0 [s] b
 have h3:cf [s]=s.size+2:=by simp [cf];omega
 have h4:∀ l:Name,1≤cf l:=fun l=>by have:=(i6 l 0).2;omega
 have:=h4 a;have:=h4 b
 simp only [List.singleton_append] at h1 h2
 omega
theorem bj.label {n:Name} (h:bj n):∀ s ∈ n,s.size≤16777216:=fun s hs=>by have:=Yy hs;unfold bj at h;omega
theorem bj.len {n:Name} (h:bj n):n.length<17592186044416:=by have:=(i6 n 0).2;unfold bj at h;omega
theorem Hm:∀ r q:List ByteArray,jm r q≤q.length
 | [],q=>by simp [jm]
 |a::r,[]=>by simp [jm]
 |a::r,b::q=>by
  have:=Hm r q
  simp only [jm,List.length_cons]
  split<;>omega
theorem Dk:∀ r q:List ByteArray,jm r q≤r.length
 | [],q=>by simp [jm]
 |a::r,[]=>by simp [jm]
 |a::r,b::q=>by
  have:=Dk r q
  simp only [jm,List.length_cons]
  split<;>omega
theorem Og:∀ r q:List ByteArray,jm r q=q.length↔q.map fold <+: r.map fold
 | [],[]=>by simp [jm]
 |a::r,[]=>by simp [jm]
 | [],b::q=>by simp [jm]
 |a::r,b::q=>by
  have:=Og r q
  simp only [jm,List.length_cons,List.map_cons,List.cons_prefix_cons]
  by_cases h:fold a=fold b
  ·rw [if_pos h]
   constructor
   ·intro h1;exact ⟨h.symm,this.1 (by omega)⟩
   ·intro h1;have:=this.2 h1.2;omega
  ·rw [if_neg h]
   constructor
   ·intro h1;omega
   ·intro h1;exact (h h1.1.symm).elim
theorem yd (n top:Name):common n top=top.length↔ey top <:+ ey n:=by
 unfold common ey
 rw [← List.length_reverse,Og,List.map_reverse,List.map_reverse,List.reverse_prefix]
theorem Ay (a b:Name):(a.length=b.length∧common a b=a.length)↔ey a=ey b:=by
 constructor
 ·rintro ⟨h1,h2⟩
  rw [h1] at h2
  have:=(yd a b).1 h2
  exact (this.eq_of_length (by simp [ey,h1])).symm
 ·intro h
  have hl:a.length=b.length:=by have:=congrArg List.length h;simpa [ey] using this
  refine ⟨hl,?_⟩
  rw [hl]
  exact (yd a b).2 (by rw [h];exact List.suffix_refl _)
def fg (a b:Name):Bool:=decide (ey a=ey b)
def eg (n top:Name):Bool:=decide (ey top <:+ ey n)
noncomputable def oi (x:Name × Name × Unit):Option AV:=if bj x.1∧bj x.2.1 then some ((r1 (ba .i64)).E true ((common x.1 x.2.1:Int))) else none
set_option maxRecDepth 2000000 in
theorem yq (x:Name × Name × Unit) (r:AV) (h:oi x=some r):bc PP 106 ((aC aq (aC aq a0)).E x) r:=by
 by_cases hc:bj x.1∧bj x.2.1
 case neg=>simp only [oi,if_neg hc] at h;cases h
 simp only [oi,if_pos hc] at h
 cases h
 exact au (ak.cons (aj Uu) (ak.nil PP)) Tryz.func106 (by kernel_rfl) (by kernel_rfl) (by kernel_rfl) (Nat.le_of_ble_eq_true (by kernel_rfl)) (r1 (ba .i64)) true ((common x.1 x.2.1:Int)) (X6 x.1 x.2.1 hc.1.label hc.2.label hc.1.len hc.2.len)
noncomputable abbrev H2:Nat × Bool × (List AV→M AV):=(106,true,cx (aC aq (aC aq a0)) oi)
theorem abf (n top:Name) (hn:bj n) (ht:bj top):wl PP [H2] 0 (Tryz.f72.body.getD .skip) (db PP Tryz.f72.results.toList (fun r st=>(r1 az).get true st.h r=some (eg n top))) (cd 0 [aq.val false n,aq.val false top]) (bk []):=by
 unfold Tryz.f72
 simp only [cq]
 simp only [↓wR,RA,simprocAttr,TF,oi,hn,ht]
 congr 1
 unfold eg
 have:=yd n top
 rw [Bool.eq_iff_iff];simp [← this];omega
noncomputable def oe (x:Name × Name × Unit):Option AV:=if bj x.1∧bj x.2.1 then some ((r1 az).E true (eg x.1 x.2.1)) else none
set_option maxRecDepth 2000000 in
theorem re (x:Name × Name × Unit) (r:AV) (h:oe x=some r):bc PP 72 ((aC aq (aC aq a0)).E x) r:=by
 by_cases hc:bj x.1∧bj x.2.1
 case neg=>simp only [oe,if_neg hc] at h;cases h
 simp only [oe,if_pos hc] at h
 cases h
 exact au (ak.cons (aj yq) (ak.nil PP)) Tryz.func72 (by kernel_rfl) (by kernel_rfl) (by kernel_rfl) (Nat.le_of_ble_eq_true (by kernel_rfl)) (r1 az) true (eg x.1 x.2.1) (abf x.1 x.2.1 hc.1 hc.2)
noncomputable abbrev A7:Nat × Bool × (List AV→M AV):=(72,true,cx (aC aq (aC aq a0)) oe)
theorem aff (n top:Name) (hn:bj n) (ht:bj top):wl PP [H2] 0 (Tryz.f52.body.getD .skip) (db PP Tryz.f52.results.toList (fun r st=>(r1 az).get true st.h r=some (fg n top))) (cd 0 [aq.val false n,aq.val false top]) (bk []):=by
 unfold Tryz.f52
 simp only [cq]
 simp only [↓wR,RA,simprocAttr,TF,oi,hn,ht]
 rw [cy];refine ⟨fun h=>?_,fun h=>?_⟩
 ·have hl:n.length=top.length:=by simp at h;omega
  simp only [↓wR,RA,simprocAttr,TF,h,oi,hn,ht]
  congr 1
  unfold fg
  have:=Ay n top
  rw [Bool.eq_iff_iff];simp [← this,hl];omega
 ·have hl:¬ n.length=top.length:=by simp at h;omega
  simp only [↓wR,RA,simprocAttr,TF,h]
  have:=Ay n top
  simp [fg,← this,hl]
noncomputable def kj (x:Name × Name × Unit):Option AV:=if bj x.1∧bj x.2.1 then some ((r1 az).E true (fg x.1 x.2.1)) else none
set_option maxRecDepth 2000000 in
theorem n6 (x:Name × Name × Unit) (r:AV) (h:kj x=some r):bc PP 52 ((aC aq (aC aq a0)).E x) r:=by
 by_cases hc:bj x.1∧bj x.2.1
 case neg=>simp only [kj,if_neg hc] at h;cases h
 simp only [kj,if_pos hc] at h
 cases h
 exact au (ak.cons (aj yq) (ak.nil PP)) Tryz.func52 (by kernel_rfl) (by kernel_rfl) (by kernel_rfl) (Nat.le_of_ble_eq_true (by kernel_rfl)) (r1 az) true (fg x.1 x.2.1) (aff x.1 x.2.1 hc.1 hc.2)
noncomputable abbrev fc:Nat × Bool × (List AV→M AV):=(52,true,cx (aC aq (aC aq a0)) kj)
noncomputable def ajt (a b:Name) (k:Nat):Int:=
 match a[a.length - 1 - k]?,b[b.length - 1 - k]? with
 |some x,some y=>yw (fold x) (fold y)
 |_,_=>0
noncomputable def Gx (a b:Name):Int:=
 if common a b=a.length∧common a b=b.length then 0 else if common a b=a.length then -1 else if common a b=b.length then 1 else ajt a b (common a b)
theorem Tv (a b:Name) (ha:bj a) (hb:bj b):wl PP [H2,ac9] 0 (Tryz.f58.body.getD .skip) (db PP Tryz.f58.results.toList (fun r st=>(r1 (ba .i64)).get true st.h r=some (Gx a b))) (cd 0 [aq.val false a,aq.val false b]) (bk []):=by
 unfold Tryz.f58
 simp only [cq]
 simp only [↓wR,RA,simprocAttr,TF,oi,ha,hb]
 have h1:=Dk a.reverse b.reverse
 have h2:=Hm a.reverse b.reverse
 rw [List.length_reverse] at h1 h2
 change common a b≤a.length at h1
 change common a b≤b.length at h2
 obtain ⟨k,hk⟩:∃ k,common a b=k:=⟨_,rfl⟩
 rw [hk] at h1 h2
 unfold Gx
 rw [hk]
 rw [cy];refine ⟨fun h=>?_,fun h=>?_⟩
 ·simp only [↓wR,RA,simprocAttr,TF,h]
  have hka:k=a.length:=by simp at h;omega
  rw [cy];refine ⟨fun h3=>?_,fun h3=>?_⟩
  ·have hkb:k=b.length:=by simp at h3;omega
   simp only [↓wR,RA,simprocAttr,TF,h3]
   rw [if_pos ⟨hka,hkb⟩]
  ·have hkb:¬ k=b.length:=by simp at h3;omega
   simp only [↓wR,RA,simprocAttr,TF,h3,h]
   rw [if_neg (fun e=>hkb e.2),if_pos hka]
 ·simp only [↓wR,RA,simprocAttr,TF,h]
  have hka:¬ k=a.length:=by simp at h;omega
  rw [cy];refine ⟨fun h3=>?_,fun h3=>?_⟩
  ·have hkb:k=b.length:=by simp at h3;omega
   simp only [↓wR,RA,simprocAttr,TF,h3]
   rw [if_neg (fun e=>hka e.1),if_neg hka,if_pos hkb]
  ·have hkb:¬ k=b.length:=by simp at h3;omega
   rw [if_neg (fun e=>hka e.1),if_neg hka,if_neg hkb]
   obtain ⟨x,hx⟩:∃ x,a[a.length - 1 - k]? = some x:=⟨_,List.getElem?_eq_getElem (by omega)⟩
   obtain ⟨y,hy⟩:∃ y,b[b.length - 1 - k]? = some y:=⟨_,List.getElem?_eq_getElem (by omega)⟩
   simp only [↓wR,RA,simprocAttr,TF,h3]
   refine ⟨by kernel_rfl,.inl ?_⟩
   have la:=ha.len
   have lb:=hb.len
   simp (disch:=omega) only [ag,bz,b9,bu,bw]
   have e1:(((a.length:Int) - 1) - k).toNat=a.length - 1 - k:=by omega
   have e2:(0:Int)≤((a.length:Int) - 1) - k:=by omega
   have e3:(((b.length:Int) - 1) - k).toNat=b.length - 1 - k:=by omega
   have e4:(0:Int)≤((b.length:Int) - 1) - k:=by omega
   simp only [↓wR,RA,simprocAttr,TF,hx,e1,e2]
   simp (disch:=omega) only [ag,bz,b9,bu,bw]
   simp only [↓wR,RA,simprocAttr,TF,hy,e3,e4,si,ha.label x (List.mem_of_getElem? hx),hb.label y (List.mem_of_getElem? hy)]
   exact ⟨by kernel_rfl,by simp [ajt,hx,hy]⟩
noncomputable def tz (x:Name × Name × Unit):Option AV:=if bj x.1∧bj x.2.1 then some ((r1 (ba .i64)).E true (Gx x.1 x.2.1)) else none
set_option maxRecDepth 2000000 in
theorem O2 (x:Name × Name × Unit) (r:AV) (h:tz x=some r):bc PP 58 ((aC aq (aC aq a0)).E x) r:=by
 by_cases hc:bj x.1∧bj x.2.1
 case neg=>simp only [tz,if_neg hc] at h;cases h
 simp only [tz,if_pos hc] at h
 cases h
 exact au (ak.cons (aj yq) (ak.cons (aj Ms) (ak.nil PP))) Tryz.func58 (by kernel_rfl) (by kernel_rfl) (by kernel_rfl) (Nat.le_of_ble_eq_true (by kernel_rfl)) (r1 (ba .i64)) true (Gx x.1 x.2.1) (Tv x.1 x.2.1 hc.1 hc.2)
noncomputable abbrev ae7:Nat × Bool × (List AV→M AV):=(58,true,cx (aC aq (aC aq a0)) tz)
theorem bj.lt {n:Name} (h:bj n):n.length<16777216:=by have:=(i6 n 0).2;unfold bj at h;omega
theorem ae0 (n:Name) (hn:bj n):wl PP [] 0 (Tryz.f73.body.getD .skip) (db PP Tryz.f73.results.toList (fun r st=>(r1 aq).get true st.h r=some n)) (cd 0 [aq.val false n]) (bk []):=by
 unfold Tryz.f73
 simp only [cq]
 have hlim:n.length * 16≤140737488355328:=by have:=hn.lt;omega
 simp only [↓wR,RA,simprocAttr,TF,hlim]
noncomputable def mj (x:Name × Unit):Option AV:=if bj x.1 then some ((r1 aq).E true (x.1)) else none
set_option maxRecDepth 2000000 in
theorem pj (x:Name × Unit) (r:AV) (h:mj x=some r):bc PP 73 ((aC aq a0).E x) r:=by
 by_cases hc:bj x.1
 case neg=>simp only [mj,if_neg hc] at h;cases h
 simp only [mj,if_pos hc] at h
 cases h
 exact au (ak.nil PP) Tryz.func73 (by kernel_rfl) (by kernel_rfl) (by kernel_rfl) (Nat.le_of_ble_eq_true (by kernel_rfl)) (r1 aq) true (x.1) (ae0 x.1 hc)
noncomputable abbrev Aa:Nat × Bool × (List AV→M AV):=(73,true,cx (aC aq a0) mj)
theorem aqp {n:Name} {i:Nat} {c:ByteArray} (hc:n[i]? = some c):ey (n.drop i)=fold c::ey (n.drop (i+1)):=by rw [Ak hc];rfl
theorem aer (n:Name) (hn:bj n):wl PP [Li] 0 (Tryz.f186.body.getD .skip) (db PP Tryz.f186.results.toList (fun r st=>(r1 aq).get true st.h r=some (ey n))) (cd 0 [aq.val false n]) (bk []):=by
 unfold Tryz.f186
 simp only [cq]
 have hln:=hn.lt
 simp only [↓wR,RA,simprocAttr,TF]
 refine fo [6,7,8,3] (fun (x:List ByteArray)=>[.vl false 1 (n.map (ai.val false)),.sc (.int .i64 n.length),.sc (.int .i64 x.length),.sl 0 0 x.length 1]) (fun x=>[some (.row (x.map (ai.val false)) 0 0 9)]) (fun x=>x++ey (n.drop x.length)=ey n∧x.length≤n.length) (fun x=>n.length - x.length) [] ⟨rfl,Nat.zero_le _⟩ (by simp only [↓wR,RA,simprocAttr,TF];(refine ir.lax [] (by first|exact Nat.le_of_ble_eq_true rfl|(simp [dk];omega)) ?_ ?_<;>repeat' first|exact dz.nil|exact cb.nil|exact eh.same _|exact eh.nil _ _ _|exact eh.ly _ _|exact cb.refl _ _|apply dz.cons|apply cb.ghost|apply cb.same|apply cb.row)) ?_
 rintro x ⟨hR,hx⟩
 simp only [↓wR,RA,simprocAttr,TF]
 rw [cy];refine ⟨fun h=>?_,fun h=>?_⟩
 ·obtain ⟨c,hc,hd,hlt⟩:=dq h
  have hlim:(x.length+1) * 16≤140737488355328:=by omega
  simp only [↓wR,RA,simprocAttr,TF,hc,sf,hn.label c (List.mem_of_getElem? hc),hlim]
  refine ⟨x++[fold c],⟨?_,by simp;omega⟩,by simp;omega,by (first|rfl|trivial|omega|((try (simp (disch:=omega) only [ag]));(try (simp only [FB]));first|done|rfl|omega)),by (first|rfl|trivial|omega|((try (simp (disch:=omega) only [ag]));(try (simp only [FB]));first|done|rfl|omega))⟩
  rw [← hR,aqp hc];simp
 ·rw [en h] at hR
  simp only [↓wR,RA,simprocAttr,TF,h]
  simpa [ey] using hR
noncomputable def Bi (x:Name × Unit):Option AV:=if bj x.1 then some ((r1 aq).E true (ey x.1)) else none
set_option maxRecDepth 2000000 in
theorem X2 (x:Name × Unit) (r:AV) (h:Bi x=some r):bc PP 186 ((aC aq a0).E x) r:=by
 by_cases hc:bj x.1
 case neg=>simp only [Bi,if_neg hc] at h;cases h
 simp only [Bi,if_pos hc] at h
 cases h
 exact au (ak.cons (aj Ab) (ak.nil PP)) Tryz.func186 (by kernel_rfl) (by kernel_rfl) (by kernel_rfl) (Nat.le_of_ble_eq_true (by kernel_rfl)) (r1 aq) true (ey x.1) (aer x.1 hc)
noncomputable abbrev ark:Nat × Bool × (List AV→M AV):=(186,true,cx (aC aq a0) Bi)
theorem H9 {n:Name} (h:dm n=0):cf n≤255:=by
 unfold dm at h
 split at h
 ·cases h
 ·split at h
  ·cases h
  ·omega
theorem bj.fit {n:Name} (h:bj n):cf n<17592186044416:=by unfold bj at h;omega
def G2:ByteArray:=⟨#[42]⟩
def gh (s:ByteArray):List UInt8:=UInt8.ofNat s.size::s.data.toList
def nameBytes (n:Name):List UInt8:=n.flatMap gh++[0]
def j5 (n:Name):List UInt8:=if dm n≠0 then [] else nameBytes n
theorem Ac (s):(gh s).length=s.size+1:=by simp [gh]
theorem so (n:Name):(n.flatMap gh).length+1=cf n:=by
 induction n with
 |nil=>rfl
 |cons a l ih=>
  have:=p0 [a] l
  have h3:cf [a]=a.size+2:=by simp [cf];omega
  simp only [List.singleton_append] at this
  simp only [List.flatMap_cons,List.length_append,Ac]
  omega
theorem adv (n:Name) (hn:bj n):wl PP [ew] 0 (Tryz.f199.body.getD .skip) (db PP Tryz.f199.results.toList (fun r st=>(r2 (br bg) (ba .i64)).get true st.h r=some (j5 n,dm n))) (cd 0 [aq.val false n]) (bk []):=by
 unfold Tryz.f199
 simp only [cq]
 have hln:=hn.lt
 simp only [↓wR,RA,simprocAttr,TF,pq,hn.fit]
 rw [cy];refine ⟨fun h=>?_,fun h=>?_⟩
 ·have he:dm n≠0:=by simpa using h
  have hb:j5 n=[]:=if_pos he
  simp only [↓wR,RA,simprocAttr,TF,hb]
 have he:dm n=0:=by simpa using h
 have hb:j5 n=nameBytes n:=if_neg (by omega)
 rw [hb,he]
 simp only [↓wR,RA,simprocAttr,TF]
 refine fo [13,14,15,5] (fun (x:Nat × List UInt8)=>[.vl false 1 (n.map (ai.val false)),.sc (.int .i64 n.length),.sc (.int .i64 x.1),.sl 0 0 x.2.length 1]) (fun x=>[some (.row (x.2.map (bg.val false)) 0 0 5)]) (fun x=>x.2++(n.drop x.1).flatMap gh=n.flatMap gh∧x.1≤n.length) (fun x=>n.length - x.1) (0,[]) ⟨rfl,Nat.zero_le _⟩ (by simp only [↓wR,RA,simprocAttr,TF];(refine ir.lax [] (by first|exact Nat.le_of_ble_eq_true rfl|(simp [dk];omega)) ?_ ?_<;>repeat' first|exact dz.nil|exact cb.nil|exact eh.same _|exact eh.nil _ _ _|exact eh.ly _ _|exact cb.refl _ _|apply dz.cons|apply cb.ghost|apply cb.same|apply cb.row)) ?_
 rintro ⟨i,x⟩ ⟨hR,hx⟩
 simp only at hR hx
 have hnb:=so n
 have hsm:=H9 he
 simp only [↓wR,RA,simprocAttr,TF]
 rw [cy];refine ⟨fun h2=>?_,fun h2=>?_⟩
 ·obtain ⟨c,hc,hd,hlt⟩:=dq h2
  rw [hd,List.flatMap_cons] at hR
  have hl:x.length+(gh c).length≤(n.flatMap gh).length:=by rw [← hR];simp
  rw [Ac] at hl
  simp only [↓wR,RA,simprocAttr,TF,hc];repeat (simp (disch:=omega) only [ag,bz,b9,bu,bw];try simp only [↓wR,RA,simprocAttr,TF,hc])
  refine ⟨(i+1,x++gh c),⟨by rw [← hR];simp,hlt⟩,by simp;omega,?_,by simp only [gh,List.map_append,List.map_cons,List.append_assoc,List.singleton_append,A9]⟩
  simp only [List.cons.injEq,and_true,true_and,AV.sc.injEq,Value.int.injEq,AV.sl.injEq,gh,List.length_append,List.length_cons]
  refine ⟨by (try simp (disch:=omega) only [ag,bz,b9,bu,bw]);simp,by simp;omega⟩
 ·rw [en h2] at hR
  have hl:x.length<cf n:=by rw [← hnb,← hR];simp
  simp only [↓wR,RA,simprocAttr,TF,h2];repeat (simp (disch:=omega) only [ag,bz,b9,bu,bw];try simp only [↓wR,RA,simprocAttr,TF,h2])
  simp only [nameBytes,← hR];simp
noncomputable def ta (x:Name × Unit):Option AV:=if bj x.1 then some ((r2 (br bg) (ba .i64)).E true ((j5 x.1,dm x.1))) else none
set_option maxRecDepth 2000000 in
theorem Qb (x:Name × Unit) (r:AV) (h:ta x=some r):bc PP 199 ((aC aq a0).E x) r:=by
 by_cases hc:bj x.1
 case neg=>simp only [ta,if_neg hc] at h;cases h
 simp only [ta,if_pos hc] at h
 cases h
 exact au (ak.cons (aj rh) (ak.nil PP)) Tryz.func199 (by kernel_rfl) (by kernel_rfl) (by kernel_rfl) (Nat.le_of_ble_eq_true (by kernel_rfl)) (r2 (br bg) (ba .i64)) true ((j5 x.1,dm x.1)) (adv x.1 hc)
noncomputable abbrev ahw:Nat × Bool × (List AV→M AV):=(199,true,cx (aC aq a0) ta)
end Go.Proofs.YtgencolcibpcaaaGreat
end
section
namespace Go.Proofs.YtgencolcibpcaaaGreat
open Go.Vm
set_option maxRecDepth 2000000
theorem Hl {α:Type} {f : α→AV} {xs:List α} (h:xs≠[]) (op l sz p q):Lr op (.vl l sz (xs.map f)) (.sc (.slice none p q))=og op false:=by
 cases xs with
 |nil=>exact (h rfl).elim
 |cons x xs=>rfl
def Ky (v:Value):Prop:=v = .slice none 0 0∨∃ a c,v = .slice (some a) 0 c
theorem z7 {f:Nat} {r:AV} {sz:Nat} (h:∀ v,Ky v→bc PP f [.sc v] r):bc PP f [.vl false sz []] r:=by
 intro K w vs hK hrel
 obtain ⟨v,rfl,hv⟩:=Pg hrel
 have hE:Ky v:=by
  cases hv with
  |vl=>exact .inr ⟨_,_,rfl⟩
  |j4=>exact .inl rfl
  |qz=>exact .inr ⟨_,_,rfl⟩
 exact h v hE K w [v] hK (bp.cons (.sc v) (bp.nil _ _))
theorem aei (l:List UInt32) (hne:l≠[]) (hl:l.length≤16777216):wl PP [] 0 (Tryz.f146.body.getD .skip) (db PP Tryz.f146.results.toList (fun r st=>(r1 (br cg)).get true st.h r=some l)) (cd 0 [(br cg).val false l]) (bk []):=by
 unfold Tryz.f146
 rw [k7]
 have hb:l.length * 4≤140737488355328:=by omega
 simp only [↓wR,RA,simprocAttr,TF,Hl hne,hb]
theorem Y4 (v:Value) (hv:Ky v):wl PP [] 0 (Tryz.f146.body.getD .skip) (db PP Tryz.f146.results.toList (fun r st=>(r1 (br cg)).get true st.h r=some [])) (cd 0 [.sc v]) (bk []):=by
 unfold Tryz.f146
 rcases hv with rfl|⟨a,c,rfl⟩
 ·simp only [↓wR,RA,simprocAttr,TF]
 ·simp only [↓wR,RA,simprocAttr,TF]
noncomputable def xi (x:List UInt32 × Unit):Option AV:=if x.1.length≤16777216 then some ((r1 (br cg)).E true x.1) else none
theorem Io (x:List UInt32 × Unit) (r:AV) (h:xi x=some r):bc PP 146 ((aC (br cg) a0).E x) r:=by
 by_cases hc:x.1.length≤16777216
 case neg=>simp only [xi,if_neg hc] at h;cases h
 simp only [xi,if_pos hc] at h
 cases h
 obtain ⟨l,⟨⟩⟩:=x
 by_cases hn:l=[]
 ·subst hn
  exact z7 (sz:=1) fun v hv=>au (ak.nil PP) Tryz.func146 (by kernel_rfl) (by kernel_rfl) (by kernel_rfl) (Nat.le_of_ble_eq_true (by kernel_rfl)) (r1 (br cg)) true [] (Y4 v hv)
 ·exact au (ak.nil PP) Tryz.func146 (by kernel_rfl) (by kernel_rfl) (by kernel_rfl) (Nat.le_of_ble_eq_true (by kernel_rfl)) (r1 (br cg)) true l (aei l hn hc)
noncomputable abbrev Zw:Nat × Bool × (List AV→M AV):=(146,true,cx (aC (br cg) a0) xi)
theorem ad5 (l:List ByteArray) (hne:l≠[]) (hl:l.length≤16777216):wl PP [] 0 (Tryz.f147.body.getD .skip) (db PP Tryz.f147.results.toList (fun r st=>(r1 (br ai)).get true st.h r=some l)) (cd 0 [(br ai).val false l]) (bk []):=by
 unfold Tryz.f147
 rw [k7]
 have hb:l.length * 16≤140737488355328:=by omega
 simp only [↓wR,RA,simprocAttr,TF,Hl hne,hb]
theorem Zb (v:Value) (hv:Ky v):wl PP [] 0 (Tryz.f147.body.getD .skip) (db PP Tryz.f147.results.toList (fun r st=>(r1 (br ai)).get true st.h r=some [])) (cd 0 [.sc v]) (bk []):=by
 unfold Tryz.f147
 rcases hv with rfl|⟨a,c,rfl⟩
 ·simp only [↓wR,RA,simprocAttr,TF]
 ·simp only [↓wR,RA,simprocAttr,TF]
noncomputable def wy (x:List ByteArray × Unit):Option AV:=if x.1.length≤16777216 then some ((r1 (br ai)).E true x.1) else none
theorem Iu (x:List ByteArray × Unit) (r:AV) (h:wy x=some r):bc PP 147 ((aC (br ai) a0).E x) r:=by
 by_cases hc:x.1.length≤16777216
 case neg=>simp only [wy,if_neg hc] at h;cases h
 simp only [wy,if_pos hc] at h
 cases h
 obtain ⟨l,⟨⟩⟩:=x
 by_cases hn:l=[]
 ·subst hn
  exact z7 (sz:=1) fun v hv=>au (ak.nil PP) Tryz.func147 (by kernel_rfl) (by kernel_rfl) (by kernel_rfl) (Nat.le_of_ble_eq_true (by kernel_rfl)) (r1 (br ai)) true [] (Zb v hv)
 ·exact au (ak.nil PP) Tryz.func147 (by kernel_rfl) (by kernel_rfl) (by kernel_rfl) (Nat.le_of_ble_eq_true (by kernel_rfl)) (r1 (br ai)) true l (ad5 l hn hc)
noncomputable abbrev ac3:Nat × Bool × (List AV→M AV):=(147,true,cx (aC (br ai) a0) wy)
theorem ajj (l:List UInt8) (hne:l≠[]) (hl:l.length≤16777216):wl PP [] 0 (Tryz.f148.body.getD .skip) (db PP Tryz.f148.results.toList (fun r st=>(r1 (br bg)).get true st.h r=some l)) (cd 0 [(br bg).val false l]) (bk []):=by
 unfold Tryz.f148
 rw [k7]
 have hb:l.length≤140737488355328:=by omega
 simp only [↓wR,RA,simprocAttr,TF,Hl hne,hb]
theorem afq (v:Value) (hv:Ky v):wl PP [] 0 (Tryz.f148.body.getD .skip) (db PP Tryz.f148.results.toList (fun r st=>(r1 (br bg)).get true st.h r=some [])) (cd 0 [.sc v]) (bk []):=by
 unfold Tryz.f148
 rcases hv with rfl|⟨a,c,rfl⟩
 ·simp only [↓wR,RA,simprocAttr,TF]
 ·simp only [↓wR,RA,simprocAttr,TF]
noncomputable def z6 (x:List UInt8 × Unit):Option AV:=if x.1.length≤16777216 then some ((r1 (br bg)).E true x.1) else none
theorem J7 (x:List UInt8 × Unit) (r:AV) (h:z6 x=some r):bc PP 148 ((aC (br bg) a0).E x) r:=by
 by_cases hc:x.1.length≤16777216
 case neg=>simp only [z6,if_neg hc] at h;cases h
 simp only [z6,if_pos hc] at h
 cases h
 obtain ⟨l,⟨⟩⟩:=x
 by_cases hn:l=[]
 ·subst hn
  exact z7 (sz:=1) fun v hv=>au (ak.nil PP) Tryz.func148 (by kernel_rfl) (by kernel_rfl) (by kernel_rfl) (Nat.le_of_ble_eq_true (by kernel_rfl)) (r1 (br bg)) true [] (afq v hv)
 ·exact au (ak.nil PP) Tryz.func148 (by kernel_rfl) (by kernel_rfl) (by kernel_rfl) (Nat.le_of_ble_eq_true (by kernel_rfl)) (r1 (br bg)) true l (ajj l hn hc)
noncomputable abbrev agj:Nat × Bool × (List AV→M AV):=(148,true,cx (aC (br bg) a0) z6)
structure Shape where
 names:Int
 nums:Int
 size:Int
 texts:Int
 raw:Int
noncomputable def se:dh Shape:=yj (jq (ba .i64) (jq (ba .i64) (jq (ba .i64) (jq (ba .i64) (ba .i64))))) (fun s=>(s.names,s.nums,s.size,s.texts,s.raw)) (fun p=>⟨p.1,p.2.1,p.2.2.1,p.2.2.2.1,p.2.2.2.2⟩) (fun _=>rfl) (fun _=>rfl)
theorem Da (l:Bool) (s:Shape):se.val l s = .agg [.sc (.int .i64 s.names),.sc (.int .i64 s.nums),.sc (.int .i64 s.size),.sc (.int .i64 s.texts),.sc (.int .i64 s.raw)]:=id rfl
theorem ka (fr h) (a b c d e:Int):se.fq fr h (.agg [.sc (.int .i64 a),.sc (.int .i64 b),.sc (.int .i64 c),.sc (.int .i64 d),.sc (.int .i64 e)])=some ⟨a,b,c,d,e⟩:=ave se fr h ⟨a,b,c,d,e⟩
def cz (t:UInt16):Shape:=
 if (t.toNat:Int)=1 then ⟨0,0,0,0,4⟩ else if (t.toNat:Int)=28 then ⟨0,0,0,0,16⟩ else if (t.toNat:Int)=2 then ⟨1,0,0,0,0⟩ else if (t.toNat:Int)=5 then ⟨1,0,0,0,0⟩ else if (t.toNat:Int)=12 then ⟨1,0,0,0,0⟩
 else if (t.toNat:Int)=6 then ⟨2,5,4,0,0⟩ else if (t.toNat:Int)=15 then ⟨1,1,2,0,0⟩ else if (t.toNat:Int)=33 then ⟨1,3,2,0,0⟩ else if (t.toNat:Int)=16 then ⟨0,0,0,-1,0⟩ else if (t.toNat:Int)=257 then ⟨0,1,1,2,0⟩ else ⟨0,0,0,0,-1⟩
theorem alr (t:UInt16):wl PP [] 0 (Tryz.f183.body.getD .skip) (db PP Tryz.f183.results.toList (fun r st=>(r1 se).get true st.h r=some (cz t))) (cd 0 [cw.val false t]) (bk []):=by
 unfold Tryz.f183
 unfold cz
 simp only [↓wR,RA,simprocAttr,TF]
 rw [cj];refine ⟨fun ⟨h0,e0⟩=>?_,fun ⟨h0,e0⟩=>?_⟩
 ·simp only [↓wR,RA,simprocAttr,TF,h0]
  rw [if_pos e0]
  exact ka ..
 rw [if_neg e0]
 simp only [↓wR,RA,simprocAttr,TF,h0]
 rw [cj];refine ⟨fun ⟨h1,e1⟩=>?_,fun ⟨h1,e1⟩=>?_⟩
 ·simp only [↓wR,RA,simprocAttr,TF,h1]
  rw [if_pos e1]
  exact ka ..
 rw [if_neg e1]
 simp only [↓wR,RA,simprocAttr,TF,h1]
 rw [cj];refine ⟨fun ⟨h2,e2⟩=>?_,fun ⟨h2,e2⟩=>?_⟩
 ·simp only [↓wR,RA,simprocAttr,TF,h2]
  rw [if_pos e2]
  exact ka ..
 rw [if_neg e2]
 simp only [↓wR,RA,simprocAttr,TF,h2]
 rw [cj];refine ⟨fun ⟨h3,e3⟩=>?_,fun ⟨h3,e3⟩=>?_⟩
 ·simp only [↓wR,RA,simprocAttr,TF,h3]
  rw [if_pos e3]
  exact ka ..
 rw [if_neg e3]
 simp only [↓wR,RA,simprocAttr,TF,h3]
 rw [cj];refine ⟨fun ⟨h4,e4⟩=>?_,fun ⟨h4,e4⟩=>?_⟩
 ·simp only [↓wR,RA,simprocAttr,TF,h4]
  rw [if_pos e4]
  exact ka ..
 rw [if_neg e4]
 simp only [↓wR,RA,simprocAttr,TF,h4]
 rw [cj];refine ⟨fun ⟨h5,e5⟩=>?_,fun ⟨h5,e5⟩=>?_⟩
 ·simp only [↓wR,RA,simprocAttr,TF,h5]
  rw [if_pos e5]
  exact ka ..
 rw [if_neg e5]
 simp only [↓wR,RA,simprocAttr,TF,h5]
 rw [cj];refine ⟨fun ⟨h6,e6⟩=>?_,fun ⟨h6,e6⟩=>?_⟩
 ·simp only [↓wR,RA,simprocAttr,TF,h6]
  rw [if_pos e6]
  exact ka ..
 rw [if_neg e6]
 simp only [↓wR,RA,simprocAttr,TF,h6]
 rw [cj];refine ⟨fun ⟨h7,e7⟩=>?_,fun ⟨h7,e7⟩=>?_⟩
 ·simp only [↓wR,RA,simprocAttr,TF,h7]
  rw [if_pos e7]
  exact ka ..
 rw [if_neg e7]
 simp only [↓wR,RA,simprocAttr,TF,h7]
 rw [cj];refine ⟨fun ⟨h8,e8⟩=>?_,fun ⟨h8,e8⟩=>?_⟩
 ·simp only [↓wR,RA,simprocAttr,TF,h8]
  rw [if_pos e8]
  exact ka ..
 rw [if_neg e8]
 simp only [↓wR,RA,simprocAttr,TF,h8]
 rw [cj];refine ⟨fun ⟨h9,e9⟩=>?_,fun ⟨h9,e9⟩=>?_⟩
 ·simp only [↓wR,RA,simprocAttr,TF,h9]
  rw [if_pos e9]
  exact ka ..
 rw [if_neg e9]
 simp only [↓wR,RA,simprocAttr,TF,h9]
 exact ka ..
noncomputable def Dx (x:UInt16 × Unit):Option AV:=some ((r1 se).E true (cz x.1))
set_option maxRecDepth 2000000 in
theorem Dz (x:UInt16 × Unit) (r:AV) (h:Dx x=some r):bc PP 183 ((aC cw a0).E x) r:=by
 cases h
 exact au (ak.nil PP) Tryz.func183 (by kernel_rfl) (by kernel_rfl) (by kernel_rfl) (Nat.le_of_ble_eq_true (by kernel_rfl)) (r1 se) true (cz x.1) (alr x.1)
noncomputable abbrev T2:Nat × Bool × (List AV→M AV):=(183,true,cx (aC cw a0) Dx)
def lf (t:UInt16):Bool:=(t.toNat:Int) == 0 || (decide ((128:Int)≤(t.toNat:Int)) && decide ((t.toNat:Int)≤255))
theorem ak2 (t:UInt16):wl PP [] 0 (Tryz.f182.body.getD .skip) (db PP Tryz.f182.results.toList (fun r st=>(r1 az).get true st.h r=some (lf t))) (cd 0 [cw.val false t]) (bk []):=by
 unfold Tryz.f182
 unfold lf
 simp only [↓wR,RA,simprocAttr,TF]
 rw [cj];refine ⟨fun ⟨h,e⟩=>?_,fun ⟨h,e⟩=>?_⟩
 ·simp only [↓wR,RA,simprocAttr,TF,h]
 ·simp only [↓wR,RA,simprocAttr,TF,h]
  rw [bb];refine ⟨fun h2=>?_,fun h2=>?_⟩
  ·simp only [↓wR,RA,simprocAttr,TF,h2]
  ·simp only [↓wR,RA,simprocAttr,TF,h2]
   rfl
noncomputable def Um (x:UInt16 × Unit):Option AV:=some ((r1 az).E true (lf x.1))
set_option maxRecDepth 2000000 in
theorem aeq (x:UInt16 × Unit) (r:AV) (h:Um x=some r):bc PP 182 ((aC cw a0).E x) r:=by
 cases h
 exact au (ak.nil PP) Tryz.func182 (by kernel_rfl) (by kernel_rfl) (by kernel_rfl) (Nat.le_of_ble_eq_true (by kernel_rfl)) (r1 az) true (lf x.1) (ak2 x.1)
noncomputable abbrev av3:Nat × Bool × (List AV→M AV):=(182,true,cx (aC cw a0) Um)
noncomputable def yx (n:UInt32):List UInt8:=[UInt8.ofNat (n.toNat / 16777216),UInt8.ofNat (n.toNat / 65536),UInt8.ofNat (n.toNat / 256),UInt8.ofNat n.toNat]
theorem aqi (n:UInt32):wl PP [] 0 (Tryz.f198.body.getD .skip) (db PP Tryz.f198.results.toList (fun r st=>(r1 (br bg)).get true st.h r=some (yx n))) (cd 0 [cg.val false n]) (bk []):=by
 unfold Tryz.f198
 simp only [↓wR,RA,simprocAttr,TF]
 rfl
noncomputable def Lq (x:UInt32 × Unit):Option AV:=some ((r1 (br bg)).E true (yx x.1))
set_option maxRecDepth 2000000 in
theorem ad2 (x:UInt32 × Unit) (r:AV) (h:Lq x=some r):bc PP 198 ((aC cg a0).E x) r:=by
 cases h
 exact au (ak.nil PP) Tryz.func198 (by kernel_rfl) (by kernel_rfl) (by kernel_rfl) (Nat.le_of_ble_eq_true (by kernel_rfl)) (r1 (br bg)) true (yx x.1) (aqi x.1)
noncomputable abbrev auu:Nat × Bool × (List AV→M AV):=(198,true,cx (aC cg a0) Lq)
def An (c:UInt8):Bool:=decide (97≤c.toNat∧c.toNat≤122∨65≤c.toNat∧c.toNat≤90∨48≤c.toNat∧c.toNat≤57)
def qx (s:ByteArray):Bool:=s.data.toList.all An && decide (1≤s.size∧s.size≤15)
theorem avp (s:ByteArray) (hs:s.size≤16777216):wl PP [] 0 (Tryz.f195.body.getD .skip) (db PP Tryz.f195.results.toList (fun r st=>(r1 az).get true st.h r=some (qx s))) (cd 0 [ai.val false s]) (bk []):=by
 unfold Tryz.f195
 simp only [↓wR,RA,simprocAttr,TF]
 refine dp [0,6,7] (fun (i:Nat)=>[.sc (.string s),.sc (.int .i64 s.size),.sc (.int .i64 i)]) (fun _=>[]) (fun i=>i≤s.size∧s.data.toList.all An=(s.data.toList.drop i).all An) (fun i=>s.size - i) 0 ⟨Nat.zero_le _,rfl⟩ ?_ ?_ ?_
 ·simp only [↓wR,RA,simprocAttr,TF]<;>rfl
 ·simp only [↓wR,RA,simprocAttr,TF]
 rintro i ⟨hi,hR⟩
 simp only [↓wR,RA,simprocAttr,TF]
 rw [bb];refine ⟨fun h=>?_,fun h=>?_⟩
 ·obtain ⟨c,hc⟩:∃ c,s.data.toList[i]? = some c:=⟨_,List.getElem?_eq_getElem (by simp;omega)⟩
  have hd:=Ak hc
  rw [hd,List.all_cons] at hR
  simp only [↓wR,RA,simprocAttr,TF,h,hc];repeat (simp (disch:=omega) only [ag,bz,b9,bu,bw];try simp only [↓wR,RA,simprocAttr,TF,h,hc])
  repeat' (rw [bb];refine ⟨fun h=>?_,fun h=>?_⟩<;>simp only [↓wR,RA,simprocAttr,TF,h,hc])
  all_goals first
   |(
    have ht:An c=false:=by (unfold An;rw [decide_eq_false_iff_not];omega)
    rw [qx,hR,ht];rfl)
   |(
    have ht:An c=true:=by (unfold An;rw [decide_eq_true_eq];omega)
    refine ⟨i+1,⟨by omega,by rw [hR,ht];simp⟩,by omega,by (first|rfl|trivial|omega|((try (simp (disch:=omega) only [ag]));(try (simp only [FB]));first|done|rfl|omega))⟩)
 ·have hdn:s.data.toList.drop i=[]:=List.drop_eq_nil_of_le (by simp;omega)
  rw [hdn,List.all_nil] at hR
  simp only [↓wR,RA,simprocAttr,TF,h]
  unfold qx
  rw [hR]
  rw [bb];refine ⟨fun h1=>?_,fun h1=>?_⟩
  ·simp only [↓wR,RA,simprocAttr,TF,h1]
   congr 1
   rw [Bool.eq_iff_iff];simp;omega
  ·simp only [↓wR,RA,simprocAttr,TF,h1]
   congr 1
   rw [Bool.eq_iff_iff];simp;omega
noncomputable def Rj (x:ByteArray × Unit):Option AV:=if x.1.size≤16777216 then some ((r1 az).E true (qx x.1)) else none
set_option maxRecDepth 2000000 in
theorem aou (x:ByteArray × Unit) (r:AV) (h:Rj x=some r):bc PP 195 ((aC ai a0).E x) r:=by
 by_cases hc:x.1.size≤16777216
 case neg=>simp only [Rj,if_neg hc] at h;cases h
 simp only [Rj,if_pos hc] at h
 cases h
 exact au (ak.nil PP) Tryz.func195 (by kernel_rfl) (by kernel_rfl) (by kernel_rfl) (Nat.le_of_ble_eq_true (by kernel_rfl)) (r1 az) true (qx x.1) (avp x.1 hc)
noncomputable abbrev ayc:Nat × Bool × (List AV→M AV):=(195,true,cx (aC ai a0) Rj)
def ik {α:Type} (f : α→Nat) (l:List α):Nat:=l.foldr (fun x k=>f x+k+1) 0
def xw (d:bo):Nat:=ik cf d.names+d.nums.length+ik ByteArray.size d.texts+d.raw.length
theorem F3 {α:Type} {f : α→Nat} {l:List α} {x : α} (h:x ∈ l):f x<ik f l:=by
 induction l with
 |nil=>cases h
 |cons a l ih=>
  simp only [ik,List.foldr_cons] at ih ⊢
  rcases List.mem_cons.1 h with rfl|h
  ·omega
  ·have:=ih h;omega
theorem zt {α:Type} (f : α→Nat) (l:List α):l.length≤ik f l:=by
 induction l with
 |nil=>exact Nat.le_refl _
 |cons a l ih=>simp only [ik,List.foldr_cons,List.length_cons] at ih ⊢;omega
def cr (d:bo):Prop:=xw d≤16777216
instance (d:bo):Decidable (cr d):=inferInstanceAs (Decidable (_≤_))
theorem cr.name {d:bo} (h:cr d):∀ n ∈ d.names,bj n:=fun n hn=>by
 have h1:cf n<ik cf d.names:=F3 hn
 unfold cr xw at h;unfold bj;omega
theorem cr.text {d:bo} (h:cr d):∀ s ∈ d.texts,s.size≤16777216:=fun s hs=>by
 have h1:ByteArray.size s<ik ByteArray.size d.texts:=F3 hs
 unfold cr xw at h;omega
theorem cr.lens {d:bo} (h:cr d):d.names.length≤16777216∧d.nums.length≤16777216∧d.texts.length≤16777216∧d.raw.length≤16777216:=by
 have h1:=zt cf d.names
 have h2:=zt ByteArray.size d.texts
 unfold cr xw at h;omega
noncomputable def xu (s:Shape):Int:=IntKind.u32.wrap (1 * 2 ^ (if (8 * s.size).toNat≤32 then (8 * s.size).toNat else 32))
noncomputable def qm (s:Shape) (t:UInt16) (d:bo):Bool:=
 if (d.names.length:Int)≠s.names∨(d.nums.length:Int)≠s.nums∨(0≤s.raw∧(d.raw.length:Int)≠s.raw) then false
 else if s.size<4∧(d.nums.any fun n=>decide (xu s≤(n.toNat:Int)))=true then false
 else if (t.toNat:Int)=257 then decide (d.texts.length=2) && qx (d.texts.headD ⟨#[]⟩)
 else if s.texts=0 then decide (d.texts.length=0)
 else decide (0<d.texts.length) && !(d.texts.any fun x=>decide (255<x.size))
noncomputable def Qj (s:Shape) (t:UInt16) (d:bo):Bool:=
 if s.size<4∧(d.nums.any fun n=>decide (xu s≤(n.toNat:Int)))=true then false
 else if (t.toNat:Int)=257 then decide (d.texts.length=2) && qx (d.texts.headD ⟨#[]⟩)
 else if s.texts=0 then decide (d.texts.length=0)
 else decide (0<d.texts.length) && !(d.texts.any fun x=>decide (255<x.size))
theorem at2 (s:Shape) (t:UInt16) (d:bo) (hs : 0≤s.size∧s.size≤4) (hd:cr d):wl PP [ayc] 0 (Tryz.f184.body.getD .skip) (db PP Tryz.f184.results.toList (fun r st=>(r1 az).get true st.h r=some (qm s t d))) (cd 0 [se.val false s,cw.val false t,ay.val false d]) (bk []):=by
 unfold Tryz.f184
 obtain ⟨l1,l2,l3,l4⟩:=hd.lens
 simp only [Da,fy,cq]
 simp only [↓wR,RA,simprocAttr,TF]
 rw [de];refine ⟨fun ⟨h,e⟩=>?_,fun ⟨h,e⟩=>?_⟩
 ·have hv:qm s t d=false:=if_pos (.inl e)
  simp only [↓wR,RA,simprocAttr,TF,h,hv]
 simp only [↓wR,RA,simprocAttr,TF,h]
 rw [de];refine ⟨fun ⟨h2,e2⟩=>?_,fun ⟨h2,e2⟩=>?_⟩
 ·have hv:qm s t d=false:=if_pos (.inr (.inl e2))
  simp only [↓wR,RA,simprocAttr,TF,h2,hv]
 simp only [↓wR,RA,simprocAttr,TF,h2]
 have hraw:¬ (0≤s.raw∧(d.raw.length:Int)≠s.raw)→qm s t d=Qj s t d:=fun hr=>if_neg (fun h=>by
  rcases h with h|h|h
  ·exact h e
  ·exact h e2
  ·exact hr h)
 rw [bb];refine ⟨fun h3=>?_,fun h3=>?_⟩
 simp only [↓wR,RA,simprocAttr,TF,h3]
 rw [de];refine ⟨fun ⟨h4,e4⟩=>?_,fun ⟨h4,e4⟩=>?_⟩
 have hv:qm s t d=false:=if_pos (.inr (.inr ⟨h3,e4⟩))
 simp only [↓wR,RA,simprocAttr,TF,h4,hv]
 rw [hraw (fun q=>q.2 e4)]
 simp only [↓wR,RA,simprocAttr,TF,h4]
 rotate_left
 rw [hraw (fun q=>h3 q.1)]
 simp only [↓wR,RA,simprocAttr,TF,h3]
 all_goals
  clear hraw
  refine dp [1,3,5,37,38,39] (fun (i:Nat)=>[.sc (.int .u16 t.toNat),.ptr 0 0,.ptr 1 0,.vl false 1 (d.nums.map (cg.val false)),.sc (.int .i64 d.nums.length),.sc (.int .i64 i)]) (fun _=>[some (.row [.sc (.int .i64 s.names),.sc (.int .i64 s.nums),.sc (.int .i64 s.size),.sc (.int .i64 s.texts),.sc (.int .i64 s.raw)] 0 2 198),some (.row [.vl false 1 (d.names.map (aq.val false)),.vl false 1 (d.nums.map (cg.val false)),.vl false 1 (d.texts.map (ai.val false)),.vl false 1 (d.raw.map (bg.val false))] 0 2 101)]) (fun i=>i≤d.nums.length∧(s.size<4→(d.nums.any fun n=>decide (xu s≤(n.toNat:Int)))=((d.nums.drop i).any fun n=>decide (xu s≤(n.toNat:Int))))) (fun i=>d.nums.length - i) 0 ⟨Nat.zero_le _,fun _=>rfl⟩ (by simp only [↓wR,RA,simprocAttr,TF]<;>rfl) (by simp only [↓wR,RA,simprocAttr,TF]<;>rfl) ?_
  clear h h2 e e2
  rintro i ⟨hi,hR⟩
  simp only [↓wR,RA,simprocAttr,TF]
  rw [bb];refine ⟨fun h=>?_,fun h=>?_⟩
  ·obtain ⟨c,hc,hd1,hlt⟩:=dq (decide_eq_true h)
   rw [hd1,List.any_cons] at hR
   simp only [↓wR,RA,simprocAttr,TF,h,hc]
   rw [bb];refine ⟨fun h5=>?_,fun h5=>?_⟩
   ·have hR:=hR h5
    have h80:(0:Int)≤8 * s.size:=by omega
    simp only [↓wR,RA,simprocAttr,TF,h5,h80];repeat (simp (disch:=omega) only [ag,bz,b9,bu,bw];try simp only [↓wR,RA,simprocAttr,TF,h5,h80])
    rw [bb];refine ⟨fun h6=>?_,fun h6=>?_⟩
    ·have hv:Qj s t d=false:=by
      rw [Qj,if_pos ⟨h5,by rw [hR,decide_eq_true (show xu s≤(c.toNat:Int) from h6)];rfl⟩]
     simp only [↓wR,RA,simprocAttr,TF,h6,hv]
    ·simp only [↓wR,RA,simprocAttr,TF,h6];repeat (simp (disch:=omega) only [ag,bz,b9,bu,bw];try simp only [↓wR,RA,simprocAttr,TF,h6])
     refine ⟨i+1,⟨hlt,fun _=>?_⟩,by omega,by (first|rfl|trivial|omega|((try (simp (disch:=omega) only [ag]));(try (simp only [FB]));first|done|rfl|omega))⟩
     rw [hR,decide_eq_false (show ¬ xu s≤(c.toNat:Int) from h6),Bool.false_or]
   ·simp only [↓wR,RA,simprocAttr,TF,h5];repeat (simp (disch:=omega) only [ag,bz,b9,bu,bw];try simp only [↓wR,RA,simprocAttr,TF,h5])
    exact ⟨i+1,⟨hlt,fun h=>h.elim⟩,by omega,by (first|rfl|trivial|omega|((try (simp (disch:=omega) only [ag]));(try (simp only [FB]));first|done|rfl|omega))⟩
  ·rw [en (decide_eq_false h),List.any_nil] at hR
   have hr:Qj s t d=if (t.toNat:Int)=257 then decide (d.texts.length=2) && qx (d.texts.headD ⟨#[]⟩) else if s.texts=0 then decide (d.texts.length=0) else decide (0<d.texts.length) && !(d.texts.any fun x=>decide (255<x.size)):=by
    rw [Qj,if_neg];rintro ⟨q1,q2⟩;rw [hR q1] at q2;cases q2
   simp only [↓wR,RA,simprocAttr,TF,h]
   rw [cj];refine ⟨fun ⟨h6,e6⟩=>?_,fun ⟨h6,e6⟩=>?_⟩
   ·rw [if_pos e6] at hr
    simp only [↓wR,RA,simprocAttr,TF,h6]
    rw [cj];refine ⟨fun ⟨h7,e7⟩=>?_,fun ⟨h7,e7⟩=>?_⟩
    ·obtain ⟨c,hc⟩:∃ c,d.texts[0]? = some c:=⟨_,List.getElem?_eq_getElem (by omega)⟩
     have hh:d.texts.headD ⟨#[]⟩=c:=by
      cases ht:d.texts with
      |nil=>rw [ht] at hc;cases hc
      |cons a l=>rw [ht] at hc;simpa using hc
     rw [hh,decide_eq_true (show d.texts.length=2 by omega)] at hr
     simp only [↓wR,RA,simprocAttr,TF,h7,hc,Rj,hd.text c (List.mem_of_getElem? hc)]
     rw [hr];rfl
    ·simp only [↓wR,RA,simprocAttr,TF,h7]
     rw [hr,decide_eq_false (show ¬ d.texts.length=2 by omega)];rfl
   ·rw [if_neg e6] at hr
    simp only [↓wR,RA,simprocAttr,TF,h6]
    rw [cj];refine ⟨fun ⟨h7,e7⟩=>?_,fun ⟨h7,e7⟩=>?_⟩
    ·rw [if_pos e7] at hr
     simp only [↓wR,RA,simprocAttr,TF,h7]
     rw [hr];congr 1
     rw [Bool.eq_iff_iff];simp
    ·rw [if_neg e7] at hr
     simp only [↓wR,RA,simprocAttr,TF,h7]
     rw [bb];refine ⟨fun h8=>?_,fun h8=>?_⟩
     ·simp only [↓wR,RA,simprocAttr,TF,h8]
      refine c8 (T:=[]) (ak.nil PP) mixed Tryz.func196 rfl (by kernel_rfl) (by kernel_rfl) (by kernel_rfl) (by kernel_rfl) ?_;unfold Tryz.f196
      simp only [↓wR,RA,simprocAttr,TF]
      refine c8 (T:=[]) (ak.nil PP) mixed Tryz.func203 rfl (by kernel_rfl) (by kernel_rfl) (by kernel_rfl) (by kernel_rfl) ?_;unfold Tryz.f203
      simp only [↓wR,RA,simprocAttr,TF]
      refine dp [0,1,7,8] (fun (i:Nat)=>[.vl false 1 (d.texts.map (ai.val false)),.sc (.func (.func 197) #[] #[]),.sc (.int .i64 d.texts.length),.sc (.int .i64 i)]) (fun _=>[some (.row [.sc (.int .i64 s.names),.sc (.int .i64 s.nums),.sc (.int .i64 s.size),.sc (.int .i64 s.texts),.sc (.int .i64 s.raw)] 0 2 198),some (.row [.vl false 1 (d.names.map (aq.val false)),.vl false 1 (d.nums.map (cg.val false)),.vl false 1 (d.texts.map (ai.val false)),.vl false 1 (d.raw.map (bg.val false))] 0 2 101)]) (fun i=>i≤d.texts.length∧(d.texts.any fun x=>decide (255<x.size))=((d.texts.drop i).any fun x=>decide (255<x.size))) (fun i=>d.texts.length - i) 0 ⟨Nat.zero_le _,rfl⟩ (by simp only [↓wR,RA,simprocAttr,TF]<;>rfl) (by simp only [↓wR,RA,simprocAttr,TF]<;>rfl) ?_
      rintro k ⟨hk,hK⟩
      simp only [↓wR,RA,simprocAttr,TF]
      rw [bb];refine ⟨fun h9=>?_,fun h9=>?_⟩
      ·obtain ⟨c,hc,hd1,hlt⟩:=dq (decide_eq_true h9)
       rw [hd1,List.any_cons] at hK
       simp only [↓wR,RA,simprocAttr,TF,h9,hc];repeat (simp (disch:=omega) only [ag,bz,b9,bu,bw];try simp only [↓wR,RA,simprocAttr,TF,h9,hc])
       refine c8 (T:=[]) (ak.nil PP) mixed Tryz.func197 rfl (by kernel_rfl) (by kernel_rfl) (by kernel_rfl) (by kernel_rfl) ?_;unfold Tryz.f197
       simp only [↓wR,RA,simprocAttr,TF]
       rw [bb];refine ⟨fun h10=>?_,fun h10=>?_⟩
       ·simp only [↓wR,RA,simprocAttr,TF,h10]
        rw [hr,hK,decide_eq_true (show 0<d.texts.length by omega),decide_eq_true (show 255<c.size by omega)];rfl
       ·simp only [↓wR,RA,simprocAttr,TF,h10];repeat (simp (disch:=omega) only [ag,bz,b9,bu,bw];try simp only [↓wR,RA,simprocAttr,TF,h10])
        refine ⟨k+1,⟨hlt,?_⟩,by omega,by (first|rfl|trivial|omega|((try (simp (disch:=omega) only [ag]));(try (simp only [FB]));first|done|rfl|omega))⟩
        rw [hK,decide_eq_false (show ¬ 255<c.size by omega),Bool.false_or]
      ·rw [en (decide_eq_false h9),List.any_nil] at hK
       simp only [↓wR,RA,simprocAttr,TF,h9]
       rw [hr,hK,decide_eq_true (show 0<d.texts.length by omega)];rfl
     ·simp only [↓wR,RA,simprocAttr,TF,h8]
      rw [hr,decide_eq_false (show ¬ 0<d.texts.length by omega)];rfl
theorem yk (t:UInt16) : 0≤(cz t).size∧(cz t).size≤4:=by
 unfold cz
 repeat' split
 all_goals simp
noncomputable def Kt (x:Shape × UInt16 × bo × Unit):Option AV:=if (0≤x.1.size∧x.1.size≤4)∧cr x.2.2.1 then some ((r1 az).E true (qm x.1 x.2.1 x.2.2.1)) else none
set_option maxRecDepth 2000000 in
theorem ajx (x:Shape × UInt16 × bo × Unit) (r:AV) (h:Kt x=some r):bc PP 184 ((aC se (aC cw (aC ay a0))).E x) r:=by
 by_cases hc:(0≤x.1.size∧x.1.size≤4)∧cr x.2.2.1
 case neg=>simp only [Kt,if_neg hc] at h;cases h
 simp only [Kt,if_pos hc] at h
 cases h
 exact au (ak.cons (aj aou) (ak.nil PP)) Tryz.func184 (by kernel_rfl) (by kernel_rfl) (by kernel_rfl) (Nat.le_of_ble_eq_true (by kernel_rfl)) (r1 az) true (qm x.1 x.2.1 x.2.2.1) (at2 x.1 x.2.1 x.2.2.1 hc.1 hc.2)
noncomputable abbrev awx:Nat × Bool × (List AV→M AV):=(184,true,cx (aC se (aC cw (aC ay a0))) Kt)
theorem agx {α:Type} {l:List (List α)} {i:Nat} {c:List α} (h:l[i]? = some c):(l.drop i).flatten=c++(l.drop (i+1)).flatten:=by rw [Ak h];rfl
theorem atx {α:Type} {l:List (List α)} {c:List α} (h:c ∈ l):c.length≤l.flatten.length:=by
 induction l with
 |nil=>cases h
 |cons a l ih=>
  simp only [List.flatten_cons,List.length_append]
  rcases List.mem_cons.1 h with rfl|h
  ·omega
  ·have:=ih h;omega
theorem aoz (l:List (List UInt8)) (hl:l.length≤16777216) (hf:l.flatten.length≤134217728):wl PP [] 0 (Tryz.f200.body.getD .skip) (db PP Tryz.f200.results.toList (fun r st=>(r1 (br bg)).get false st.h r=some l.flatten)) (cd 0 [(br (br bg)).val false l]) (bk []):=by
 unfold Tryz.f200
 rw [k7]
 simp only [↓wR,RA,simprocAttr,TF]
 refine dp [0,3,9,10,11] (fun (x:Nat × Nat)=>[.vl false 1 (l.map ((br bg).val false)),.sc (.int .i64 x.2),.vl false 1 (l.map ((br bg).val false)),.sc (.int .i64 l.length),.sc (.int .i64 x.1)]) (fun _=>[]) (fun x=>x.1≤l.length∧x.2+(l.drop x.1).flatten.length=l.flatten.length) (fun x=>l.length - x.1) (0,0) ⟨Nat.zero_le _,by simp⟩ (by simp only [↓wR,RA,simprocAttr,TF]<;>rfl) (by simp only [↓wR,RA,simprocAttr,TF]<;>rfl) ?_
 rintro ⟨i,k⟩ ⟨hi,hk⟩
 simp only at hi hk
 simp only [↓wR,RA,simprocAttr,TF]
 rw [bb];refine ⟨fun h=>?_,fun h=>?_⟩
 ·obtain ⟨c,hc,hd1,hlt⟩:=dq (decide_eq_true h)
  rw [agx hc,List.length_append] at hk
  simp only [↓wR,RA,simprocAttr,TF,h,hc];repeat (simp (disch:=omega) only [ag,bz,b9,bu,bw];try simp only [↓wR,RA,simprocAttr,TF,h,hc])
  rw [bb];refine ⟨fun h1=>?_,fun h1=>?_⟩
  ·exfalso;omega
  ·simp only [↓wR,RA,simprocAttr,TF,h1];repeat (simp (disch:=omega) only [ag,bz,b9,bu,bw];try simp only [↓wR,RA,simprocAttr,TF,h1])
   exact ⟨(i+1,k+c.length),⟨hlt,by show k+c.length+(l.drop (i+1)).flatten.length=_;omega⟩,by simp;omega,by simp⟩
 ·rw [en (decide_eq_false h)] at hk
  have hk:k=l.flatten.length:=by simpa using hk
  subst hk
  simp only [↓wR,RA,simprocAttr,TF,h]
  refine c8 (T:=[]) (ak.nil PP) mixed Tryz.func204 rfl (by kernel_rfl) (by kernel_rfl) (by kernel_rfl) (by kernel_rfl) ?_;unfold Tryz.f204
  simp only [↓wR,RA,simprocAttr,TF]
  rw [bb];refine ⟨fun h1=>?_,fun h1=>?_⟩
  ·exfalso;omega
  simp only [↓wR,RA,simprocAttr,TF,h1];repeat (simp (disch:=omega) only [ag,bz,b9,bu,bw];try simp only [↓wR,RA,simprocAttr,TF,h1])
  rw [bb];refine ⟨fun h2=>?_,fun h2=>?_⟩
  ·have hpos : 0<l.flatten.length:=by omega
   simp only [↓wR,RA,simprocAttr,TF,h2,hpos];repeat (simp (disch:=omega) only [ag,bz,b9,bu,bw];try simp only [↓wR,RA,simprocAttr,TF,h2,hpos])
   refine dp [25,26,27,6] (fun (x:Nat × Nat × Nat × List UInt8)=>[.vl false 1 (l.map ((br bg).val false)),.sc (.int .i64 l.length),.sc (.int .i64 x.1),.sl 0 0 x.2.1 1]) (fun x=>[some (.row (x.2.2.2.map (bg.val false)) 0 x.2.2.1 5)]) (fun x=>x.1≤l.length∧(x.2.1=x.2.2.2.length∨x.2.1=0)∧x.2.2.2.take x.2.1++(l.drop x.1).flatten=l.flatten) (fun x=>l.length - x.1) (0,0,0,List.replicate l.flatten.length 0) ⟨Nat.zero_le _,.inr rfl,rfl⟩ (by simp only [↓wR,RA,simprocAttr,TF]<;>rfl) (by simp only [↓wR,RA,simprocAttr,TF]<;>rfl) ?_
   rintro ⟨k,m,s,r⟩ ⟨hk1,hk0,hk3⟩
   simp only at hk1 hk0 hk3
   have hk2:m≤r.length:=by omega
   simp only [↓wR,RA,simprocAttr,TF]
   rw [bb];refine ⟨fun h3=>?_,fun h3=>?_⟩
   ·obtain ⟨c,hc,hd1,hlt⟩:=dq (decide_eq_true h3)
    rw [agx hc] at hk3
    have hm:m+c.length≤134217728:=by
     have:=congrArg List.length hk3
     simp only [List.length_append,List.length_take] at this
     omega
    simp only [↓wR,RA,simprocAttr,TF,h3,hc,hk2];repeat (simp (disch:=omega) only [ag,bz,b9,bu,bw];try simp only [↓wR,RA,simprocAttr,TF,h3,hc,hk2])
    have hl1:(r.take m++c).length=m+c.length:=by simp [Nat.min_eq_left hk2]
    refine ⟨(k+1,m+c.length,mu (decide (m=r.length)) s,r.take m++c),⟨hlt,.inl hl1.symm,?_⟩,by simp;omega,by simp,by simp⟩
    show (r.take m++c).take (m+c.length)++_=_
    rw [List.take_of_length_le (Nat.le_of_eq hl1),List.append_assoc]
    exact hk3
   ·rw [en (decide_eq_false h3)] at hk3
    have hmr:m=r.length:=by
     have:=congrArg List.length hk3
     simp only [List.length_append,List.length_take,List.flatten_nil,List.length_nil] at this
     omega
    subst hmr
    have hr:r=l.flatten:=by simpa using hk3
    subst hr
    simp only [↓wR,RA,simprocAttr,TF,h3,hk2];repeat (simp (disch:=omega) only [ag,bz,b9,bu,bw];try simp only [↓wR,RA,simprocAttr,TF,h3,hk2])
  ·have hnil:l.flatten=[]:=List.eq_nil_of_length_eq_zero (by omega)
   simp only [↓wR,RA,simprocAttr,TF,h2];repeat (simp (disch:=omega) only [ag,bz,b9,bu,bw];try simp only [↓wR,RA,simprocAttr,TF,h2])
   refine dp [25,26,27,6] (fun (x:Nat)=>[.vl false 1 (l.map ((br bg).val false)),.sc (.int .i64 l.length),.sc (.int .i64 x),.sc (.slice none 0 0)]) (fun _=>[]) (fun x=>x≤l.length) (fun x=>l.length - x) 0 (Nat.zero_le _) (by simp only [↓wR,RA,simprocAttr,TF]<;>rfl) (by simp only [↓wR,RA,simprocAttr,TF]<;>rfl) ?_
   intro k hk1
   simp only [↓wR,RA,simprocAttr,TF]
   rw [bb];refine ⟨fun h3=>?_,fun h3=>?_⟩
   ·obtain ⟨c,hc,hd1,hlt⟩:=dq (decide_eq_true h3)
    have hc0:c=[]:=List.eq_nil_of_length_eq_zero (by have:=atx (List.mem_of_getElem? hc);rw [hnil] at this;simpa using this)
    subst hc0
    simp only [↓wR,RA,simprocAttr,TF,h3,hc];repeat (simp (disch:=omega) only [ag,bz,b9,bu,bw];try simp only [↓wR,RA,simprocAttr,TF,h3,hc])
    refine ⟨k+1,hlt,?_⟩
    first|(refine ⟨by simp;omega,?_⟩;simp)|(simp;omega)
   ·simp only [↓wR,RA,simprocAttr,TF,h3];repeat (simp (disch:=omega) only [ag,bz,b9,bu,bw];try simp only [↓wR,RA,simprocAttr,TF,h3])
    rw [hnil]
noncomputable def zl (x:List (List UInt8) × Unit):Option AV:=if x.1.length≤16777216∧x.1.flatten.length≤134217728 then some ((r1 (br bg)).E false (x.1.flatten)) else none
set_option maxRecDepth 2000000 in
theorem adm (x:List (List UInt8) × Unit) (r:AV) (h:zl x=some r):bc PP 200 ((aC (br (br bg)) a0).E x) r:=by
 by_cases hc:x.1.length≤16777216∧x.1.flatten.length≤134217728
 case neg=>simp only [zl,if_neg hc] at h;cases h
 simp only [zl,if_pos hc] at h
 cases h
 exact au (ak.nil PP) Tryz.func200 (by kernel_rfl) (by kernel_rfl) (by kernel_rfl) (Nat.le_of_ble_eq_true (by kernel_rfl)) (r1 (br bg)) false (x.1.flatten) (aoz x.1 hc.1 hc.2)
noncomputable abbrev as9:Nat × Bool × (List AV→M AV):=(200,true,cx (aC (br (br bg)) a0) zl)
theorem al3 (n:Name):(j5 n).length≤cf n:=by
 unfold j5 nameBytes
 split
 ·exact Nat.zero_le _
 ·have:=so n;rw [List.length_append];simp only [List.length_cons,List.length_nil];omega
noncomputable def yh (t:UInt16) (n:UInt32):List UInt8:=(yx n).drop (4 - (cz t).size).toNat
def m9 (t:UInt16):Nat→List ByteArray→List UInt8
 |_,[]=>[]
 |i,x::r=>(if (t.toNat:Int)=16∨i=0 then [UInt8.ofNat x.size] else [])++x.data.toList++m9 t (i+1) r
noncomputable def tl (t:UInt16) (d:bo):List UInt8:=d.nums.flatMap (yh t)
def pr (d:bo):List UInt8:=d.names.flatMap j5
def oy (t:UInt16) (d:bo):List UInt8:=m9 t 0 d.texts
noncomputable def lq (t:UInt16) (d:bo):List UInt8:=if (t.toNat:Int)=6 then pr d++tl t d else tl t d++(pr d++(oy t d++d.raw))
theorem D8 (n):(yx n).length=4:=rfl
theorem aet {α:Type} (f : α→List UInt8) (μ : α→Nat) (h:∀ x,(f x).length ≤ μ x) (l:List α):(l.flatMap f).length≤ik μ l:=by
 induction l with
 |nil=>simp
 |cons a l ih=>have:=h a;simp only [List.flatMap_cons,List.length_append,ik,List.foldr_cons] at ih ⊢;omega
theorem aie (t:UInt16) (l:List ByteArray):∀ i,(m9 t i l).length≤ik ByteArray.size l:=by
 induction l with
 |nil=>intro i;simp [m9]
 |cons a l ih=>
  intro i
  have:=ih (i+1)
  have ha:a.data.size=a.size:=rfl
  simp only [m9,List.length_append,ik,List.foldr_cons,Array.length_toList] at this ⊢
  split<;>simp<;>omega
theorem ak1 (t d):(tl t d).length≤4 * d.nums.length:=by
 unfold tl
 induction d.nums with
 |nil=>simp
 |cons a l ih=>
  have:(yh t a).length≤4:=by unfold yh;rw [List.length_drop,D8];omega
  simp only [List.flatMap_cons,List.length_append,List.length_cons];omega
theorem cr.written {d:bo} (h:cr d) (t):(tl t d).length≤67108864∧(pr d).length≤16777216∧(oy t d).length≤16777216:=by
 have h1:=ak1 t d
 have h2:(pr d).length≤ik cf d.names:=aet j5 cf al3 d.names
 have h3:(oy t d).length≤ik ByteArray.size d.texts:=aie t d.texts 0
 unfold cr xw at h
 omega
theorem xz {α:Type} {l:List α} {i:Nat} {c : α} (f : α→List UInt8) (h:l.drop i=c::l.drop (i+1)):(l.drop i).flatMap f=f c++(l.drop (i+1)).flatMap f:=by rw [h];rfl
theorem Tb (c):(yx c).take 4=yx c:=rfl
theorem Mh (t) (c):(yx c).drop (4 - (cz t).size).toNat=yh t c:=rfl
theorem W7 (t:UInt16) {l:List ByteArray} {i:Nat} {c:ByteArray} (h:l.drop i=c::l.drop (i+1)):m9 t i (l.drop i)=(if (t.toNat:Int)=16∨i=0 then [UInt8.ofNat c.size] else [])++c.data.toList++m9 t (i+1) (l.drop (i+1)):=by rw [h];rfl
theorem aqh (t:UInt16) (d:bo) (hd:cr d):wl PP [T2,auu,ahw,as9] 0 (Tryz.f185.body.getD .skip) (db PP Tryz.f185.results.toList (fun r st=>(r1 (br bg)).get false st.h r=some (lq t d))) (cd 0 [cw.val false t,ay.val false d]) (bk []):=by
 have hl:=hd.lens
 have hk:=hd.written t
 have hs:=yk t
 unfold Tryz.f185
 simp only [fy,cq]
 simp only [↓wR,RA,simprocAttr,TF,Dx,Da]
 refine fo [0,3,6,7,8,21,22,23,5] (fun (x:Nat × List UInt8)=>[.sc (.int .u16 t.toNat),.ptr 0 0,.sc (.slice none 0 0),.sc (.slice none 0 0),.ptr 1 0,.vl false 1 (d.nums.map (cg.val false)),.sc (.int .i64 (d.nums.length)),.sc (.int .i64 (x.1)),.sl 2 0 x.2.length 1]) (fun x=>[some (.row [.vl false 1 (d.names.map (aq.val false)),.vl false 1 (d.nums.map (cg.val false)),.vl false 1 (d.texts.map (ai.val false)),.vl false 1 (d.raw.map (bg.val false))] 0 2 101),some (.row [.sc (.int .i64 (cz t).names),.sc (.int .i64 (cz t).nums),.sc (.int .i64 (cz t).size),.sc (.int .i64 (cz t).texts),.sc (.int .i64 (cz t).raw)] 0 2 198),some (.row (x.2.map (bg.val false)) 0 0 5)]) (fun x=>x.1≤d.nums.length∧x.2++(d.nums.drop x.1).flatMap (yh t)=tl t d) (fun x=>d.nums.length - x.1) (0,[]) ⟨Nat.zero_le _,rfl⟩ (by simp only [↓wR,RA,simprocAttr,TF];(refine ir.lax [] (by first|exact Nat.le_of_ble_eq_true rfl|(simp [dk];omega)) ?_ ?_<;>repeat' first|exact dz.nil|exact cb.nil|exact eh.same _|exact eh.nil _ _ _|exact eh.ly _ _|exact cb.refl _ _|apply dz.cons|apply cb.ghost|apply cb.same|apply cb.row)) ?_
 rintro ⟨i,x⟩ ⟨hi,hx⟩
 simp only at hi hx
 simp only [↓wR,RA,simprocAttr,TF]
 rw [bb];refine ⟨fun h=>?_,fun h=>?_⟩
 ·obtain ⟨c,hc,hd1,hlt⟩:=dq (decide_eq_true h)
  rw [xz _ hd1] at hx
  have hxl:x.length+(yh t c).length≤(tl t d).length:=by rw [← hx];simp
  simp only [↓wR,RA,simprocAttr,TF,h,hc,Lq,D8,Tb,Mh];repeat (simp (disch:=omega) only [ag,bz,b9,bu,bw];try simp only [↓wR,RA,simprocAttr,TF,h,hc,Lq,D8,Tb,Mh])
  exact ⟨(i+1,x++yh t c),⟨hlt,by rw [List.append_assoc];exact hx⟩,by simp;omega,by (first|rfl|trivial|omega|((try (simp (disch:=omega) only [ag]));(try (simp only [FB]));first|done|rfl|omega)),by (first|rfl|trivial|omega|((try (simp (disch:=omega) only [ag]));(try (simp only [FB]));first|done|rfl|omega))⟩
 rw [en (decide_eq_false h)] at hx
 obtain rfl:x=tl t d:=by simpa using hx
 clear hx
 simp only [↓wR,RA,simprocAttr,TF,h]
 obtain ⟨nu,hnu⟩:∃ nu,tl t d=nu:=⟨_,rfl⟩
 rw [hnu] at hk ⊢
 refine fo [0,3,7,38,39,40,5,6] (fun (x:Nat × List UInt8)=>[.sc (.int .u16 t.toNat),.ptr 0 0,.sc (.slice none 0 0),.vl false 1 (d.names.map (aq.val false)),.sc (.int .i64 (d.names.length)),.sc (.int .i64 (x.1)),.sl 1 0 nu.length 1,.sl 2 0 x.2.length 1]) (fun x=>[some (.row [.vl false 1 (d.names.map (aq.val false)),.vl false 1 (d.nums.map (cg.val false)),.vl false 1 (d.texts.map (ai.val false)),.vl false 1 (d.raw.map (bg.val false))] 0 2 101),some (.row (nu.map (bg.val false)) 0 0 5),some (.row (x.2.map (bg.val false)) 0 0 5)]) (fun x=>x.1≤d.names.length∧x.2++(d.names.drop x.1).flatMap j5=pr d) (fun x=>d.names.length - x.1) (0,[]) ⟨Nat.zero_le _,rfl⟩ (by simp only [↓wR,RA,simprocAttr,TF];(refine ir.lax [] (by first|exact Nat.le_of_ble_eq_true rfl|(simp [dk];omega)) ?_ ?_<;>repeat' first|exact dz.nil|exact cb.nil|exact eh.same _|exact eh.nil _ _ _|exact eh.ly _ _|exact cb.refl _ _|apply dz.cons|apply cb.ghost|apply cb.same|apply cb.row)) ?_
 clear h
 rintro ⟨i,x⟩ ⟨hi,hx⟩
 simp only at hi hx
 simp only [↓wR,RA,simprocAttr,TF]
 rw [bb];refine ⟨fun h=>?_,fun h=>?_⟩
 ·obtain ⟨c,hc,hd1,hlt⟩:=dq (decide_eq_true h)
  rw [xz _ hd1] at hx
  have hxl:x.length+(j5 c).length≤(pr d).length:=by rw [← hx];simp
  simp only [↓wR,RA,simprocAttr,TF,h,hc,ta,hd.name c (List.mem_of_getElem? hc)];repeat (simp (disch:=omega) only [ag,bz,b9,bu,bw];try simp only [↓wR,RA,simprocAttr,TF,h,hc,ta,hd.name c (List.mem_of_getElem? hc)])
  exact ⟨(i+1,x++j5 c),⟨hlt,by rw [List.append_assoc];exact hx⟩,by simp;omega,by (first|rfl|trivial|omega|((try (simp (disch:=omega) only [ag]));(try (simp only [FB]));first|done|rfl|omega)),by (first|rfl|trivial|omega|((try (simp (disch:=omega) only [ag]));(try (simp only [FB]));first|done|rfl|omega))⟩
 rw [en (decide_eq_false h)] at hx
 obtain rfl:x=pr d:=by simpa using hx
 clear hx
 simp only [↓wR,RA,simprocAttr,TF,h]
 obtain ⟨na,hna⟩:∃ na,pr d=na:=⟨_,rfl⟩
 rw [hna] at hk ⊢
 refine fo [0,3,54,55,56,5,6,7] (fun (x:Nat × List UInt8)=>[.sc (.int .u16 t.toNat),.ptr 0 0,.vl false 1 (d.texts.map (ai.val false)),.sc (.int .i64 (d.texts.length)),.sc (.int .i64 (x.1)),.sl 1 0 nu.length 1,.sl 2 0 na.length 1,.sl 3 0 x.2.length 1]) (fun x=>[some (.row [.vl false 1 (d.names.map (aq.val false)),.vl false 1 (d.nums.map (cg.val false)),.vl false 1 (d.texts.map (ai.val false)),.vl false 1 (d.raw.map (bg.val false))] 0 2 101),some (.row (nu.map (bg.val false)) 0 0 5),some (.row (na.map (bg.val false)) 0 0 5),some (.row (x.2.map (bg.val false)) 0 0 5)]) (fun x=>x.1≤d.texts.length∧x.2++m9 t x.1 (d.texts.drop x.1)=oy t d) (fun x=>d.texts.length - x.1) (0,[]) ⟨Nat.zero_le _,rfl⟩ (by simp only [↓wR,RA,simprocAttr,TF];(refine ir.lax [] (by first|exact Nat.le_of_ble_eq_true rfl|(simp [dk];omega)) ?_ ?_<;>repeat' first|exact dz.nil|exact cb.nil|exact eh.same _|exact eh.nil _ _ _|exact eh.ly _ _|exact cb.refl _ _|apply dz.cons|apply cb.ghost|apply cb.same|apply cb.row)) ?_
 clear h
 rintro ⟨i,x⟩ ⟨hi,hx⟩
 simp only at hi hx
 simp only [↓wR,RA,simprocAttr,TF]
 rw [bb];refine ⟨fun h=>?_,fun h=>?_⟩
 ·obtain ⟨c,hc,hd1,hlt⟩:=dq (decide_eq_true h)
  rw [W7 _ hd1] at hx
  have hxl:x.length+((if (t.toNat:Int)=16∨i=0 then [UInt8.ofNat c.size] else []).length+c.size)≤(oy t d).length:=by rw [← hx];simp
  have hcs:c.data.toList.length=c.size:=by simp
  simp only [↓wR,RA,simprocAttr,TF,h,hc];repeat (simp (disch:=omega) only [ag,bz,b9,bu,bw];try simp only [↓wR,RA,simprocAttr,TF,h,hc])
  have fin:∀ b:List UInt8,x++(b++c.data.toList++m9 t (i+1) (d.texts.drop (i+1)))=oy t d→x++b++c.data.toList++m9 t (i+1) (d.texts.drop (i+1))=oy t d:=fun b hb=>by rw [← hb];simp
  rw [cj];refine ⟨fun ⟨h16,e16⟩=>?_,fun ⟨h16,e16⟩=>?_⟩
  ·rw [if_pos (.inl e16)] at hx hxl
   simp only [List.length_cons,List.length_nil] at hxl
   simp only [↓wR,RA,simprocAttr,TF,h16];repeat (simp (disch:=omega) only [ag,bz,b9,bu,bw];try simp only [↓wR,RA,simprocAttr,TF,h16])
   exact ⟨(i+1,x++[UInt8.ofNat c.size]++c.data.toList),⟨hlt,fin _ hx⟩,by simp;omega,by (first|rfl|trivial|omega|((try (simp (disch:=omega) only [ag]));(try (simp only [FB]));first|done|rfl|omega)),by (first|rfl|trivial|omega|((try (simp (disch:=omega) only [ag]));(try (simp only [FB]));first|done|rfl|omega))⟩
  ·simp only [↓wR,RA,simprocAttr,TF,h16];repeat (simp (disch:=omega) only [ag,bz,b9,bu,bw];try simp only [↓wR,RA,simprocAttr,TF,h16])
   rw [cj];refine ⟨fun ⟨h0,e0⟩=>?_,fun ⟨h0,e0⟩=>?_⟩
   ·rw [if_pos (.inr (by omega))] at hx hxl
    simp only [List.length_cons,List.length_nil] at hxl
    simp only [↓wR,RA,simprocAttr,TF,h0];repeat (simp (disch:=omega) only [ag,bz,b9,bu,bw];try simp only [↓wR,RA,simprocAttr,TF,h0])
    exact ⟨(i+1,x++[UInt8.ofNat c.size]++c.data.toList),⟨hlt,fin _ hx⟩,by simp;omega,by (first|rfl|trivial|omega|((try (simp (disch:=omega) only [ag]));(try (simp only [FB]));first|done|rfl|omega)),by (first|rfl|trivial|omega|((try (simp (disch:=omega) only [ag]));(try (simp only [FB]));first|done|rfl|omega))⟩
   ·rw [if_neg (by omega)] at hx hxl
    simp only [List.length_nil] at hxl
    simp only [↓wR,RA,simprocAttr,TF,h0];repeat (simp (disch:=omega) only [ag,bz,b9,bu,bw];try simp only [↓wR,RA,simprocAttr,TF,h0])
    exact ⟨(i+1,x++c.data.toList),⟨hlt,by have:=fin _ hx;simpa using this⟩,by simp;omega,by (first|rfl|trivial|omega|((try (simp (disch:=omega) only [ag]));(try (simp only [FB]));first|done|rfl|omega)),by (first|rfl|trivial|omega|((try (simp (disch:=omega) only [ag]));(try (simp only [FB]));first|done|rfl|omega))⟩
 rw [en (decide_eq_false h)] at hx
 obtain rfl:x=oy t d:=by simpa [m9] using hx
 clear hx
 simp only [↓wR,RA,simprocAttr,TF,h];repeat (simp (disch:=omega) only [ag,bz,b9,bu,bw];try simp only [↓wR,RA,simprocAttr,TF,h])
 unfold lq
 rw [hnu,hna]
 rw [cj];refine ⟨fun ⟨h6,e6⟩=>?_,fun ⟨h6,e6⟩=>?_⟩
 ·rw [if_pos e6]
  simp only [↓wR,RA,simprocAttr,TF,h6];repeat (simp (disch:=omega) only [ag,bz,b9,bu,bw];try simp only [↓wR,RA,simprocAttr,TF,h6])
 ·rw [if_neg e6]
  have hcat:nu.length+(na.length+((oy t d).length+d.raw.length))≤134217728:=by omega
  simp only [↓wR,RA,simprocAttr,TF,h6,zl,hcat];repeat (simp (disch:=omega) only [ag,bz,b9,bu,bw];try simp only [↓wR,RA,simprocAttr,TF,h6,zl,hcat])
  rw [← List.map_append,← List.map_append,← List.map_append]
  exact sx bg false _ false _ _ rfl rfl
noncomputable def s8 (x:UInt16 × bo × Unit):Option AV:=if cr x.2.1 then some ((r1 (br bg)).E false (lq x.1 x.2.1)) else none
set_option maxRecDepth 2000000 in
theorem D3 (x:UInt16 × bo × Unit) (r:AV) (h:s8 x=some r):bc PP 185 ((aC cw (aC ay a0)).E x) r:=by
 by_cases hc:cr x.2.1
 case neg=>simp only [s8,if_neg hc] at h;cases h
 simp only [s8,if_pos hc] at h
 cases h
 exact au (ak.cons (aj Dz) (ak.cons (aj ad2) (ak.cons (aj Qb) (ak.cons (aj adm) (ak.nil PP))))) Tryz.func185 (by kernel_rfl) (by kernel_rfl) (by kernel_rfl) (Nat.le_of_ble_eq_true (by kernel_rfl)) (r1 (br bg)) false (lq x.1 x.2.1) (aqh x.1 x.2.1 hc)
noncomputable abbrev P2:Nat × Bool × (List AV→M AV):=(185,true,cx (aC cw (aC ay a0)) s8)
theorem aez (d:bo) (hd:cr d):wl PP [Zw,ac3,agj,Aa] 0 (Tryz.f107.body.getD .skip) (db PP Tryz.f107.results.toList (fun r st=>(r1 ay).get true st.h r=some d)) (cd 0 [ay.val false d]) (bk []):=by
 have hl:=hd.lens
 have l2:=hl.2.1
 have l3:=hl.2.2.1
 have l4:=hl.2.2.2
 unfold Tryz.f107
 simp only [fy,cq]
 simp only [↓wR,RA,simprocAttr,TF]
 refine ⟨by kernel_rfl,.inl ?_⟩
 simp only [↓wR,RA,simprocAttr,TF,xi,wy,z6,l2,l3,l4]
 refine ⟨by kernel_rfl,?_⟩
 refine fo [2,17,18,19,3] (fun (x:List Name)=>[.ptr 0 0,.vl false 1 (d.names.map (aq.val false)),.sc (.int .i64 (d.names.length)),.sc (.int .i64 (x.length)),.ptr 1 0]) (fun x=>[some (.row [.sc (.slice none 0 0),.sc (.slice none 0 0),.sc (.slice none 0 0),.sc (.slice none 0 0)] 0 2 101),some (.row [.sl 2 0 x.length 1,.vl true 1 (d.nums.map (cg.val false)),.vl true 1 (d.texts.map (ai.val false)),.vl true 1 (d.raw.map (bg.val false))] 0 2 101),some (.row (x.map (aq.val true)) 0 0 24)]) (fun x=>x.length≤d.names.length∧x++d.names.drop x.length=d.names) (fun x=>d.names.length - x.length) [] ⟨Nat.zero_le _,rfl⟩ (by simp only [↓wR,RA,simprocAttr,TF];(refine ir.lax [] (by first|exact Nat.le_of_ble_eq_true rfl|(simp [dk];omega)) ?_ ?_<;>repeat' first|exact dz.nil|exact cb.nil|exact eh.same _|exact eh.nil _ _ _|exact eh.ly _ _|exact cb.refl _ _|apply dz.cons|apply cb.ghost|apply cb.same|apply cb.row)) ?_
 rintro x ⟨hi,hx⟩
 simp only [↓wR,RA,simprocAttr,TF]
 rw [bb];refine ⟨fun h=>?_,fun h=>?_⟩
 ·obtain ⟨c,hc,hd1,hlt⟩:=dq (decide_eq_true h)
  rw [hd1] at hx
  have hlim:(x.length+1) * 24≤140737488355328:=by omega
  simp only [↓wR,RA,simprocAttr,TF,h,hc]
  refine ⟨by kernel_rfl,.inl ?_⟩
  simp only [↓wR,RA,simprocAttr,TF,mj,hd.name c (List.mem_of_getElem? hc),hlim]
  refine ⟨by kernel_rfl,?_⟩
  exact ⟨x++[c],⟨by simp;omega,by simpa using hx⟩,by simp;omega,by (first|rfl|trivial|omega|((try (simp (disch:=omega) only [ag]));(try (simp only [FB]));first|done|rfl|omega)),by (first|rfl|trivial|omega|((try (simp (disch:=omega) only [ag]));(try (simp only [FB]));first|done|rfl|omega))⟩
 ·rw [en (decide_eq_false h)] at hx
  rw [List.append_nil] at hx
  subst hx
  simp only [↓wR,RA,simprocAttr,TF,h]
noncomputable def ue (x:bo × Unit):Option AV:=if cr x.1 then some ((r1 ay).E true (x.1)) else none
set_option maxRecDepth 2000000 in
theorem Ib (x:bo × Unit) (r:AV) (h:ue x=some r):bc PP 107 ((aC ay a0).E x) r:=by
 by_cases hc:cr x.1
 case neg=>simp only [ue,if_neg hc] at h;cases h
 simp only [ue,if_pos hc] at h
 cases h
 exact au (ak.cons (aj Io) (ak.cons (aj Iu) (ak.cons (aj J7) (ak.cons (aj pj) (ak.nil PP))))) Tryz.func107 (by kernel_rfl) (by kernel_rfl) (by kernel_rfl) (Nat.le_of_ble_eq_true (by kernel_rfl)) (r1 ay) true (x.1) (aez x.1 hc)
noncomputable abbrev acg:Nat × Bool × (List AV→M AV):=(107,true,cx (aC ay a0) ue)
def ov {α:Type} (f : α → α) (l:List α) (i:Nat):List α:=(l.take i).map f++l.drop i
theorem ajm {α:Type} (f : α → α) (l:List α) (i:Nat):(ov f l i).length=l.length:=by simp [ov];omega
theorem ajs {α:Type} (f : α → α) {l:List α} {i:Nat} {c : α} (h:l[i]? = some c):(ov f l i)[i]? = some c:=by
 obtain ⟨hi,rfl⟩:=List.getElem?_eq_some_iff.1 h
 have hl:((l.take i).map f).length=i:=by simp;omega
 rw [ov,List.getElem?_append_right (by omega),hl,Nat.sub_self,List.getElem?_drop];simp [h]
theorem ail {α:Type} (f : α → α) {l:List α} {i:Nat} {c : α} (h:l[i]? = some c):(ov f l i).take i++[f c]++(ov f l i).drop (i+1)=ov f l (i+1):=by
 obtain ⟨hi,rfl⟩:=List.getElem?_eq_some_iff.1 h
 have h1:((l.take i).map f).length=i:=by simp;omega
 have h2:(ov f l i).take i=(l.take i).map f:=by rw [ov,List.take_append_of_le_length (by omega),List.take_of_length_le (by omega)]
 have h3:(ov f l i).drop (i+1)=l.drop (i+1):=by
  rw [ov,List.drop_append,List.drop_eq_nil_of_le (by omega),h1]
  simp
 rw [h2,h3,ov,List.take_succ_eq_append_getElem hi,List.map_append]
 rfl
theorem ai3 {α:Type} (f : α → α) (l:List α):ov f l l.length=l.map f:=by simp [ov]
noncomputable def kn (t:UInt16) (d:bo):bo:=if 0<(cz t).names then { d with names:=d.names.map ey } else d
theorem afj (t:UInt16) (d:bo) (hd:cr d):wl PP [T2,ark] 0 (Tryz.f162.body.getD .skip) (db PP Tryz.f162.results.toList (fun r st=>(r1 ay).get true st.h r=some (kn t d))) (cd 0 [cw.val false t,ay.val false d]) (bk []):=by
 have hl:=hd.lens
 have l2:=hl.2.1
 have l3:=hl.2.2.1
 have l4:=hl.2.2.2
 unfold Tryz.f162
 simp only [fy,cq]
 simp only [↓wR,RA,simprocAttr,TF]
 refine c8 (T:=[Zw,ac3,agj,Aa]) (ak.cons (aj Io) (ak.cons (aj Iu) (ak.cons (aj J7) (ak.cons (aj pj) (ak.nil PP))))) mixed Tryz.func107 rfl (by kernel_rfl) (by kernel_rfl) (by kernel_rfl) (by kernel_rfl) ?_;unfold Tryz.f107
 simp only [↓wR,RA,simprocAttr,TF]
 refine ⟨by kernel_rfl,.inl ?_⟩
 simp only [↓wR,RA,simprocAttr,TF,xi,wy,z6,l2,l3,l4]
 refine ⟨by kernel_rfl,?_⟩
 refine fo [2,17,18,19,3] (fun (x:List Name)=>[.ptr 2 0,.vl false 1 (d.names.map (aq.val false)),.sc (.int .i64 (d.names.length)),.sc (.int .i64 (x.length)),.ptr 3 0]) (fun x=>[some (.row [.vl false 1 (d.names.map (aq.val false)),.vl false 1 (d.nums.map (cg.val false)),.vl false 1 (d.texts.map (ai.val false)),.vl false 1 (d.raw.map (bg.val false))] 0 2 101),some (.row [.sc (.slice none 0 0),.sc (.slice none 0 0),.sc (.slice none 0 0),.sc (.slice none 0 0)] 0 2 101),some (.row [.sc (.slice none 0 0),.sc (.slice none 0 0),.sc (.slice none 0 0),.sc (.slice none 0 0)] 0 2 101),some (.row [.sl 4 0 x.length 1,.vl true 1 (d.nums.map (cg.val false)),.vl true 1 (d.texts.map (ai.val false)),.vl true 1 (d.raw.map (bg.val false))] 0 2 101),some (.row (x.map (aq.val true)) 0 0 24)]) (fun x=>x.length≤d.names.length∧x++d.names.drop x.length=d.names) (fun x=>d.names.length - x.length) [] ⟨Nat.zero_le _,rfl⟩ (by simp only [↓wR,RA,simprocAttr,TF];(refine ir.lax [] (by first|exact Nat.le_of_ble_eq_true rfl|(simp [dk];omega)) ?_ ?_<;>repeat' first|exact dz.nil|exact cb.nil|exact eh.same _|exact eh.nil _ _ _|exact eh.ly _ _|exact cb.refl _ _|apply dz.cons|apply cb.ghost|apply cb.same|apply cb.row)) ?_
 rintro x ⟨hi,hx⟩
 simp only [↓wR,RA,simprocAttr,TF]
 rw [bb];refine ⟨fun h=>?_,fun h=>?_⟩
 ·obtain ⟨c,hc,hd1,hlt⟩:=dq (decide_eq_true h)
  rw [hd1] at hx
  have hlim:(x.length+1) * 24≤140737488355328:=by omega
  simp only [↓wR,RA,simprocAttr,TF,h,hc]
  refine ⟨by kernel_rfl,.inl ?_⟩
  simp only [↓wR,RA,simprocAttr,TF,mj,hd.name c (List.mem_of_getElem? hc),hlim]
  refine ⟨by kernel_rfl,?_⟩
  exact ⟨x++[c],⟨by simp;omega,by simpa using hx⟩,by simp;omega,by (first|rfl|trivial|omega|((try (simp (disch:=omega) only [ag]));(try (simp only [FB]));first|done|rfl|omega)),by (first|rfl|trivial|omega|((try (simp (disch:=omega) only [ag]));(try (simp only [FB]));first|done|rfl|omega))⟩
 rw [en (decide_eq_false h)] at hx
 rw [List.append_nil] at hx
 subst hx
 simp only [↓wR,RA,simprocAttr,TF,h,Dx,Da]
 unfold kn
 clear hi h
 rw [bb];refine ⟨fun h0=>?_,fun h0=>?_⟩
 ·rw [if_pos h0]
  simp only [↓wR,RA,simprocAttr,TF,h0]
  refine dp [4,5,15,16,17] (fun (i:Nat)=>[.ptr 0 0,.ptr 1 0,.sl 2 0 d.names.length 1,.sc (.int .i64 (d.names.length)),.sc (.int .i64 (i))]) (fun i=>[some (.row [.sc (.slice none 0 0),.sc (.slice none 0 0),.sc (.slice none 0 0),.sc (.slice none 0 0)] 0 2 101),some (.row [.sl 2 0 d.names.length 1,.vl true 1 (d.nums.map (cg.val false)),.vl true 1 (d.texts.map (ai.val false)),.vl true 1 (d.raw.map (bg.val false))] 0 2 101),some (.row ((ov ey d.names i).map (aq.val true)) 0 0 24)]) (fun i=>i≤d.names.length) (fun i=>d.names.length - i) 0 (Nat.zero_le _) (by simp only [↓wR,RA,simprocAttr,TF]<;>rfl) (by simp only [↓wR,RA,simprocAttr,TF]<;>rfl) ?_
  intro i hi
  simp only [↓wR,RA,simprocAttr,TF]
  rw [bb];refine ⟨fun h=>?_,fun h=>?_⟩
  ·obtain ⟨c,hc,hd1,hlt⟩:=dq (decide_eq_true h)
   have hs:=ajs ey hc
   have hlen:=ajm ey d.names i
   have hlt':i+1≤d.names.length:=hlt
   simp only [↓wR,RA,simprocAttr,TF,h,hs,hlt]
   refine ⟨by kernel_rfl,.inl ?_⟩
   simp only [↓wR,RA,simprocAttr,TF,h,hlt,hlt',hlen,Bi,hd.name c (List.mem_of_getElem? hc)]
   refine ⟨by kernel_rfl,i+1,hlt,by omega,by (first|rfl|trivial|omega|((try (simp (disch:=omega) only [ag]));(try (simp only [FB]));first|done|rfl|omega)),?_⟩
   rw [← ail ey hc];simp only [List.map_append,List.map_cons,List.map_nil]
  ·have hin:i=d.names.length:=by omega
   subst hin
   rw [ai3]
   have hml:(d.names.map ey).length=d.names.length:=List.length_map _
   generalize d.names.map ey=m at hml ⊢
   simp only [↓wR,RA,simprocAttr,TF,h,hml]
   rfl
 ·rw [if_neg h0]
  simp only [↓wR,RA,simprocAttr,TF,h0]
noncomputable def Bl (x:UInt16 × bo × Unit):Option AV:=if cr x.2.1 then some ((r1 ay).E true (kn x.1 x.2.1)) else none
set_option maxRecDepth 2000000 in
theorem Yf (x:UInt16 × bo × Unit) (r:AV) (h:Bl x=some r):bc PP 162 ((aC cw (aC ay a0)).E x) r:=by
 by_cases hc:cr x.2.1
 case neg=>simp only [Bl,if_neg hc] at h;cases h
 simp only [Bl,if_pos hc] at h
 cases h
 exact au (ak.cons (aj Dz) (ak.cons (aj X2) (ak.nil PP))) Tryz.func162 (by kernel_rfl) (by kernel_rfl) (by kernel_rfl) (Nat.le_of_ble_eq_true (by kernel_rfl)) (r1 ay) true (kn x.1 x.2.1) (afj x.1 x.2.1 hc)
noncomputable abbrev aqn:Nat × Bool × (List AV→M AV):=(162,true,cx (aC cw (aC ay a0)) Bl)
def jz:List Name→Int
 | []=>0
 |n::r=>if dm n≠0 then dm n else jz r
noncomputable def dw (t:UInt16) (d:bo):Int:=
 if lf t=true then 6 else if qm (cz t) t d=false then 7 else if jz d.names≠0 then jz d.names else if 65535<(lq t d).length then 3 else 0
theorem Oa {l:List Name} {i:Nat} {c:Name} (h:l.drop i=c::l.drop (i+1)):jz (l.drop i)=if dm c≠0 then dm c else jz (l.drop (i+1)):=by rw [h];rfl
theorem aaj (t:UInt16) (d:bo) (hd:cr d):wl PP [av3,T2,awx,ew,P2] 0 (Tryz.f158.body.getD .skip) (db PP Tryz.f158.results.toList (fun r st=>(r1 (ba .i64)).get true st.h r=some (dw t d))) (cd 0 [cw.val false t,ay.val false d]) (bk []):=by
 have hs:=yk t
 have hl:=hd.lens
 unfold Tryz.f158
 simp only [fy,cq]
 simp only [↓wR,RA,simprocAttr,TF,Um]
 unfold dw
 rw [cy];refine ⟨fun hb=>?_,fun hb=>?_⟩
 ·rw [if_pos hb]
  simp only [↓wR,RA,simprocAttr,TF,hb]
 rw [if_neg (by rw [hb];decide)]
 simp only [↓wR,RA,simprocAttr,TF,hb]
 refine ⟨by kernel_rfl,.inl ?_⟩
 simp only [↓wR,RA,simprocAttr,TF,Dx,Kt,hs,hd]
 refine ⟨by kernel_rfl,?_⟩
 rw [cy];refine ⟨fun hf=>?_,fun hf=>?_⟩
 ·rw [if_pos (by simpa using hf)]
  simp only [↓wR,RA,simprocAttr,TF,hf]
 have hf':qm (cz t) t d=true:=by simpa using hf
 rw [if_neg (by rw [hf'];decide)]
 simp only [↓wR,RA,simprocAttr,TF,hf]
 refine dp [0,3,17,18,19] (fun (i:Nat)=>[.sc (.int .u16 t.toNat),.ptr 0 0,.vl false 1 (d.names.map (aq.val false)),.sc (.int .i64 (d.names.length)),.sc (.int .i64 (i))]) (fun _=>[some (.row [.vl false 1 (d.names.map (aq.val false)),.vl false 1 (d.nums.map (cg.val false)),.vl false 1 (d.texts.map (ai.val false)),.vl false 1 (d.raw.map (bg.val false))] 0 2 101)]) (fun i=>i≤d.names.length∧jz d.names=jz (d.names.drop i)) (fun i=>d.names.length - i) 0 ⟨Nat.zero_le _,rfl⟩ (by simp only [↓wR,RA,simprocAttr,TF]<;>rfl) (by simp only [↓wR,RA,simprocAttr,TF]<;>rfl) ?_
 rintro i ⟨hi,hx⟩
 simp only [↓wR,RA,simprocAttr,TF]
 rw [bb];refine ⟨fun h=>?_,fun h=>?_⟩
 ·obtain ⟨c,hc,hd1,hlt⟩:=dq (decide_eq_true h)
  rw [Oa hd1] at hx
  simp only [↓wR,RA,simprocAttr,TF,h,hc,pq,(hd.name c (List.mem_of_getElem? hc)).fit]
  rw [cy];refine ⟨fun h1=>?_,fun h1=>?_⟩
  ·have he:dm c≠0:=by simpa using h1
   rw [if_pos he] at hx
   rw [if_pos (by rw [hx];exact he),hx]
   simp only [↓wR,RA,simprocAttr,TF,h1]
  ·have he:dm c=0:=by simpa using h1
   rw [if_neg (by omega)] at hx
   simp only [↓wR,RA,simprocAttr,TF,h1];repeat (simp (disch:=omega) only [ag,bz,b9,bu,bw];try simp only [↓wR,RA,simprocAttr,TF,h1])
   exact ⟨i+1,⟨hlt,hx⟩,by omega,by (first|rfl|trivial|omega|((try (simp (disch:=omega) only [ag]));(try (simp only [FB]));first|done|rfl|omega))⟩
 rw [en (decide_eq_false h)] at hx
 rw [if_neg (by rw [hx];decide)]
 simp only [↓wR,RA,simprocAttr,TF,h,s8,hd]
 rw [bb];refine ⟨fun h2=>?_,fun h2=>?_⟩
 ·rw [if_pos (by omega)]
  simp only [↓wR,RA,simprocAttr,TF,h2]
 ·rw [if_neg (by omega)]
  simp only [↓wR,RA,simprocAttr,TF,h2]
noncomputable def py (x:UInt16 × bo × Unit):Option AV:=if cr x.2.1 then some ((r1 (ba .i64)).E true (dw x.1 x.2.1)) else none
set_option maxRecDepth 2000000 in
theorem Al (x:UInt16 × bo × Unit) (r:AV) (h:py x=some r):bc PP 158 ((aC cw (aC ay a0)).E x) r:=by
 by_cases hc:cr x.2.1
 case neg=>simp only [py,if_neg hc] at h;cases h
 simp only [py,if_pos hc] at h
 cases h
 exact au (ak.cons (aj aeq) (ak.cons (aj Dz) (ak.cons (aj ajx) (ak.cons (aj rh) (ak.cons (aj D3) (ak.nil PP)))))) Tryz.func158 (by kernel_rfl) (by kernel_rfl) (by kernel_rfl) (Nat.le_of_ble_eq_true (by kernel_rfl)) (r1 (ba .i64)) true (dw x.1 x.2.1) (aaj x.1 x.2.1 hc)
noncomputable abbrev I5:Nat × Bool × (List AV→M AV):=(158,true,cx (aC cw (aC ay a0)) py)
noncomputable def Dt (t:UInt16) (d:bo):List UInt8:=if dw t d≠0 then [] else lq t d
theorem aa2 (t:UInt16) (d:bo) (hd:cr d):wl PP [I5,P2] 0 (Tryz.f161.body.getD .skip) (db PP Tryz.f161.results.toList (fun r st=>(r2 (br bg) (ba .i64)).get false st.h r=some (Dt t d,dw t d))) (cd 0 [cw.val false t,ay.val false d]) (bk []):=by
 unfold Tryz.f161
 simp only [fy,cq]
 simp only [↓wR,RA,simprocAttr,TF,py,hd]
 unfold Dt
 rw [cy];refine ⟨fun h=>?_,fun h=>?_⟩
 ·have he:dw t d≠0:=by simpa using h
  rw [if_pos he]
  simp only [↓wR,RA,simprocAttr,TF,h]
 ·have he:dw t d=0:=by simpa using h
  rw [if_neg (by omega)]
  simp only [↓wR,RA,simprocAttr,TF,h,s8,hd,he]
noncomputable def ym (x:UInt16 × bo × Unit):Option AV:=if cr x.2.1 then some ((r2 (br bg) (ba .i64)).E false ((Dt x.1 x.2.1,dw x.1 x.2.1))) else none
set_option maxRecDepth 2000000 in
theorem Ul (x:UInt16 × bo × Unit) (r:AV) (h:ym x=some r):bc PP 161 ((aC cw (aC ay a0)).E x) r:=by
 by_cases hc:cr x.2.1
 case neg=>simp only [ym,if_neg hc] at h;cases h
 simp only [ym,if_pos hc] at h
 cases h
 exact au (ak.cons (aj Al) (ak.cons (aj D3) (ak.nil PP))) Tryz.func161 (by kernel_rfl) (by kernel_rfl) (by kernel_rfl) (Nat.le_of_ble_eq_true (by kernel_rfl)) (r2 (br bg) (ba .i64)) false ((Dt x.1 x.2.1,dw x.1 x.2.1)) (aa2 x.1 x.2.1 hc)
noncomputable abbrev alb:Nat × Bool × (List AV→M AV):=(161,true,cx (aC cw (aC ay a0)) ym)
theorem al9 (args:List AV):Cf PP 187 args (Cx.kc args):=
 Cx.D0 (fn:=(PP.funcs[187]?).getD default) (by kernel_rfl) (by kernel_rfl) (by kernel_rfl) (by kernel_rfl) (by kernel_rfl) args
noncomputable abbrev av4:Nat × Bool × (List AV→M AV):=(187,true,Cx.kc)
theorem aum:ak PP [av4]:=ak.cons al9 (ak.nil PP)
noncomputable def Ub (a b:List UInt8):Int:=Lib.compareBytes a b
theorem P4 (a b:List UInt8):wl PP [av4] 0 (Tryz.f163.body.getD .skip) (db PP Tryz.f163.results.toList (fun r st=>(r1 (ba .i64)).get true st.h r=some (Ub a b))) (cd 0 [(br bg).val false a,(br bg).val false b]) (bk []):=by
 unfold Tryz.f163
 simp only [k7]
 simp only [↓wR,RA,simprocAttr,TF,Ub]
noncomputable def vz (x:List UInt8 × List UInt8 × Unit):Option AV:=some ((r1 (ba .i64)).E true (Ub x.1 x.2.1))
theorem Mp (x:List UInt8 × List UInt8 × Unit) (r:AV) (h:vz x=some r):bc PP 163 ((aC (br bg) (aC (br bg) a0)).E x) r:=by
 cases h
 exact au aum Tryz.func163 (by kernel_rfl) (by kernel_rfl) (by kernel_rfl) (Nat.le_of_ble_eq_true (by kernel_rfl)) (r1 (ba .i64)) true (Ub x.1 x.2.1) (P4 x.1 x.2.1)
noncomputable abbrev aa6:Nat × Bool × (List AV→M AV):=(163,true,cx (aC (br bg) (aC (br bg) a0)) vz)
theorem D6 (s:ByteArray):(fold s).size=s.size:=by
 show (s.data.toList.map low).toArray.size=s.data.size
 simp
theorem Ap (n:Name):cf (ey n)=cf n:=by
 unfold cf ey
 rw [List.foldl_map]
 simp only [D6]
theorem ant (l:List Name):ik cf (l.map ey)=ik cf l:=by
 induction l with
 |nil=>rfl
 |cons a l ih=>simp only [ik,List.map_cons,List.foldr_cons,Ap] at ih ⊢;rw [ih]
theorem cr.fold {d:bo} (h:cr d) (t:UInt16):cr (kn t d):=by
 unfold kn
 split
 ·unfold cr xw at *
  simp only [ant];exact h
 ·exact h
noncomputable def Ae (t:UInt16) (a b:bo):Int:=if dw t (kn t a)≠0∨dw t (kn t b)≠0 then 0 else Ub (Dt t (kn t a)) (Dt t (kn t b))
noncomputable def vw (t:UInt16) (a b:bo):Bool:=decide (dw t a=0) && decide (dw t b=0) && decide (Ae t a b=0)
theorem Uz (t:UInt16) (a b:bo) (ha:cr a) (hb:cr b):wl PP [aqn,alb,aa6] 0 (Tryz.f123.body.getD .skip) (db PP Tryz.f123.results.toList (fun r st=>(r1 (ba .i64)).get true st.h r=some (Ae t a b))) (cd 0 [cw.val false t,ay.val false a,ay.val false b]) (bk []):=by
 have fa:=ha.fold t
 have fb:=hb.fold t
 unfold Tryz.f123
 simp only [fy,cq]
 simp only [↓wR,RA,simprocAttr,TF,Bl,ym,vz,ha,hb,fa,fb]
 unfold Ae
 rw [cy];refine ⟨fun h=>?_,fun h=>?_⟩
 ·have he:dw t (kn t a)≠0:=by simpa using h
  rw [if_pos (.inl he)]
  simp only [↓wR,RA,simprocAttr,TF,h]
 have he:dw t (kn t a)=0:=by simpa using h
 simp only [↓wR,RA,simprocAttr,TF,h]
 rw [cy];refine ⟨fun h2=>?_,fun h2=>?_⟩
 ·have he2:dw t (kn t b)≠0:=by simpa using h2
  rw [if_pos (.inr he2)]
  simp only [↓wR,RA,simprocAttr,TF,h2]
 ·have he2:dw t (kn t b)=0:=by simpa using h2
  rw [if_neg (by omega)]
  simp only [↓wR,RA,simprocAttr,TF,h2,vz]
noncomputable def mc (x:UInt16 × bo × bo × Unit):Option AV:=if cr x.2.1∧cr x.2.2.1 then some ((r1 (ba .i64)).E true (Ae x.1 x.2.1 x.2.2.1)) else none
set_option maxRecDepth 2000000 in
theorem Dj (x:UInt16 × bo × bo × Unit) (r:AV) (h:mc x=some r):bc PP 123 ((aC cw (aC ay (aC ay a0))).E x) r:=by
 by_cases hc:cr x.2.1∧cr x.2.2.1
 case neg=>simp only [mc,if_neg hc] at h;cases h
 simp only [mc,if_pos hc] at h
 cases h
 exact au (ak.cons (aj Yf) (ak.cons (aj Ul) (ak.cons (aj Mp) (ak.nil PP)))) Tryz.func123 (by kernel_rfl) (by kernel_rfl) (by kernel_rfl) (Nat.le_of_ble_eq_true (by kernel_rfl)) (r1 (ba .i64)) true (Ae x.1 x.2.1 x.2.2.1) (Uz x.1 x.2.1 x.2.2.1 hc.1 hc.2)
noncomputable abbrev Fh:Nat × Bool × (List AV→M AV):=(123,true,cx (aC cw (aC ay (aC ay a0))) mc)
theorem ae2 (t:UInt16) (a b:bo) (ha:cr a) (hb:cr b):wl PP [I5,Fh] 0 (Tryz.f155.body.getD .skip) (db PP Tryz.f155.results.toList (fun r st=>(r1 az).get true st.h r=some (vw t a b))) (cd 0 [cw.val false t,ay.val false a,ay.val false b]) (bk []):=by
 unfold Tryz.f155
 simp only [fy,cq]
 simp only [↓wR,RA,simprocAttr,TF,py,ha,hb]
 unfold vw
 rw [cj];refine ⟨fun ⟨h,e⟩=>?_,fun ⟨h,e⟩=>?_⟩
 ·rw [decide_eq_true e]
  simp only [↓wR,RA,simprocAttr,TF,h,py,ha,hb]
  rw [cj];refine ⟨fun ⟨h2,e2⟩=>?_,fun ⟨h2,e2⟩=>?_⟩
  ·rw [decide_eq_true e2]
   simp only [↓wR,RA,simprocAttr,TF,h2,mc,ha,hb]
   rfl
  ·rw [decide_eq_false e2]
   simp only [↓wR,RA,simprocAttr,TF,h2]
   rfl
 ·rw [decide_eq_false e]
  simp only [↓wR,RA,simprocAttr,TF,h]
  rfl
noncomputable def Bo (x:UInt16 × bo × bo × Unit):Option AV:=if cr x.2.1∧cr x.2.2.1 then some ((r1 az).E true (vw x.1 x.2.1 x.2.2.1)) else none
set_option maxRecDepth 2000000 in
theorem Xr (x:UInt16 × bo × bo × Unit) (r:AV) (h:Bo x=some r):bc PP 155 ((aC cw (aC ay (aC ay a0))).E x) r:=by
 by_cases hc:cr x.2.1∧cr x.2.2.1
 case neg=>simp only [Bo,if_neg hc] at h;cases h
 simp only [Bo,if_pos hc] at h
 cases h
 exact au (ak.cons (aj Al) (ak.cons (aj Dj) (ak.nil PP))) Tryz.func155 (by kernel_rfl) (by kernel_rfl) (by kernel_rfl) (Nat.le_of_ble_eq_true (by kernel_rfl)) (r1 az) true (vw x.1 x.2.1 x.2.2.1) (ae2 x.1 x.2.1 x.2.2.1 hc.1 hc.2)
noncomputable abbrev aql:Nat × Bool × (List AV→M AV):=(155,true,cx (aC cw (aC ay (aC ay a0))) Bo)
end Go.Proofs.YtgencolcibpcaaaGreat
end
section
set_option maxRecDepth 100000
namespace Go.Vm
variable [TK]
noncomputable section
theorem Mj {α:Type} (C:dh α) (fr:Bool) (h:Tr bh) (l:List AV) (ha:C.agg=true):C.dec fr h l=C.fq fr h (.agg l):=by
 rw [wc _ _ _ _ rfl (by rw [ha];rfl)];rfl
theorem ajw {α β:Type} (A:dh α) (B:dh β) (fr:Bool) (h:Tr bh) (l:List AV):(jq A B).dec fr h l=match A.dec fr h (l.take A.sz),B.dec fr h (l.drop A.sz) with|some x,some y=>some (x,y)|_,_=>none:=rfl
theorem Yo {α:Type} (C:dh α) (fr h) (x:AV):(br C).dec fr h [x]=ij C fr h x:=rfl
theorem Ym (fr h) (x:AV):aq.dec fr h [x]=ij ai fr h x:=rfl
theorem Po {P:Program} {T:ec} {l:Nat} {aw:Nat} {L:SL} {st:St} {Q:QI} {ps:List Tmp} {ra rb:Code} {L0:SL} {α:Type} {b:Code} (keep:List Nat) (V : α→List AV) (O : α→List (Option bh)) (I : α→Prop) (μ : α→Nat) (x : α) (hx:I x)
 (hv:ir aw (gi aw keep L st) (ep aw keep L st) (V x) (O x))
 (step:∀ x,I x→oa P T l (mb ps (fun p=>wl P T p ra) (fun p=>wl P T p rb) L0) aw b (x7 (uq aw keep (fun vs os=>∃ y,I y ∧ μ y < μ x∧vs=V y∧os=O y) (fun _ _ _=>False)) Q) none (gu keep (V x)) (bk (O x))):oa P T l (mb ps (fun p=>wl P T p ra) (fun p=>wl P T p rb) L0) aw (.loop b) Q none L st:=by
 have mono:∀ (Q1 Q2:QL),(∀ e L st,Q1 e L st→Q2 e L st)→∀ L st,oa P T l (mb ps (fun p=>wl P T p ra) (fun p=>wl P T p rb) L0) aw b (x7 Q1 Q) none L st→oa P T l (mb ps (fun p=>wl P T p ra) (fun p=>wl P T p rb) L0) aw b (x7 Q2 Q) none L st:=fun Q1 Q2 h L st hh=>O3 (Nl P T) b _ _ (fun e pe L st q=>by
  cases e with
  |normal=>exact ⟨q.1,h _ _ _ q.2⟩
  |ret=>exact q
  |exit i=>exact q) none L st hh
 refine ⟨rfl,qo.arb (B:=fun Q' L st=>oa P T l _ aw b (x7 Q' Q) none L st) keep V O I μ x hx hv mono (fun x hi=>mono _ _ (fun e L' st' hq=>?_) _ _ (step x hi))⟩
 cases e with
 |normal=>
  obtain ⟨y,h1,h2,h3,h4⟩:=hq
  refine ⟨y,h1,h2,?_⟩
  rw [h3,h4];exact .refl _ _ _
 |exit i=>exact hq.elim
 |ret=>exact hq.elim
theorem Ih (k fr h n cells kk st et) (hn:n=cells.length) (hro:B8 fr st 1 (.int k) et=true):kq (ba k) fr h 0 n (.row cells kk st et)=oq (ba k) fr h cells:=uy (ba k) rfl fr h n cells kk st et hn hro
def iq (n:Nat) (r:AV) (st:St):List Nat:=reach st.h fe (r.names++mz st.h (dx 0 n)) (dx 0 n)
def jf (n:Nat) (r:AV) (st:St):AV:=r.dr (fun o=>idx (iq n r st) o 0)
def jb (n:Nat) (r:AV) (st:St):St:=bk (ju st.h (fun o=>idx (iq n r st) o 0) (iq n r st))
theorem ahe {g g':Gh} {st st':St} {w w':World} {r:AV} {v:Value} (hn:st.nx≤1000) (hfr:∀ o,st.nx≤o→g.inj o=none) (hs:Step g st.h w st.nx st'.nx g' st'.h w') (hok:Ok g' st'.h w') (hr:Rel g' w' r v) :
 ∃ g'',st.nx≤(jb st.nx r st').nx∧Step g st.h w st.nx (jb st.nx r st').nx g'' (jb st.nx r st').h w'∧Ok g'' (jb st.nx r st').h w'∧Rel g'' w' (jf st.nx r st') v:=by
 have hN:=wu st'.h fe (r.names++mz st'.h (dx 0 st.nx)) (dx 0 st.nx) (ox _ _)
 change (iq st.nx r st').Nodup∧(∃ q,iq st.nx r st'=dx 0 st.nx++q)∧(iq st.nx r st').length≤_ at hN
 have hτ:∀ o p,(fun o=>idx (iq st.nx r st') o 0) o=some p→(iq st.nx r st')[p]? = some o:=fun o p h=>Ug _ o p h
 unfold jb jf
 generalize iq st.nx r st'=N at hN hτ
 obtain ⟨hnd,⟨rest,hpre⟩,hlen⟩:=hN
 rw [iw] at hlen
 have hlim:N.length≤dk:=by simp only [fe,dk] at *;omega
 have ed:∀ i x,(bk (ju st'.h (fun o=>idx N o 0) N)).h.get i=some x→∃ o y,N[i]? = some o∧st'.h.get o=some y∧y.dr (fun o=>idx N o 0)=some x:=by
  intro i x hx
  simp only [bk] at hx
  rw [ud _ _ _ (by rw [iu];omega),if_pos (Nat.zero_le _),Nat.sub_zero,u1] at hx
  cases hi:N[i]? with
  |none=>rw [hi] at hx;cases hx
  |some o=>
   rw [hi] at hx
   simp only [Option.map_some,Option.join_some] at hx
   cases hy:st'.h.get o with
   |none=>rw [hy] at hx;cases hx
   |some y=>rw [hy] at hx;exact ⟨o,y,rfl,hy,hx⟩
 have hinj:∀ i o,N[i]? = some o→(g'.dr N).inj i=g'.inj o:=fun i o h=>by simp [Gh.dr,h]
 have hlow:∀ o,o<st.nx→N[o]? = some o:=fun o ho=>by rw [hpre,List.getElem?_append_left (by rw [iw];exact ho),Cl _ _ _ ho,Nat.zero_add]
 have hnx:(bk (ju st'.h (fun o=>idx N o 0) N)).nx=N.length:=by simp only [bk,iu]
 have hle:st.nx≤N.length:=by rw [hpre,List.length_append,iw];omega
 rw [hnx]
 refine ⟨g'.dr N,hle,⟨⟨hs.ext.b0,fun o p ho=>?_,hs.ext.K,hs.ext.cell,hs.ext.rn,hs.ext.lp,hs.ext.whole⟩,hs.size,hs.os,hs.tape,hs.output,hs.frame,fun o ho hr=>?_,fun i b base hi hj=>?_,hs.oh⟩,⟨hok.size,fun i x hx=>?_,fun i j x y b base base' hij hx hy hb hb'=>?_,hok.K⟩,hr.dr hτ⟩
 ·have hlt:o<st.nx:=by
   rcases Nat.lt_or_ge o st.nx with h|h
   ·exact h
   ·rw [hfr o h] at ho;cases ho
  rw [hinj o o (hlow o hlt)];exact hs.ext.inj o p ho
 ·rcases Nat.lt_or_ge o st.nx with h|h
  ·rw [hinj o o (hlow o h)];exact hs.fresh o ho (by omega)
  ·simp [Gh.dr,List.getElem?_eq_none (show N.length≤o by omega)]
 ·obtain ⟨x,hx⟩:=Option.isSome_iff_exists.1 hi
  obtain ⟨o,y,h1,h2,_⟩:=ed i x hx
  rw [hinj i o h1] at hj
  exact hs.own o b base (by rw [h2];rfl) hj
 ·obtain ⟨o,y,h1,h2,h3⟩:=ed i x hx
  refine (hok.qi o y h2).imp (fun q=>⟨by rw [hinj i o h1];exact q.1,by obtain ⟨s0,e0,rfl⟩:=q.2;simp only [bh.dr,AV.dr.go,Option.some.injEq] at h3;exact ⟨s0,e0,h3.symm⟩⟩) ?_
  rintro ⟨b,base,q1,q2,q3⟩
  exact ⟨b,base,by rw [hinj i o h1];exact q1,q2,q3.dr hτ h3⟩
 ·obtain ⟨o,y1,h1,h2,_⟩:=ed i x hx
  obtain ⟨o',y2,h1',h2',_⟩:=ed j y hy
  rw [hinj i o h1] at hb
  rw [hinj j o' h1'] at hb'
  have hne:o≠o':=by
   intro e
   subst e
   obtain ⟨hi,ei⟩:=List.getElem?_eq_some_iff.1 h1
   obtain ⟨hj,ej⟩:=List.getElem?_eq_some_iff.1 h1'
   exact hij ((List.getElem_inj hnd).1 (ei.trans ej.symm))
  exact hok.sep o o' _ _ b base base' hne h2 h2' hb hb'
theorem er {P:Program} {f:Nat} {args:List AV} {st:St} {R:AV→St→Prop} (R0:AV→St→Prop) (hn:Nat.ble st.nx 1000=true) (h1:xo P f args st (fun r st'=>R0 (jf st.nx r st') (jb st.nx r st'))) (h2:∀ r st',R0 r st'→R r st'):xo P f args st R:=by
 intro g w vs hok hfr hrel
 rcases h1 g w vs hok hfr hrel with ⟨v,w',g',r,st',q1,q2,q3,q4,q5,q6⟩|⟨q1,q2⟩
 ·obtain ⟨g'',p1,p2,p3,p4⟩:=ahe (Nat.le_of_ble_eq_true hn) hfr q4 q5 q6
  exact .inl ⟨v,w',g'',_,_,q1,h2 _ _ q2,p1,p2,p3,p4⟩
 ·refine .inr ⟨q1,q2.mono ?_⟩
  rintro e w' ⟨v,g',r,st',rfl,q2,q3,q4,q5,q6⟩
  obtain ⟨g'',p1,p2,p3,p4⟩:=ahe (Nat.le_of_ble_eq_true hn) hfr q4 q5 q6
  exact ⟨v,g'',_,_,rfl,h2 _ _ q2,p1,p2,p3,p4⟩
theorem I0 (l) (n:Name):jn (aq.val l n)=some n.length:=by
 rw [cq];show some (List.map (ai.val l) n).length=_;rw [List.length_map]
theorem afz (a b:Operand):(#[a]++(none:Option Operand).toArray++(some b).toArray++(none:Option Operand).toArray).toList=[a,b]:=id rfl
theorem md8 (a:Nat):a * 8 / 8=a:=by omega
theorem dv4 : 4 / 4=1:=rfl
theorem dv5 : 5 / 5=1:=rfl
theorem dv8 : 8 / 8=1:=rfl
theorem ahk (k fr h n):(ba k).dec fr h [.sc (.int k n)]=some n:=(ba k).rt fr h true n (fun _=>rfl)
theorem Im (l:Bool) (d:bo):(ay.val l d).cells=[.vl l 1 (d.names.map (aq.val l)),.vl l 1 (d.nums.map (cg.val l)),.vl l 1 (d.texts.map (ai.val l)),.vl l 1 (d.raw.map (bg.val l))]:=id rfl
theorem Le (fr h l) (n:Name) (hl:(l || !fr)=true):ij ai fr h (aq.val l n)=some n:=sx ai fr h l n 1 rfl hl
def abk {α:Type} (C:dh α) (h:Tr bh) (off:Nat) (x:bh):Option α:=
 match x with
 |.row cells _ _ _=>bif Nat.ble (off+C.sz) cells.length then C.dec false h ((cells.drop off).take C.sz) else none
 |_=>none
def To {α:Type} (C:dh α) (h:Tr bh) (a:AV):Option α:=
 match a with
 |.ft l=>bif Nat.ble C.sz l.length then C.dec false h (l.take C.sz) else none
 |.ptr o off=>(h.get o).bind (abk C h off)
 |_=>none
theorem O8 {α:Type} (C:dh α) (h o off):To C h (.ptr o off)=(h.get o).bind (abk C h off):=id rfl
theorem W2 {α:Type} (C:dh α) (h l):To C h (.ft l)=bif Nat.ble C.sz l.length then C.dec false h (l.take C.sz) else none:=id rfl
theorem Pc {α:Type} (C:dh α) (h off cells k s e):abk C h off (.row cells k s e)=bif Nat.ble (off+C.sz) cells.length then C.dec false h ((cells.drop off).take C.sz) else none:=id rfl
theorem auh {α:Type} (C:dh α) {g h w K b0 a v x} (hok:Ok g h w) (hl:v7 g h K) (hr:Rel g w a v) (hd:To C h a=some x):Rel (gK b0 K) w (.ft (C.cells false x)) v:=by
 have fin:∀ (b off:Nat) (vs:List Value),bp g w ((C.cells false x).map fun _=>AV.bad) vs→bp (gK b0 K) w (C.cells false x) vs→(∀ j u,vs[j]? = some u→K b (off+j)∧w.cell? ⟨b,off+j,none⟩=some u)→Rel (gK b0 K) w (.ft (C.cells false x)) (.pointer (some ⟨b,off,none⟩)):=by
  intro b off vs _ hrl hc
  refine .ft _ b off (fun j=>vs.getD j undef) (fun j a hj=>?_) (fun j a hj=>?_)
  ·obtain ⟨u,hu,_⟩:=hrl.get hj
   have:=hc j u hu
   exact ⟨this.1,by rw [this.2,List.getD_eq_getElem?_getD,hu];rfl⟩
  ·obtain ⟨u,hu,hrel⟩:=hrl.get hj
   show Rel _ _ a (vs.getD j undef)
   rw [List.getD_eq_getElem?_getD,hu];exact hrel
 have bads:∀ vs:List Value,bp (gK b0 K) w (C.cells false x) vs→bp g w ((C.cells false x).map fun _=>AV.bad) vs:=fun vs h=>⟨by simpa using h.1,fun i a v ha _=>by
  rw [List.getElem?_map,Option.map_eq_some_iff] at ha
  obtain ⟨_,_,rfl⟩:=ha
  exact .bad _⟩
 cases hr with
 |ft l b off c h1 h2=>
  rw [W2] at hd
  cases hb:Nat.ble C.sz l.length with
  |false=>rw [hb] at hd;cases hd
  |true=>
   rw [hb,cond_true] at hd
   have hle:=Nat.le_of_ble_eq_true hb
   have hlist:bp g w (l.take C.sz) (jk 0 C.sz c):=by
    refine ⟨by simp [jk];omega,fun i a v ha hv=>?_⟩
    rw [List.getElem?_take] at ha
    by_cases hi:i<C.sz
    ·rw [if_pos hi] at ha
     simp only [jk,List.getElem?_map,List.getElem?_range hi,Option.map_some,Option.some.injEq,Nat.zero_add] at hv
     subst hv
     exact h2 i a ha
    ·rw [if_neg hi] at ha;cases ha
   have q:=C.ok (b0:=b0) hok hl (fun e=>by cases e) hlist hd
   refine fin b off _ (bads _ q) q (fun j u hu=>?_)
   have hj:j<C.sz:=by have:=(List.getElem?_eq_some_iff.1 hu).1;simpa [jk] using this
   simp only [jk,List.getElem?_map,List.getElem?_range hj,Option.map_some,Option.some.injEq,Nat.zero_add] at hu
   subst hu
   have:=h1 j _ (List.getElem?_eq_getElem (by omega))
   exact ⟨hl.K _ _ this.1,this.2⟩
 |ptr o off b base hi=>
  rw [O8,Option.bind_eq_some_iff] at hd
  obtain ⟨y,hy,hd⟩:=hd
  obtain ⟨b',base',hi',hbb,hrow⟩:=hok.obj o y hy
  rw [hi] at hi';cases hi'
  cases y with
  |map es=>cases hd
  |loop=>cases hd
  |row cells k st et=>
   rw [Pc] at hd
   cases hle:Nat.ble (off+C.sz) cells.length with
   |false=>rw [hle] at hd;cases hd
   |true=>
    rw [hle,cond_true] at hd
    have hle':=Nat.le_of_ble_eq_true hle
    obtain ⟨cs,fz,r1,r2,r3,_⟩:=hrow
    have hpart:bp g w ((cells.drop off).take C.sz) (jk (base+off) C.sz (fun j=>cs.getD j undef)):=by
     refine ⟨by simp [jk];omega,fun i a v ha hv=>?_⟩
     rw [List.getElem?_take,List.getElem?_drop] at ha
     by_cases hil:i<C.sz
     ·rw [if_pos hil] at ha
      obtain ⟨u,hu,hrel⟩:=r3 _ a ha
      simp only [jk,List.getElem?_map,List.getElem?_range hil,Option.map_some,Option.some.injEq] at hv
      subst hv
      rw [Array.getD_eq_getD_getElem?,Nat.add_assoc,hu]
      exact hrel
     ·rw [if_neg hil] at ha;cases ha
    have q:=C.ok (b0:=b0) hok hl (fun e=>by cases e) hpart hd
    refine fin b (base+off) _ (bads _ q) q (fun j u hv=>?_)
    have hj:j<C.sz:=by have:=(List.getElem?_eq_some_iff.1 hv).1;simpa [jk] using this
    simp only [jk,List.getElem?_map,List.getElem?_range hj,Option.map_some,Option.some.injEq] at hv
    obtain ⟨u,hu,_⟩:=r3 (off+j) (cells[off+j]'(by omega)) (by simp)
    have hrows:=hl.rows o cells k st et hy b base hi (off+j) (.inr (by omega))
    rw [← Nat.add_assoc] at hrows hu
    refine ⟨hrows,?_⟩
    rw [iy r1,hu,← hv,Array.getD_eq_getD_getElem?,hu]
    rfl
 |_=>cases hd
def aP {α β:Type} (C:dh α) (R:AC β):AC (α × β) where
 E p:=.ft (C.cells false p.1)::R.E p.2
 D h l:=match l with
  | []=>none
  |a::r=>match To C h a,R.D h r with
   |some x,some y=>some (x,y)
   |_,_=>none
 rt h p:=by
  have:To C h (.ft (C.cells false p.1))=some p.1:=by
   rw [W2,C.len,Nat.ble_self_eq_true,cond_true,List.take_of_length_le (by rw [C.len];exact Nat.le_refl _)]
   exact C.rt false h false p.1 (fun e=>by cases e)
  simp only [this,R.rt]
 ok:=by
  intro g h w K b0 l vs x hok hl hr hd
  match l,hd with
  |a::r,hd=>
   simp only at hd
   split at hd
   ·rename_i x1 y1 hx hy
    simp at hd;subst hd
    match vs,hr with
    | [],hr=>have:=hr.1;simp at this
    |v::vs,hr=>exact bp.cons (auh C hok hl hr.head hx) (R.ok hok hl hr.tail hy)
   ·cases hd
theorem avb {α β:Type} (C:dh α) (R:AC β) (h:Tr bh) (a:AV) (r:List AV):(aP C R).get h (a::r)=match To C h a,R.get h r with|some x,some y=>some (x,y)|_,_=>none:=id rfl
theorem Ij (f) (l:List bo) (d:bo):cellsOf ay f (l++[d])=cellsOf ay f l++[.vl f 1 (d.names.map (aq.val f)),.vl f 1 (d.nums.map (cg.val false)),.vl f 1 (d.texts.map (ai.val false)),.vl f 1 (d.raw.map (bg.val false))]:=by rw [E2,E1];rfl
structure bf where
 owner:Name
 type:UInt16
 cls:UInt16
 gm:UInt32
 data:List bo
def mkS (owner:Name) (type:UInt16) (cls:UInt16) (gm:UInt32) (data:List bo):bf:=⟨owner,type,cls,gm,data⟩
theorem ag2 (x:bf):mkS x.owner x.type x.cls x.gm x.data=x:=id rfl
def ar:dh bf:=yj (jq aq (jq cw (jq cw (jq cg (br ay))))) (fun x=>(x.owner,x.type,x.cls,x.gm,x.data)) (fun p=>⟨p.1,p.2.1,p.2.2.1,p.2.2.2.1,p.2.2.2.2⟩) (fun _=>rfl) (fun _=>rfl)
theorem gy (l:Bool) (x:bf):ar.val l x = .agg [.vl l 1 (x.owner.map (ai.val l)),.sc (.int .u16 x.type.toNat),.sc (.int .u16 x.cls.toNat),.sc (.int .u32 x.gm.toNat),.vl l 4 (x.data.map (ay.val l))]:=id rfl
theorem Vu:ar.sz=5:=id rfl
theorem S5 (fr:Bool) (h:Tr bh) (y0 y1 y2 y3 y4:AV):ar.fq fr h (.agg [y0,y1,y2,y3,y4])=match ij ai fr h y0,cw.dec fr h [y1],cw.dec fr h [y2],cg.dec fr h [y3],ij ay fr h y4 with
 |some v0,some v1,some v2,some v3,some v4=>some (mkS v0 v1 v2 v3 v4)
 |_,_,_,_,_=>none:=by
 rw [wc _ _ _ _ rfl rfl]
 have h1:ar.dec fr h (AV.agg [y0,y1,y2,y3,y4]).cells=Option.map (fun p=>(⟨p.1,p.2.1,p.2.2.1,p.2.2.2.1,p.2.2.2.2⟩:bf)) ((jq aq (jq cw (jq cw (jq cg (br ay))))).dec fr h [y0,y1,y2,y3,y4]):=rfl
 rw [h1]
 simp only [ajw,zw,rr,Eo,xe,Cd,wq,List.take_succ_cons,List.take_zero,List.drop_succ_cons,List.drop_zero,Yo,Ym]
 cases (ij ai fr h y0)<;>cases (cw.dec fr h [y1])<;>cases (cw.dec fr h [y2])<;>cases (cg.dec fr h [y3])<;>cases (ij ay fr h y4)<;>rfl
theorem C0 (l) (xs:List bf) (x:bf):cellsOf ar l (xs++[x])=cellsOf ar l xs++[.vl l 1 (x.owner.map (ai.val false)),.sc (.int .u16 x.type.toNat),.sc (.int .u16 x.cls.toNat),.sc (.int .u32 x.gm.toNat),.vl l 4 (x.data.map (ay.val l))]:=by rw [E2,E1];rfl
structure lu where
 owner:Name
 type:UInt16
 cls:UInt16
 gm:UInt32
 data:bo
def mkR (owner:Name) (type:UInt16) (cls:UInt16) (gm:UInt32) (data:bo):lu:=⟨owner,type,cls,gm,data⟩
theorem afw (x:lu):mkR x.owner x.type x.cls x.gm x.data=x:=id rfl
def dv:dh lu:=yj (jq aq (jq cw (jq cw (jq cg ay)))) (fun x=>(x.owner,x.type,x.cls,x.gm,x.data)) (fun p=>⟨p.1,p.2.1,p.2.2.1,p.2.2.2.1,p.2.2.2.2⟩) (fun _=>rfl) (fun _=>rfl)
theorem Hw (l:Bool) (x:lu):dv.val l x = .agg [.vl l 1 (x.owner.map (ai.val l)),.sc (.int .u16 x.type.toNat),.sc (.int .u16 x.cls.toNat),.sc (.int .u32 x.gm.toNat),.vl l 1 (x.data.names.map (aq.val l)),.vl l 1 (x.data.nums.map (cg.val l)),.vl l 1 (x.data.texts.map (ai.val l)),.vl l 1 (x.data.raw.map (bg.val l))]:=id rfl
theorem Wn:dv.sz=8:=id rfl
theorem Qu (fr:Bool) (h:Tr bh) (y0 y1 y2 y3 y40 y41 y42 y43:AV):dv.fq fr h (.agg [y0,y1,y2,y3,y40,y41,y42,y43])=match ij ai fr h y0,cw.dec fr h [y1],cw.dec fr h [y2],cg.dec fr h [y3],ay.fq fr h (.agg [y40,y41,y42,y43]) with
 |some v0,some v1,some v2,some v3,some v4=>some (mkR v0 v1 v2 v3 v4)
 |_,_,_,_,_=>none:=by
 rw [wc _ _ _ _ rfl rfl]
 have h1:dv.dec fr h (AV.agg [y0,y1,y2,y3,y40,y41,y42,y43]).cells=Option.map (fun p=>(⟨p.1,p.2.1,p.2.2.1,p.2.2.2.1,p.2.2.2.2⟩:lu)) ((jq aq (jq cw (jq cw (jq cg ay)))).dec fr h [y0,y1,y2,y3,y40,y41,y42,y43]):=rfl
 rw [h1]
 simp only [ajw,zw,rr,Eo,xe,Cd,wq,List.take_succ_cons,List.take_zero,List.drop_succ_cons,List.drop_zero,Yo,Ym,Hr,Mj ay fr h _ rfl]
 cases (ij ai fr h y0)<;>cases (cw.dec fr h [y1])<;>cases (cw.dec fr h [y2])<;>cases (cg.dec fr h [y3])<;>cases (ay.fq fr h (.agg [y40,y41,y42,y43]))<;>rfl
theorem M0 (f) (l:List lu):(l.map (dv.val f)).flatMap AV.cells=cellsOf dv f l:=Ha dv f l
theorem Ko (l) (xs:List lu) (x:lu):cellsOf dv l (xs++[x])=cellsOf dv l xs++[.vl l 1 (x.owner.map (ai.val false)),.sc (.int .u16 x.type.toNat),.sc (.int .u16 x.cls.toNat),.sc (.int .u32 x.gm.toNat),.vl l 1 (x.data.names.map (aq.val l)),.vl l 1 (x.data.nums.map (cg.val false)),.vl l 1 (x.data.texts.map (ai.val false)),.vl l 1 (x.data.raw.map (bg.val false))]:=by rw [E2,E1];rfl
structure be where
 origin:Name
 ah:List bf
def mkZ (origin:Name) (ah:List bf):be:=⟨origin,ah⟩
theorem af6 (x:be):mkZ x.origin x.ah=x:=id rfl
def ca:dh be:=yj (jq aq (br ar)) (fun x=>(x.origin,x.ah)) (fun p=>⟨p.1,p.2⟩) (fun _=>rfl) (fun _=>rfl)
theorem fi (l:Bool) (x:be):ca.val l x = .agg [.vl l 1 (x.origin.map (ai.val l)),.vl l 5 (x.ah.map (ar.val l))]:=id rfl
theorem Ag (l:Bool) (x:be):ca.cells l x=[.vl l 1 (x.origin.map (ai.val l)),.vl l 5 (x.ah.map (ar.val l))]:=id rfl
theorem G8:ca.sz=2:=id rfl
theorem Fc (fr:Bool) (h:Tr bh) (y0 y1:AV):ca.fq fr h (.agg [y0,y1])=match ij ai fr h y0,ij ar fr h y1 with
 |some v0,some v1=>some (mkZ v0 v1)
 |_,_=>none:=by
 rw [wc _ _ _ _ rfl rfl]
 have h1:ca.dec fr h (AV.agg [y0,y1]).cells=Option.map (fun p=>(⟨p.1,p.2⟩:be)) ((jq aq (br ar)).dec fr h [y0,y1]):=rfl
 rw [h1]
 simp only [ajw,zw,rr,Eo,xe,Cd,wq,List.take_succ_cons,List.take_zero,List.drop_succ_cons,List.drop_zero,Yo,Ym]
 cases (ij ai fr h y0)<;>cases (ij ar fr h y1)<;>rfl
theorem Jo (fr:Bool) (h:Tr bh) (y0 y1:AV):ca.dec fr h [y0,y1]=match ij ai fr h y0,ij ar fr h y1 with
 |some v0,some v1=>some (mkZ v0 v1)
 |_,_=>none:=(Mj ca fr h _ rfl).trans (Fc fr h y0 y1)
structure ar8 where
 addr:UInt32
 ah6:List Int
structure Zi where
 ah6:List be
 aw5:List ar8
 hints:List UInt32
structure Yq where
 kind:Int
 node:Name
 aga:Name
def mkP (kind:Int) (node:Name) (aga:Name):Yq:=⟨kind,node,aga⟩
structure aiz where
 turn:Int
 ah:List bf
 to:Name
def Z7 (turn:Int) (ah:List bf) (to:Name):aiz:=⟨turn,ah,to⟩
structure sg where
 z:be
 e:Int
def mkL (z:be) (e:Int):sg:=⟨z,e⟩
theorem asw (z e):(mkL z e).z=z:=id rfl
def lh:dh sg:=yj (jq ca (ba .i64)) (fun x=>(x.z,x.e)) (fun p=>⟨p.1,p.2⟩) (fun _=>rfl) (fun _=>rfl)
theorem zy (l:Bool) (x:sg):lh.cells l x=[.vl l 1 (x.z.origin.map (ai.val l)),.vl l 5 (x.z.ah.map (ar.val l)),.sc (.int .i64 x.e)]:=id rfl
theorem Pz:lh.sz=3:=id rfl
theorem ae9 (fr:Bool) (h:Tr bh) (y00 y01 y1:AV):lh.fq fr h (.agg [y00,y01,y1])=match ca.fq fr h (.agg [y00,y01]),(ba .i64).dec fr h [y1] with
 |some v0,some v1=>some (mkL v0 v1)
 |_,_=>none:=by
 rw [wc _ _ _ _ rfl rfl]
 have h1:lh.dec fr h (AV.agg [y00,y01,y1]).cells=Option.map (fun p=>(⟨p.1,p.2⟩:sg)) ((jq ca (ba .i64)).dec fr h [y00,y01,y1]):=rfl
 rw [h1]
 simp only [ajw,zw,rr,Eo,xe,Cd,wq,List.take_succ_cons,List.take_zero,List.drop_succ_cons,List.drop_zero,Yo,Ym,G8,Mj ca fr h _ rfl]
 cases (ca.fq fr h (.agg [y00,y01]))<;>cases ((ba .i64).dec fr h [y1])<;>rfl
theorem Jr (fr:Bool) (h:Tr bh) (y00 y01 y1:AV):lh.dec fr h [y00,y01,y1]=match ca.fq fr h (.agg [y00,y01]),(ba .i64).dec fr h [y1] with
 |some v0,some v1=>some (mkL v0 v1)
 |_,_=>none:=(Mj lh fr h _ rfl).trans (ae9 fr h y00 y01 y1)
structure Jj where
 ar2:Int
 aa:Bool
 answer:List bf
 authority:List bf
 G3:List bf
def Vc (ar2:Int) (aa:Bool) (answer:List bf) (authority:List bf) (G3:List bf):Jj:=⟨ar2,aa,answer,authority,G3⟩
theorem ae:type_of% @I0∧type_of% @Ih∧type_of% @afz∧type_of% @md8∧type_of% @dv4∧type_of% @dv5∧type_of% @dv8∧type_of% @ahk∧type_of% @O8∧type_of% @Pc∧type_of% @avb∧type_of% @Le∧type_of% @Im∧type_of% @Nu∧type_of% @Ax∧type_of% @ow∧type_of% @ag2∧type_of% @gy∧type_of% @Vu∧type_of% @S5∧type_of% @afw∧type_of% @Hw∧type_of% @Wn∧type_of% @Qu∧type_of% @M0∧type_of% @af6∧type_of% @Jo∧type_of% @fi∧type_of% @G8∧type_of% @Fc∧type_of% @asw∧type_of% @Jr∧type_of% @Pz:=
 ⟨@I0,@Ih,@afz,@md8,@dv4,@dv5,@dv8,@ahk,@O8,@Pc,@avb,@Le,@Im,@Nu,@Ax,@ow,@ag2,@gy,@Vu,@S5,@afw,@Hw,@Wn,@Qu,@M0,@af6,@Jo,@fi,@G8,@Fc,@asw,@Jr,@Pz⟩
end
end Go.Vm
end
section
namespace Go.Proofs.YtgencolcibpcaaaGreat
open Go.Vm
set_option maxRecDepth 2000000
noncomputable def zj (t:UInt16) (l:List bo) (d:bo):Bool:=l.any fun x=>vw t x d
theorem awg (t:UInt16) (l:List bo) (d:bo) (hl:∀ x ∈ l,cr x) (hn:l.length≤16777216) (hd:cr d):wl PP [] 0 (Tryz.f112.body.getD .skip) (db PP Tryz.f112.results.toList (fun r st=>(r1 az).get true st.h r=some (zj t l d))) (cd 0 [cw.val false t,(br ay).val false l,ay.val false d]) (bk []):=by
 unfold Tryz.f112
 simp only [k7,fy]
 simp only [↓wR,RA,simprocAttr,TF,ae]
 refine c8 (T:=[]) (ak.nil PP) mixed Tryz.func153 rfl (by kernel_rfl) (by kernel_rfl) (by kernel_rfl) (by kernel_rfl) ?_;unfold Tryz.f153
 simp only [↓wR,RA,simprocAttr,TF,ae]
 refine c8 (T:=[]) (ak.nil PP) mixed Tryz.func180 rfl (by kernel_rfl) (by kernel_rfl) (by kernel_rfl) (by kernel_rfl) ?_;unfold Tryz.f180
 simp only [↓wR,RA,simprocAttr,TF,ae]
 refine dp [0,1,7,8] (fun (i:Nat)=>[.vl false 4 (l.map (ay.val false)),.fn (.func 154) [] [.ptr 0 0,.ptr 1 0],.sc (.int .i64 (l.length)),.sc (.int .i64 (i))]) (fun _=>[some (.row [.sc (.int .u16 t.toNat)] 0 2 26),some (.row [.vl false 1 (d.names.map (aq.val false)),.vl false 1 (d.nums.map (cg.val false)),.vl false 1 (d.texts.map (ai.val false)),.vl false 1 (d.raw.map (bg.val false))] 0 2 101)]) (fun i=>i≤l.length∧zj t l d=zj t (l.drop i) d) (fun i=>l.length - i) 0 ⟨Nat.zero_le _,rfl⟩ (by simp only [↓wR,RA,simprocAttr,TF,ae]<;>rfl) (by simp only [↓wR,RA,simprocAttr,TF,ae]<;>rfl) ?_
 rintro i ⟨hi,hx⟩
 simp only [↓wR,RA,simprocAttr,TF,ae]
 rw [bb];refine ⟨fun h=>?_,fun h=>?_⟩
 ·obtain ⟨c,hc,hd1,hlt⟩:=dq (decide_eq_true h)
  have hx':zj t l d=(vw t c d || zj t (l.drop (i+1)) d):=by rw [hx,hd1];rfl
  simp only [↓wR,RA,simprocAttr,TF,ae,h,hc];repeat (simp (disch:=omega) only [ag,bz,b9,bu,bw];try simp only [↓wR,RA,simprocAttr,TF,ae,h,hc])
  refine c8 (T:=[aql]) (ak.cons (aj Xr) (ak.nil PP)) mixed Tryz.func154 rfl (by kernel_rfl) (by kernel_rfl) (by kernel_rfl) (by kernel_rfl) ?_;unfold Tryz.f154
  simp only [↓wR,RA,simprocAttr,TF,ae,Bo,hl c (List.mem_of_getElem? hc),hd]
  rw [cy];refine ⟨fun h1=>?_,fun h1=>?_⟩
  ·rw [h1,Bool.true_or] at hx'
   simp only [↓wR,RA,simprocAttr,TF,ae,h1]
   rw [hx']
   done
  ·rw [h1,Bool.false_or] at hx'
   simp only [↓wR,RA,simprocAttr,TF,ae,h1];repeat (simp (disch:=omega) only [ag,bz,b9,bu,bw];try simp only [↓wR,RA,simprocAttr,TF,ae,h1])
   exact ⟨i+1,⟨hlt,hx'⟩,by omega,by (first|rfl|trivial|omega|((try (simp (disch:=omega) only [ag]));(try (simp only [FB]));first|done|rfl|omega))⟩
 ·rw [en (decide_eq_false h)] at hx
  simp only [↓wR,RA,simprocAttr,TF,ae,h]
  rw [hx];rfl
def mf (l:List bo):Prop:=ik xw l≤16777216
instance (l:List bo):Decidable (mf l):=inferInstanceAs (Decidable (_≤_))
theorem mf.mem {l:List bo} (h:mf l):∀ x ∈ l,cr x:=fun x hx=>by
 have h1:xw x<ik xw l:=F3 hx
 unfold mf at h;unfold cr;omega
theorem mf.len {l:List bo} (h:mf l):l.length≤16777216:=Nat.le_trans (zt xw l) h
theorem Pe {α:Type} (f : α→Nat) (l:List α) (i:Nat):ik f (l.take i)≤ik f l:=by
 induction l generalizing i with
 |nil=>simp
 |cons a l ih=>
  cases i with
  |zero=>exact Nat.zero_le _
  |succ i=>have:=ih i;simp only [ik,List.take_succ_cons,List.foldr_cons] at this ⊢;omega
theorem mf.take {l:List bo} (h:mf l) (i:Nat):mf (l.take i):=Nat.le_trans (Pe xw l i) h
noncomputable def Sk (x:UInt16 × List bo × bo × Unit):Option AV:=if mf x.2.1∧cr x.2.2.1 then some ((r1 az).E true (zj x.1 x.2.1 x.2.2.1)) else none
set_option maxRecDepth 2000000 in
theorem aok (x:UInt16 × List bo × bo × Unit) (r:AV) (h:Sk x=some r):bc PP 112 ((aC cw (aC (br ay) (aC ay a0))).E x) r:=by
 by_cases hc:mf x.2.1∧cr x.2.2.1
 case neg=>simp only [Sk,if_neg hc] at h;cases h
 simp only [Sk,if_pos hc] at h
 cases h
 exact au (ak.nil PP) Tryz.func112 (by kernel_rfl) (by kernel_rfl) (by kernel_rfl) (Nat.le_of_ble_eq_true (by kernel_rfl)) (r1 az) true (zj x.1 x.2.1 x.2.2.1) (awg x.1 x.2.1 x.2.2.1 hc.1.mem hc.1.len hc.2)
noncomputable abbrev aye:Nat × Bool × (List AV→M AV):=(112,true,cx (aC cw (aC (br ay) (aC ay a0))) Sk)
def nl (s:bf):Nat:=cf s.owner+ik xw s.data
def dg (s:bf):Prop:=nl s≤16777216
instance (s:bf):Decidable (dg s):=inferInstanceAs (Decidable (_≤_))
theorem dg.owner {s:bf} (h:dg s):bj s.owner:=by unfold dg nl at h;unfold bj;omega
theorem dg.data {s:bf} (h:dg s):mf s.data:=by unfold dg nl at h;unfold mf;omega
noncomputable def o0 (t:UInt16):List bo→List bo→Int
 |_,[]=>0
 |pre,d::r=>if dw t d≠0 then dw t d else if zj t pre d=true then 10 else o0 t (pre++[d]) r
noncomputable def jr (s:bf):Int:=
 if dm s.owner≠0 then dm s.owner else if s.data.length=0 then 9 else if 512<s.data.length then 3 else o0 s.type [] s.data
theorem Oe (t:UInt16) {l:List bo} {i:Nat} {c:bo} (hc:l[i]? = some c):o0 t (l.take i) (l.drop i)=if dw t c≠0 then dw t c else if zj t (l.take i) c=true then 10 else o0 t (l.take (i+1)) (l.drop (i+1)):=by
 obtain ⟨hi,rfl⟩:=List.getElem?_eq_some_iff.1 hc
 rw [List.drop_eq_getElem_cons hi,o0,List.take_succ_eq_append_getElem hi]
theorem afd (s:bf) (hs:dg s):wl PP [ew,I5,aye] 0 (Tryz.f119.body.getD .skip) (db PP Tryz.f119.results.toList (fun r st=>(r1 (ba .i64)).get true st.h r=some (jr s))) (cd 0 [ar.val false s]) (bk []):=by
 have ho:=hs.owner
 have hd:=hs.data
 have hn:=hd.len
 unfold Tryz.f119
 simp only [gy]
 simp only [↓wR,RA,simprocAttr,TF,ae,pq,ho.fit]
 unfold jr
 rw [cy];refine ⟨fun h=>?_,fun h=>?_⟩
 ·have he:dm s.owner≠0:=by simpa using h
  rw [if_pos he]
  simp only [↓wR,RA,simprocAttr,TF,ae,h]
 have he:dm s.owner=0:=by simpa using h
 rw [if_neg (by omega)]
 simp only [↓wR,RA,simprocAttr,TF,ae,h]
 rw [cj];refine ⟨fun ⟨h1,e1⟩=>?_,fun ⟨h1,e1⟩=>?_⟩
 ·rw [if_pos (by omega)]
  simp only [↓wR,RA,simprocAttr,TF,ae,h1]
 rw [if_neg (by omega)]
 simp only [↓wR,RA,simprocAttr,TF,ae,h1]
 rw [bb];refine ⟨fun h2=>?_,fun h2=>?_⟩
 ·rw [if_pos (by omega)]
  simp only [↓wR,RA,simprocAttr,TF,ae,h2]
 rw [if_neg (by omega)]
 simp only [↓wR,RA,simprocAttr,TF,ae,h2]
 refine dp [1,24,25,26] (fun (i:Nat)=>[.ptr 0 0,.vl false 4 (s.data.map (ay.val false)),.sc (.int .i64 (s.data.length)),.sc (.int .i64 (i))]) (fun _=>[some (.row [.vl false 1 (s.owner.map (ai.val false)),.sc (.int .u16 s.type.toNat),.sc (.int .u16 s.cls.toNat),.sc (.int .u32 s.gm.toNat),.vl false 4 (s.data.map (ay.val false))] 0 2 31)]) (fun i=>i≤s.data.length∧o0 s.type [] s.data=o0 s.type (s.data.take i) (s.data.drop i)) (fun i=>s.data.length - i) 0 ⟨Nat.zero_le _,rfl⟩ (by simp only [↓wR,RA,simprocAttr,TF,ae]<;>rfl) (by simp only [↓wR,RA,simprocAttr,TF,ae]<;>rfl) ?_
 rintro i ⟨hi,hx⟩
 simp only [↓wR,RA,simprocAttr,TF,ae]
 rw [bb];refine ⟨fun h3=>?_,fun h3=>?_⟩
 ·obtain ⟨c,hc,hd1,hlt⟩:=dq (decide_eq_true h3)
  rw [Oe _ hc] at hx
  have hcs:=hd.mem c (List.mem_of_getElem? hc)
  simp only [↓wR,RA,simprocAttr,TF,ae,h3,hc,py,hcs]
  rw [cy];refine ⟨fun h4=>?_,fun h4=>?_⟩
  ·have he4:dw s.type c≠0:=by simpa using h4
   rw [if_pos he4] at hx
   simp only [↓wR,RA,simprocAttr,TF,ae,h4]
   rw [hx]
  ·have he4:dw s.type c=0:=by simpa using h4
   rw [if_neg (by omega)] at hx
   simp only [↓wR,RA,simprocAttr,TF,ae,h4]
   refine ⟨by kernel_rfl,.inl ?_⟩
   simp only [↓wR,RA,simprocAttr,TF,ae,hi,Sk,hd.take i,hcs]
   refine ⟨by kernel_rfl,?_⟩
   rw [cy];refine ⟨fun h5=>?_,fun h5=>?_⟩
   ·rw [if_pos h5] at hx
    simp only [↓wR,RA,simprocAttr,TF,ae,h5]
    rw [hx]
   ·rw [if_neg (by rw [h5];decide)] at hx
    simp only [↓wR,RA,simprocAttr,TF,ae,h5];repeat (simp (disch:=omega) only [ag,bz,b9,bu,bw];try simp only [↓wR,RA,simprocAttr,TF,ae,h5])
    exact ⟨i+1,⟨hlt,hx⟩,by omega,by (first|rfl|trivial|omega|((try (simp (disch:=omega) only [ag]));(try (simp only [FB]));first|done|rfl|omega))⟩
 ·rw [en (decide_eq_false h3)] at hx
  simp only [↓wR,RA,simprocAttr,TF,ae,h3]
  rw [hx];rfl
noncomputable def tp (x:bf × Unit):Option AV:=if dg x.1 then some ((r1 (ba .i64)).E true (jr x.1)) else none
set_option maxRecDepth 2000000 in
theorem B2 (x:bf × Unit) (r:AV) (h:tp x=some r):bc PP 119 ((aC ar a0).E x) r:=by
 by_cases hc:dg x.1
 case neg=>simp only [tp,if_neg hc] at h;cases h
 simp only [tp,if_pos hc] at h
 cases h
 exact au (ak.cons (aj rh) (ak.cons (aj Al) (ak.cons (aj aok) (ak.nil PP)))) Tryz.func119 (by kernel_rfl) (by kernel_rfl) (by kernel_rfl) (Nat.le_of_ble_eq_true (by kernel_rfl)) (r1 (ba .i64)) true (jr x.1) (afd x.1 hc)
noncomputable abbrev fw:Nat × Bool × (List AV→M AV):=(119,true,cx (aC ar a0) tp)
theorem ab0 {S:Nat→Prop} {M b0:Nat} {K:Nat→Nat→Prop} {w:World} {l:List ByteArray} {v:Value} (hS:∀ b,b0≤b→(∀ j,K b j)→S b) (hM:∀ s ∈ l,s.size≤M) (hr:Rel (gK b0 K) w (.vl true 1 (l.map (ai.val true))) v):ml S M w .str v:=by
 refine T6 (l:=true) ai rfl rfl rfl (by decide) (fun x hx c hc s e=>?_) (fun x hx c hc=>?_) hS hr
 ·have hc':c ∈ [AV.sc (.string x)]:=hc
  rw [List.mem_singleton] at hc'
  rw [hc'] at e;cases e
  exact hM _ hx
 ·have hc':c ∈ [AV.sc (.string x)]:=hc
  rw [List.mem_singleton] at hc'
  exact ⟨_,hc'⟩
theorem arp {S:Nat→Prop} {M b0:Nat} {K:Nat→Nat→Prop} {w:World} {l:List UInt32} {v:Value} (hS:∀ b,b0≤b→(∀ j,K b j)→S b) (hr:Rel (gK b0 K) w (.vl true 1 (l.map (cg.val true))) v):ml S M w (.int .u32) v:=by
 refine T6 (l:=true) cg rfl rfl rfl (by decide) (fun x hx c hc s e=>?_) (fun x hx c hc=>?_) hS hr
 ·have hc':c ∈ [AV.sc (.int .u32 x.toNat)]:=hc
  rw [List.mem_singleton] at hc'
  rw [hc'] at e;cases e
 ·have hc':c ∈ [AV.sc (.int .u32 x.toNat)]:=hc
  rw [List.mem_singleton] at hc'
  exact ⟨_,hc'⟩
theorem at4 {S:Nat→Prop} {M b0:Nat} {K:Nat→Nat→Prop} {w:World} {l:List UInt8} {v:Value} (hS:∀ b,b0≤b→(∀ j,K b j)→S b) (hr:Rel (gK b0 K) w (.vl true 1 (l.map (bg.val true))) v):ml S M w (.int .u8) v:=by
 refine T6 (l:=true) bg rfl rfl rfl (by decide) (fun x hx c hc s e=>?_) (fun x hx c hc=>?_) hS hr
 ·have hc':c ∈ [AV.sc (.int .u8 x.toNat)]:=hc
  rw [List.mem_singleton] at hc'
  rw [hc'] at e;cases e
 ·have hc':c ∈ [AV.sc (.int .u8 x.toNat)]:=hc
  rw [List.mem_singleton] at hc'
  exact ⟨_,hc'⟩
theorem size_le (n:Name):∀ s ∈ n,s.size≤cf n:=by
 intro s hs
 obtain ⟨i,hi,rfl⟩:=List.getElem_of_mem hs
 have h1:=B5 n i _ (List.getElem?_eq_getElem hi)
 have h2:=(i6 n (i+1)).1
 omega
theorem D5 {S:Nat→Prop} {b0:Nat} {K:Nat→Nat→Prop} {w:World} {n:Name} {v:Value} (hS:∀ b,b0≤b→(∀ j,K b j)→S b) (hn:bj n) (hr:Rel (gK b0 K) w (.vl true 1 (n.map (ai.val true))) v):ml S 16777216 w .str v:=
 ab0 hS (fun s hs=>by have:=size_le n s hs;unfold bj at hn;omega) hr
theorem af5 {S:Nat→Prop} {b0:Nat} {K:Nat→Nat→Prop} {w:World} {d:bo} {vs:List Value} (hS:∀ b,b0≤b→(∀ j,K b j)→S b) (hd:cr d) (hr:bp (gK b0 K) w (ay.cells true d) vs):v8 S 16777216 16777216 w vs:=by
 have h4:vs.length=4:=hr.1
 match vs,h4,hr with
 | [a,b,c,e],_,hr=>
  have ha:Rel (gK b0 K) w (.vl true 1 (d.names.map (aq.val true))) a:=hr.2 0 _ _ rfl rfl
  have hb:Rel (gK b0 K) w (.vl true 1 (d.nums.map (cg.val true))) b:=hr.2 1 _ _ rfl rfl
  have hc:Rel (gK b0 K) w (.vl true 1 (d.texts.map (ai.val true))) c:=hr.2 2 _ _ rfl rfl
  have he:Rel (gK b0 K) w (.vl true 1 (d.raw.map (bg.val true))) e:=hr.2 3 _ _ rfl rfl
  refine ⟨a,b,c,e,rfl,Mi (l:=true) aq rfl hd.lens.1 (fun n hn us hus=>?_) hS ha,arp hS hb,ab0 hS (fun s hs=>hd.text s hs) hc,at4 hS he⟩
  have h1:us.length=1:=hus.1
  match us,h1,hus with
  | [u],_,hus=>exact ⟨u,rfl,D5 hS (hd.name n hn) hus.head⟩
theorem awi {S:Nat→Prop} {b0:Nat} {K:Nat→Nat→Prop} {w:World} {s:bf} {vs:List Value} (hS:∀ b,b0≤b→(∀ j,K b j)→S b) (hs:dg s) (hr:bp (gK b0 K) w (ar.cells true s) vs):Ou S 16777216 16777216 16777216 w vs:=by
 have h5:vs.length=5:=hr.1
 match vs,h5,hr with
 | [o,t,c,u,d],_,hr=>
  have ho:Rel (gK b0 K) w (.vl true 1 (s.owner.map (ai.val true))) o:=hr.2 0 _ _ rfl rfl
  have ht:Rel (gK b0 K) w (.sc (.int .u16 s.type.toNat)) t:=hr.2 1 _ _ rfl rfl
  have hc:Rel (gK b0 K) w (.sc (.int .u16 s.cls.toNat)) c:=hr.2 2 _ _ rfl rfl
  have hu:Rel (gK b0 K) w (.sc (.int .u32 s.gm.toNat)) u:=hr.2 3 _ _ rfl rfl
  have hd:Rel (gK b0 K) w (.vl true 4 (s.data.map (ay.val true))) d:=hr.2 4 _ _ rfl rfl
  refine ⟨o,t,c,u,d,rfl,D5 hS hs.owner ho,by rw [ht.exact rfl];rfl,by rw [hc.exact rfl];rfl,by rw [hu.exact rfl];rfl,Mi (l:=true) ay rfl (hs.data.len) (fun x hx us hus=>af5 hS (hs.data.mem x hx) hus) hS hd⟩
theorem atp {S:Nat→Prop} {N b0:Nat} {K:Nat→Nat→Prop} {w:World} {l:List bf} {v:Value} (hS:∀ b,b0≤b→(∀ j,K b j)→S b) (hl:∀ s ∈ l,dg s) (hN:l.length≤N) (hr:Rel (gK b0 K) w (.vl true 5 (l.map (ar.val true))) v):j9 S N w 5 (Ou S 16777216 16777216 16777216) v:=
 Mi (l:=true) ar rfl hN (fun s hs us hus=>awi hS (hl s hs) hus) hS hr
theorem aiq (s:bf) (hs:dg s):wl PP [Aa,acg] 0 (Tryz.f53.body.getD .skip) (db PP Tryz.f53.results.toList (fun r st=>(r1 ar).get true st.h r=some s)) (cd 0 [ar.val false s]) (bk []):=by
 have ho:=hs.owner
 have hd:=hs.data
 have hn:=hd.len
 unfold Tryz.f53
 simp only [gy]
 simp only [↓wR,RA,simprocAttr,TF,ae,mj,ho]
 refine fo [2,13,14,15,3] (fun (x:List bo)=>[.ptr 0 0,.vl false 4 (s.data.map (ay.val false)),.sc (.int .i64 (s.data.length)),.sc (.int .i64 (x.length)),.ptr 1 0]) (fun x=>[some (.row [.sc (.slice none 0 0),.sc (.int .u16 0),.sc (.int .u16 0),.sc (.int .u32 0),.sc (.slice none 0 0)] 0 2 31),some (.row [aq.val true s.owner,.sc (.int .u16 s.type.toNat),.sc (.int .u16 s.cls.toNat),.sc (.int .u32 s.gm.toNat),.sl 2 0 x.length 4] 0 2 31),some (.row (cellsOf ay true x) 0 0 101)]) (fun x=>x.length≤s.data.length∧x++s.data.drop x.length=s.data) (fun x=>s.data.length - x.length) [] ⟨Nat.zero_le _,rfl⟩ (by simp only [↓wR,RA,simprocAttr,TF,ae];(refine ir.lax [] (by first|exact Nat.le_of_ble_eq_true rfl|(simp [dk];omega)) ?_ ?_<;>repeat' first|exact dz.nil|exact cb.nil|exact eh.same _|exact eh.nil _ _ _|exact eh.ly _ _|exact cb.refl _ _|apply dz.cons|apply cb.ghost|apply cb.same|apply cb.row)) ?_
 rintro x ⟨hi,hx⟩
 simp only [↓wR,RA,simprocAttr,TF,ae]
 rw [bb];refine ⟨fun h=>?_,fun h=>?_⟩
 ·obtain ⟨c,hc,hd1,hlt⟩:=dq (decide_eq_true h)
  rw [hd1] at hx
  have hcs:=hd.mem c (List.mem_of_getElem? hc)
  simp only [↓wR,RA,simprocAttr,TF,ae,h,hc]
  refine ⟨by kernel_rfl,.inl ?_⟩
  have hlim:(x.length * 4+4) * 96≤140737488355328:=by omega
  simp only [↓wR,RA,simprocAttr,TF,ae,ue,hcs,hlim]
  refine ⟨by kernel_rfl,x++[c],⟨by simp;omega,by simpa using hx⟩,by simp;omega,by (first|rfl|trivial|omega|((try (simp (disch:=omega) only [ag]));(try (simp only [FB]));first|done|rfl|omega)),?_⟩
  rw [Ij,List.length_append];rfl
 ·rw [en (decide_eq_false h)] at hx
  rw [List.append_nil] at hx
  subst hx
  simp only [↓wR,RA,simprocAttr,TF,ae,h]
noncomputable def z9 (x:bf × Unit):Option AV:=if dg x.1 then some ((r1 ar).E true (x.1)) else none
set_option maxRecDepth 2000000 in
theorem aci (x:bf × Unit) (r:AV) (h:z9 x=some r):bc PP 53 ((aC ar a0).E x) r:=by
 by_cases hc:dg x.1
 case neg=>simp only [z9,if_neg hc] at h;cases h
 simp only [z9,if_pos hc] at h
 cases h
 exact au (ak.cons (aj pj) (ak.cons (aj Ib) (ak.nil PP))) Tryz.func53 (by kernel_rfl) (by kernel_rfl) (by kernel_rfl) (Nat.le_of_ble_eq_true (by kernel_rfl)) (r1 ar) true (x.1) (aiq x.1 hc)
noncomputable abbrev aun:Nat × Bool × (List AV→M AV):=(53,true,cx (aC ar a0) z9)
def Ig (z:be):Nat:=cf z.origin+ik nl z.ah
def bq (z:be):Prop:=Ig z≤16777216
instance (z:be):Decidable (bq z):=inferInstanceAs (Decidable (_≤_))
theorem bq.origin {z:be} (h:bq z):bj z.origin:=by unfold bq Ig at h;unfold bj;omega
theorem bq.set {z:be} (h:bq z):∀ s ∈ z.ah,dg s:=fun s hs=>by
 have h1:nl s<ik nl z.ah:=F3 hs
 unfold bq Ig at h;unfold dg;omega
theorem bq.len {z:be} (h:bq z):z.ah.length≤16777216:=by have:=zt nl z.ah;unfold bq Ig at h;omega
def wx (n top:Name):Bool:=decide (top.length<n.length) && eg n top
theorem aq6 (n top:Name) (hn:bj n) (ht:bj top):wl PP [A7] 0 (Tryz.f71.body.getD .skip) (db PP Tryz.f71.results.toList (fun r st=>(r1 az).get true st.h r=some (wx n top))) (cd 0 [aq.val false n,aq.val false top]) (bk []):=by
 unfold Tryz.f71
 simp only [cq]
 simp only [↓wR,RA,simprocAttr,TF,ae]
 unfold wx
 rw [bb];refine ⟨fun h=>?_,fun h=>?_⟩
 ·rw [decide_eq_true (show top.length<n.length by omega)]
  simp only [↓wR,RA,simprocAttr,TF,ae,h,oe,hn,ht]
 ·rw [decide_eq_false (show ¬ top.length<n.length by omega)]
  simp only [↓wR,RA,simprocAttr,TF,ae,h]
  rfl
noncomputable def Cu (x:Name × Name × Unit):Option AV:=if bj x.1∧bj x.2.1 then some ((r1 az).E true (wx x.1 x.2.1)) else none
set_option maxRecDepth 2000000 in
theorem Np (x:Name × Name × Unit) (r:AV) (h:Cu x=some r):bc PP 71 ((aC aq (aC aq a0)).E x) r:=by
 by_cases hc:bj x.1∧bj x.2.1
 case neg=>simp only [Cu,if_neg hc] at h;cases h
 simp only [Cu,if_pos hc] at h
 cases h
 exact au (ak.cons (aj re) (ak.nil PP)) Tryz.func71 (by kernel_rfl) (by kernel_rfl) (by kernel_rfl) (Nat.le_of_ble_eq_true (by kernel_rfl)) (r1 az) true (wx x.1 x.2.1) (aq6 x.1 x.2.1 hc.1 hc.2)
noncomputable abbrev aor:Nat × Bool × (List AV→M AV):=(71,true,cx (aC aq (aC aq a0)) Cu)
def xb (z:be) (n:Name):List bf:=z.ah.filter fun s=>fg s.owner n
theorem akz {l:List bf} {p:bf→Bool} {i:Nat} {c:bf} (h:l.drop i=c::l.drop (i+1)):(l.drop i).filter p=(if p c=true then [c] else [])++(l.drop (i+1)).filter p:=by
 rw [h,List.filter_cons];split<;>rfl
theorem aij {l:List bf} (p:bf→Bool):(l.filter p).length≤l.length:=List.length_filter_le _ _
theorem aw7 (z:be) (n:Name) (hz:bq z) (hn:bj n):wl PP [fc,aun] 0 (Tryz.f24.body.getD .skip) (db PP Tryz.f24.results.toList (fun r st=>(r1 (br ar)).get true st.h r=some (xb z n))) (cd 0 [ca.val false z,aq.val false n]) (bk []):=by
 have hl:=hz.len
 unfold Tryz.f24
 simp only [fi,cq]
 simp only [↓wR,RA,simprocAttr,TF,ae]
 refine fo [1,9,10,11,5] (fun (x:Nat × List bf)=>[.vl false 1 (n.map (ai.val false)),.vl false 5 (z.ah.map (ar.val false)),.sc (.int .i64 (z.ah.length)),.sc (.int .i64 (x.1)),.sl 0 0 x.2.length 5]) (fun x=>[some (.row (cellsOf ar true x.2) 0 0 31)]) (fun x=>x.1≤z.ah.length∧x.2++(z.ah.drop x.1).filter (fun s=>fg s.owner n)=xb z n) (fun x=>z.ah.length - x.1) (0,[]) ⟨Nat.zero_le _,rfl⟩ (by simp only [↓wR,RA,simprocAttr,TF,ae];(refine ir.lax [] (by first|exact Nat.le_of_ble_eq_true rfl|(simp [dk];omega)) ?_ ?_<;>repeat' first|exact dz.nil|exact cb.nil|exact eh.same _|exact eh.nil _ _ _|exact eh.ly _ _|exact cb.refl _ _|apply dz.cons|apply cb.ghost|apply cb.same|apply cb.row)) ?_
 rintro ⟨i,x⟩ ⟨hi,hx⟩
 simp only at hi hx
 have hxl:x.length≤z.ah.length:=by
  have h1:=aij (l:=z.ah) (fun s=>fg s.owner n)
  have h2:=congrArg List.length hx
  simp only [List.length_append,xb] at h2
  omega
 simp only [↓wR,RA,simprocAttr,TF,ae]
 rw [bb];refine ⟨fun h=>?_,fun h=>?_⟩
 ·obtain ⟨c,hc,hd1,hlt⟩:=dq (decide_eq_true h)
  rw [akz hd1] at hx
  have hcs:=hz.set c (List.mem_of_getElem? hc)
  simp only [↓wR,RA,simprocAttr,TF,ae,h,hc,kj,hcs.owner,hn]
  rw [cy];refine ⟨fun h1=>?_,fun h1=>?_⟩
  ·rw [if_pos h1] at hx
   have hlim:(x.length * 5+5) * 64≤140737488355328:=by omega
   simp only [↓wR,RA,simprocAttr,TF,ae,h1,z9,hcs,hlim];repeat (simp (disch:=omega) only [ag,bz,b9,bu,bw];try simp only [↓wR,RA,simprocAttr,TF,ae,h1,z9,hcs,hlim])
   refine ⟨(i+1,x++[c]),⟨hlt,by rw [← hx];simp⟩,by simp;omega,by (first|rfl|trivial|omega|((try (simp (disch:=omega) only [ag]));(try (simp only [FB]));first|done|rfl|omega)),?_⟩
   rw [C0]
  ·rw [if_neg (by rw [h1];decide)] at hx
   simp only [↓wR,RA,simprocAttr,TF,ae,h1];repeat (simp (disch:=omega) only [ag,bz,b9,bu,bw];try simp only [↓wR,RA,simprocAttr,TF,ae,h1])
   exact ⟨(i+1,x),⟨hlt,hx⟩,by simp;omega,by (first|rfl|trivial|omega|((try (simp (disch:=omega) only [ag]));(try (simp only [FB]));first|done|rfl|omega)),by (first|rfl|trivial|omega|((try (simp (disch:=omega) only [ag]));(try (simp only [FB]));first|done|rfl|omega))⟩
 ·rw [en (decide_eq_false h)] at hx
  rw [List.filter_nil,List.append_nil] at hx
  subst hx
  simp only [↓wR,RA,simprocAttr,TF,ae,h]
noncomputable def ac4 (x:be × Name × Unit):Option AV:=if bq x.1∧bj x.2.1 then some ((r1 (br ar)).E true (xb x.1 x.2.1)) else none
set_option maxRecDepth 2000000 in
theorem ape (x:be × Name × Unit) (r:AV) (h:ac4 x=some r):bc PP 24 ((aC ca (aC aq a0)).E x) r:=by
 by_cases hc:bq x.1∧bj x.2.1
 case neg=>simp only [ac4,if_neg hc] at h;cases h
 simp only [ac4,if_pos hc] at h
 cases h
 exact au (ak.cons (aj n6) (ak.cons (aj aci) (ak.nil PP))) Tryz.func24 (by kernel_rfl) (by kernel_rfl) (by kernel_rfl) (Nat.le_of_ble_eq_true (by kernel_rfl)) (r1 (br ar)) true (xb x.1 x.2.1) (aw7 x.1 x.2.1 hc.1 hc.2)
noncomputable abbrev zAt:Nat × Bool × (List AV→M AV):=(24,true,cx (aC ca (aC aq a0)) ac4)
def Ah (n:Name) (b:Option Name):Bool:=match b with|none=>true|some m=>decide (n.length<m.length)
def jt (z:be) (n:Name) (best:Option Name) (s:bf):Option Name:=
 if (decide ((s.type.toNat:Int)=2) && (wx s.owner z.origin && (eg n s.owner && Ah s.owner best)))=true then some s.owner else best
def l0 (z:be) (n:Name):Option Name:=z.ah.foldl (jt z n) none
theorem W3 {z:be} {n:Name} (hz:bq z):∀ (l:List bf) (b:Option Name),(∀ s ∈ l,s ∈ z.ah)→(∀ m,b=some m→bj m)→∀ m,l.foldl (jt z n) b=some m→bj m:=by
 intro l
 induction l with
 |nil=>intro b _ hb m hm;exact hb m hm
 |cons s l ih=>
  intro b hl hb m hm
  refine ih (jt z n b s) (fun x hx=>hl x (by simp [hx])) (fun q hq=>?_) m hm
  unfold jt at hq
  split at hq
  ·cases hq;exact (hz.set s (hl s (by simp))).owner
  ·exact hb q hq
theorem au2 (z:be) (n:Name) (hz:bq z) (hn:bj n):wl PP [A7,aor,Aa] 0 (Tryz.f25.body.getD .skip) (db PP Tryz.f25.results.toList (fun r st=>(r2 aq az).get true st.h r=some ((l0 z n).getD [],(l0 z n).isSome))) (cd 0 [ca.val false z,aq.val false n]) (bk []):=by
 have hl:=hz.len
 unfold Tryz.f25
 simp only [fi,cq]
 simp only [↓wR,RA,simprocAttr,TF,ae]
 refine c8 (T:=[]) (ak.nil PP) mixed Tryz.func70 rfl (by kernel_rfl) (by kernel_rfl) (by kernel_rfl) (by kernel_rfl) ?_;unfold Tryz.f70
 simp only [↓wR,RA,simprocAttr,TF,ae]
 refine ⟨[2,3,6,7,10],?_⟩
 have hib:xq PP 120=some (Tryz.f120.ntmps,Tryz.f120.body.getD .skip):=by kernel_rfl
 simp only [↓wR,RA,simprocAttr,TF,ae,hib]
 refine ⟨by kernel_rfl,fun l=>?_⟩
 unfold Tryz.f120
 simp only [↓wR,RA,simprocAttr,TF,ae]
 refine Po [0,2,7,8,9] (fun (x:Nat × Option Name)=>[.sc (.func (.yield l) #[] #[]),.ptr 5 0,.vl false 5 (z.ah.map (ar.val false)),.sc (.int .i64 (z.ah.length)),.sc (.int .i64 (x.1))]) (fun x=>[some (.row [.vl false 1 (z.origin.map (ai.val false)),.vl false 5 (z.ah.map (ar.val false))] 0 2 41),some (.row [.vl false 1 (n.map (ai.val false))] 0 2 24),some (.row [.vl false 1 ((x.2.getD []).map (ai.val false))] 0 2 24),some (.row [.sc (.bool (x.2.isSome))] 0 2 4),some (.row [.vl false 1 (z.origin.map (ai.val false)),.vl false 5 (z.ah.map (ar.val false))] 0 2 41),some (.row [.sc (.int .u16 2)] 0 2 26)]) (fun x=>x.1≤z.ah.length∧l0 z n=(z.ah.drop x.1).foldl (jt z n) x.2∧∀ m,x.2=some m→bj m) (fun x=>z.ah.length - x.1) (0,none) ⟨Nat.zero_le _,rfl,fun m hm=>by cases hm⟩ (by simp only [↓wR,RA,simprocAttr,TF,ae];(refine ir.lax [] (by first|exact Nat.le_of_ble_eq_true rfl|(simp [dk];omega)) ?_ ?_<;>repeat' first|exact dz.nil|exact cb.nil|exact eh.same _|exact eh.nil _ _ _|exact eh.ly _ _|exact cb.refl _ _|apply dz.cons|apply cb.ghost|apply cb.same|apply cb.row)) ?_
 rintro ⟨i,b⟩ ⟨hi,hx,hb⟩
 simp only at hi hx hb
 simp only [↓wR,RA,simprocAttr,TF,ae]
 rw [qu];refine ⟨fun h=>?_,fun h=>?_⟩
 ·obtain ⟨c,hc,hd1,hlt⟩:=dq h
  have hcs:=hz.set c (List.mem_of_getElem? hc)
  have hstep:l0 z n=(z.ah.drop (i+1)).foldl (jt z n) (jt z n b c):=by rw [hx,hd1];rfl
  simp only [↓wR,RA,simprocAttr,TF,ae,h,hc]
  rw [qu];refine ⟨fun h2=>?_,fun h2=>?_⟩
  ·have e2:(c.type.toNat:Int)=2:=by simpa using h2
   simp only [↓wR,RA,simprocAttr,TF,ae,h2]
   refine u6 [0,2,7,8,9,17,19] ?_
   simp only [↓wR,RA,simprocAttr,TF,ae,vm,mb,Cu,hcs.owner,hz.origin]
   rw [cy];refine ⟨fun h3=>?_,fun h3=>?_⟩
   ·simp only [↓wR,RA,simprocAttr,TF,ae,h3,oe,hcs.owner,hn]
    rw [cy];refine ⟨fun h4=>?_,fun h4=>?_⟩
    ·cases b with
     |none=>
      have hb2:jt z n none c=some c.owner:=by simp [jt,e2,h3,h4,Ah]
      rw [hb2] at hstep
      simp only [↓wR,RA,simprocAttr,TF,ae,h4,Option.isSome_none];repeat (simp (disch:=omega) only [ag,bz,b9,bu,bw];try simp only [↓wR,RA,simprocAttr,TF,ae,h4,Option.isSome_none])
      exact ⟨(i+1,some c.owner),⟨hlt,hstep,fun m hm=>by cases hm;exact hcs.owner⟩,by simp;omega,by (first|rfl|trivial|omega|((try (simp (disch:=omega) only [ag]));(try (simp only [FB]));first|done|rfl|omega)),by (first|rfl|trivial|omega|((try (simp (disch:=omega) only [ag]));(try (simp only [FB]));first|done|rfl|omega))⟩
     |some m=>
      simp only [↓wR,RA,simprocAttr,TF,ae,h4]
      rw [bb];refine ⟨fun h5=>?_,fun h5=>?_⟩
      ·have hb2:jt z n (some m) c=some c.owner:=by simp [jt,e2,h3,h4,Ah];omega
       rw [hb2] at hstep
       simp only [↓wR,RA,simprocAttr,TF,ae,h5];repeat (simp (disch:=omega) only [ag,bz,b9,bu,bw];try simp only [↓wR,RA,simprocAttr,TF,ae,h5])
       exact ⟨(i+1,some c.owner),⟨hlt,hstep,fun m hm=>by cases hm;exact hcs.owner⟩,by simp;omega,by (first|rfl|trivial|omega|((try (simp (disch:=omega) only [ag]));(try (simp only [FB]));first|done|rfl|omega)),by (first|rfl|trivial|omega|((try (simp (disch:=omega) only [ag]));(try (simp only [FB]));first|done|rfl|omega))⟩
      ·have hb2:jt z n (some m) c=some m:=by simp [jt,e2,h3,h4,Ah];omega
       rw [hb2] at hstep
       simp only [↓wR,RA,simprocAttr,TF,ae,h5];repeat (simp (disch:=omega) only [ag,bz,b9,bu,bw];try simp only [↓wR,RA,simprocAttr,TF,ae,h5])
       exact ⟨(i+1,some m),⟨hlt,hstep,hb⟩,by simp;omega,by (first|rfl|trivial|omega|((try (simp (disch:=omega) only [ag]));(try (simp only [FB]));first|done|rfl|omega)),by (first|rfl|trivial|omega|((try (simp (disch:=omega) only [ag]));(try (simp only [FB]));first|done|rfl|omega))⟩
    ·have hb2:jt z n b c=b:=by simp [jt,h4]
     rw [hb2] at hstep
     simp only [↓wR,RA,simprocAttr,TF,ae,h4];repeat (simp (disch:=omega) only [ag,bz,b9,bu,bw];try simp only [↓wR,RA,simprocAttr,TF,ae,h4])
     exact ⟨(i+1,b),⟨hlt,hstep,hb⟩,by simp;omega,by (first|rfl|trivial|omega|((try (simp (disch:=omega) only [ag]));(try (simp only [FB]));first|done|rfl|omega)),by (first|rfl|trivial|omega|((try (simp (disch:=omega) only [ag]));(try (simp only [FB]));first|done|rfl|omega))⟩
   ·have hb2:jt z n b c=b:=by simp [jt,h3]
    rw [hb2] at hstep
    simp only [↓wR,RA,simprocAttr,TF,ae,h3];repeat (simp (disch:=omega) only [ag,bz,b9,bu,bw];try simp only [↓wR,RA,simprocAttr,TF,ae,h3])
    exact ⟨(i+1,b),⟨hlt,hstep,hb⟩,by simp;omega,by (first|rfl|trivial|omega|((try (simp (disch:=omega) only [ag]));(try (simp only [FB]));first|done|rfl|omega)),by (first|rfl|trivial|omega|((try (simp (disch:=omega) only [ag]));(try (simp only [FB]));first|done|rfl|omega))⟩
  ·have e2:¬ (c.type.toNat:Int)=2:=by simpa using h2
   have hb2:jt z n b c=b:=by simp [jt,e2]
   rw [hb2] at hstep
   simp only [↓wR,RA,simprocAttr,TF,ae,h2];repeat (simp (disch:=omega) only [ag,bz,b9,bu,bw];try simp only [↓wR,RA,simprocAttr,TF,ae,h2])
   exact ⟨(i+1,b),⟨hlt,hstep,hb⟩,by simp;omega,by (first|rfl|trivial|omega|((try (simp (disch:=omega) only [ag]));(try (simp only [FB]));first|done|rfl|omega)),by (first|rfl|trivial|omega|((try (simp (disch:=omega) only [ag]));(try (simp only [FB]));first|done|rfl|omega))⟩
 ·rw [en h] at hx
  simp only [↓wR,RA,simprocAttr,TF,ae,h]
  cases b with
  |none=>
   have hc0:l0 z n=none:=hx
   simp only [↓wR,RA,simprocAttr,TF,ae,Option.isSome_none]
   rw [hc0]
   rfl
  |some m=>
   have hc0:l0 z n=some m:=hx
   simp only [↓wR,RA,simprocAttr,TF,ae,mj,hb m rfl]
   rw [hc0]
   rfl
noncomputable def Hi (x:be × Name × Unit):Option AV:=if bq x.1∧bj x.2.1 then some ((r2 aq az).E true (((l0 x.1 x.2.1).getD [],(l0 x.1 x.2.1).isSome))) else none
set_option maxRecDepth 2000000 in
theorem Wb (x:be × Name × Unit) (r:AV) (h:Hi x=some r):bc PP 25 ((aC ca (aC aq a0)).E x) r:=by
 by_cases hc:bq x.1∧bj x.2.1
 case neg=>simp only [Hi,if_neg hc] at h;cases h
 simp only [Hi,if_pos hc] at h
 cases h
 exact au (ak.cons (aj re) (ak.cons (aj Np) (ak.cons (aj pj) (ak.nil PP)))) Tryz.func25 (by kernel_rfl) (by kernel_rfl) (by kernel_rfl) (Nat.le_of_ble_eq_true (by kernel_rfl)) (r2 aq az) true (((l0 x.1 x.2.1).getD [],(l0 x.1 x.2.1).isSome)) (au2 x.1 x.2.1 hc.1 hc.2)
noncomputable abbrev apz:Nat × Bool × (List AV→M AV):=(25,true,cx (aC ca (aC aq a0)) Hi)
def Fa (z:be) (n:Name):Bool:=eg n z.origin && (fg n z.origin || z.ah.any fun s=>eg s.owner n)
theorem atc (z:be) (n:Name) (hz:bq z) (hn:bj n):wl PP [A7,fc] 0 (Tryz.f31.body.getD .skip) (db PP Tryz.f31.results.toList (fun r st=>(r1 az).get true st.h r=some (Fa z n))) (cd 0 [ca.val false z,aq.val false n]) (bk []):=by
 have hl:=hz.len
 unfold Tryz.f31
 simp only [fi,cq]
 simp only [↓wR,RA,simprocAttr,TF,ae,oe,hn,hz.origin]
 unfold Fa
 rw [cy];refine ⟨fun h=>?_,fun h=>?_⟩
 ·have h':eg n z.origin=false:=by simpa using h
  simp only [↓wR,RA,simprocAttr,TF,ae,h,h']
  rfl
 have h':eg n z.origin=true:=by simpa using h
 simp only [↓wR,RA,simprocAttr,TF,ae,h,h',kj,hn,hz.origin]
 rw [cy];refine ⟨fun h2=>?_,fun h2=>?_⟩
 ·simp only [↓wR,RA,simprocAttr,TF,ae,h2]
 simp only [↓wR,RA,simprocAttr,TF,ae,h2]
 refine c8 (T:=[]) (ak.nil PP) mixed Tryz.func90 rfl (by kernel_rfl) (by kernel_rfl) (by kernel_rfl) (by kernel_rfl) ?_;unfold Tryz.f90
 simp only [↓wR,RA,simprocAttr,TF,ae]
 refine c8 (T:=[]) (ak.nil PP) mixed Tryz.func131 rfl (by kernel_rfl) (by kernel_rfl) (by kernel_rfl) (by kernel_rfl) ?_;unfold Tryz.f131
 simp only [↓wR,RA,simprocAttr,TF,ae]
 refine dp [0,1,7,8] (fun (i:Nat)=>[.vl false 5 (z.ah.map (ar.val false)),.fn (.func 91) [] [.ptr 1 0],.sc (.int .i64 (z.ah.length)),.sc (.int .i64 (i))]) (fun _=>[some (.row [.vl false 1 (z.origin.map (ai.val false)),.vl false 5 (z.ah.map (ar.val false))] 0 2 41),some (.row [.vl false 1 (n.map (ai.val false))] 0 2 24)]) (fun i=>i≤z.ah.length∧(z.ah.any fun s=>eg s.owner n)=((z.ah.drop i).any fun s=>eg s.owner n)) (fun i=>z.ah.length - i) 0 ⟨Nat.zero_le _,rfl⟩ (by simp only [↓wR,RA,simprocAttr,TF,ae]<;>rfl) (by simp only [↓wR,RA,simprocAttr,TF,ae]<;>rfl) ?_
 rintro i ⟨hi,hx⟩
 simp only [↓wR,RA,simprocAttr,TF,ae]
 rw [bb];refine ⟨fun h3=>?_,fun h3=>?_⟩
 ·obtain ⟨c,hc,hd1,hlt⟩:=dq (decide_eq_true h3)
  rw [hd1,List.any_cons] at hx
  have hcs:=hz.set c (List.mem_of_getElem? hc)
  simp only [↓wR,RA,simprocAttr,TF,ae,h3,hc];repeat (simp (disch:=omega) only [ag,bz,b9,bu,bw];try simp only [↓wR,RA,simprocAttr,TF,ae,h3,hc])
  refine c8 (T:=[A7]) (ak.cons (aj re) (ak.nil PP)) mixed Tryz.func91 rfl (by kernel_rfl) (by kernel_rfl) (by kernel_rfl) (by kernel_rfl) ?_;unfold Tryz.f91
  simp only [↓wR,RA,simprocAttr,TF,ae,oe,hcs.owner,hn]
  rw [cy];refine ⟨fun h4=>?_,fun h4=>?_⟩
  ·rw [h4,Bool.true_or] at hx
   simp only [↓wR,RA,simprocAttr,TF,ae,h4]
   rw [hx]
  ·rw [h4,Bool.false_or] at hx
   simp only [↓wR,RA,simprocAttr,TF,ae,h4];repeat (simp (disch:=omega) only [ag,bz,b9,bu,bw];try simp only [↓wR,RA,simprocAttr,TF,ae,h4])
   exact ⟨i+1,⟨hlt,hx⟩,by omega,by (first|rfl|trivial|omega|((try (simp (disch:=omega) only [ag]));(try (simp only [FB]));first|done|rfl|omega))⟩
 ·rw [en (decide_eq_false h3),List.any_nil] at hx
  simp only [↓wR,RA,simprocAttr,TF,ae,h3]
  rw [hx]<;>rfl
noncomputable def Rz (x:be × Name × Unit):Option AV:=if bq x.1∧bj x.2.1 then some ((r1 az).E true (Fa x.1 x.2.1)) else none
set_option maxRecDepth 2000000 in
theorem aof (x:be × Name × Unit) (r:AV) (h:Rz x=some r):bc PP 31 ((aC ca (aC aq a0)).E x) r:=by
 by_cases hc:bq x.1∧bj x.2.1
 case neg=>simp only [Rz,if_neg hc] at h;cases h
 simp only [Rz,if_pos hc] at h
 cases h
 exact au (ak.cons (aj re) (ak.cons (aj n6) (ak.nil PP))) Tryz.func31 (by kernel_rfl) (by kernel_rfl) (by kernel_rfl) (Nat.le_of_ble_eq_true (by kernel_rfl)) (r1 az) true (Fa x.1 x.2.1) (atc x.1 x.2.1 hc.1 hc.2)
noncomputable abbrev av9:Nat × Bool × (List AV→M AV):=(31,true,cx (aC ca (aC aq a0)) Rz)
theorem alf (t:UInt16):wl PP [] 0 (Tryz.f110.body.getD .skip) (db PP Tryz.f110.results.toList (fun r st=>(r1 az).get true st.h r=some false)) (cd 0 [cw.val false t]) (bk []):=by
 unfold Tryz.f110
 simp only [↓wR,RA,simprocAttr,TF,ae,bne_self_eq_false]
noncomputable def Uk (x:UInt16 × Unit):Option AV:=some ((r1 az).E true (false))
set_option maxRecDepth 2000000 in
theorem aef (x:UInt16 × Unit) (r:AV) (h:Uk x=some r):bc PP 110 ((aC cw a0).E x) r:=by
 cases h
 exact au (ak.nil PP) Tryz.func110 (by kernel_rfl) (by kernel_rfl) (by kernel_rfl) (Nat.le_of_ble_eq_true (by kernel_rfl)) (r1 az) true (false) (alf x.1)
noncomputable abbrev awm:Nat × Bool × (List AV→M AV):=(110,true,cx (aC cw a0) Uk)
def Tk (a b:UInt16):Int:=if (a.toNat:Int)<b.toNat then -1 else if (b.toNat:Int)<a.toNat then 1 else 0
theorem aua (a b:UInt16):wl PP [awm] 0 (Tryz.f59.body.getD .skip) (db PP Tryz.f59.results.toList (fun r st=>(r1 (ba .i64)).get true st.h r=some (Tk a b))) (cd 0 [cw.val false a,cw.val false b]) (bk []):=by
 unfold Tryz.f59
 unfold Tk
 simp only [↓wR,RA,simprocAttr,TF,ae,Uk]
 rw [bb];refine ⟨fun h=>?_,fun h=>?_⟩
 ·rw [if_pos h]
  simp only [↓wR,RA,simprocAttr,TF,ae,h]
 ·rw [if_neg h]
  simp only [↓wR,RA,simprocAttr,TF,ae,h]
  rw [bb];refine ⟨fun h2=>?_,fun h2=>?_⟩
  ·rw [if_pos h2]
   simp only [↓wR,RA,simprocAttr,TF,ae,h2]
  ·rw [if_neg h2]
   simp only [↓wR,RA,simprocAttr,TF,ae,h2]
noncomputable def ad1 (x:UInt16 × UInt16 × Unit):Option AV:=some ((r1 (ba .i64)).E true (Tk x.1 x.2.1))
set_option maxRecDepth 2000000 in
theorem ajv (x:UInt16 × UInt16 × Unit) (r:AV) (h:ad1 x=some r):bc PP 59 ((aC cw (aC cw a0)).E x) r:=by
 cases h
 exact au (ak.cons (aj aef) (ak.nil PP)) Tryz.func59 (by kernel_rfl) (by kernel_rfl) (by kernel_rfl) (Nat.le_of_ble_eq_true (by kernel_rfl)) (r1 (ba .i64)) true (Tk x.1 x.2.1) (aua x.1 x.2.1)
noncomputable abbrev aw8:Nat × Bool × (List AV→M AV):=(59,true,cx (aC cw (aC cw a0)) ad1)
def K6:List Int→Int
 | []=>0
 |a::r=>if a≠0 then a else K6 r
theorem aw1 (l:List Int) (hl:l.length≤16777216):wl PP [] 0 (Tryz.f57.body.getD .skip) (db PP Tryz.f57.results.toList (fun r st=>(r1 (ba .i64)).get true st.h r=some (K6 l))) (cd 0 [(br (ba .i64)).val false l]) (bk []):=by
 unfold Tryz.f57
 rw [k7]
 simp only [↓wR,RA,simprocAttr,TF,ae]
 refine dp [3,6,7,8] (fun (i:Nat)=>[.sc (.int .i64 (0)),.vl false 1 (l.map ((ba .i64).val false)),.sc (.int .i64 (l.length)),.sc (.int .i64 (i))]) (fun _=>[]) (fun i=>i≤l.length∧K6 l=K6 (l.drop i)) (fun i=>l.length - i) 0 ⟨Nat.zero_le _,rfl⟩ (by simp only [↓wR,RA,simprocAttr,TF,ae]<;>rfl) (by simp only [↓wR,RA,simprocAttr,TF,ae]<;>rfl) ?_
 rintro i ⟨hi,hx⟩
 simp only [↓wR,RA,simprocAttr,TF,ae]
 rw [bb];refine ⟨fun h=>?_,fun h=>?_⟩
 ·obtain ⟨c,hc,hd1,hlt⟩:=dq (decide_eq_true h)
  rw [hd1,K6] at hx
  simp only [↓wR,RA,simprocAttr,TF,ae,h,hc]
  rw [de];refine ⟨fun ⟨h2,e2⟩=>?_,fun ⟨h2,e2⟩=>?_⟩
  ·rw [if_pos e2] at hx
   simp only [↓wR,RA,simprocAttr,TF,ae,h2]
   rw [hx]
  ·rw [if_neg (by omega)] at hx
   simp only [↓wR,RA,simprocAttr,TF,ae,h2];repeat (simp (disch:=omega) only [ag,bz,b9,bu,bw];try simp only [↓wR,RA,simprocAttr,TF,ae,h2])
   exact ⟨i+1,⟨hlt,hx⟩,by omega,by (first|rfl|trivial|omega|((try (simp (disch:=omega) only [ag]));(try (simp only [FB]));first|done|rfl|omega))⟩
 ·rw [en (decide_eq_false h)] at hx
  simp only [↓wR,RA,simprocAttr,TF,ae,h]
  rw [hx];rfl
noncomputable def aap (x:List Int × Unit):Option AV:=if x.1.length≤16777216 then some ((r1 (ba .i64)).E true (K6 x.1)) else none
set_option maxRecDepth 2000000 in
theorem aqf (x:List Int × Unit) (r:AV) (h:aap x=some r):bc PP 57 ((aC (br (ba .i64)) a0).E x) r:=by
 by_cases hc:x.1.length≤16777216
 case neg=>simp only [aap,if_neg hc] at h;cases h
 simp only [aap,if_pos hc] at h
 cases h
 exact au (ak.nil PP) Tryz.func57 (by kernel_rfl) (by kernel_rfl) (by kernel_rfl) (Nat.le_of_ble_eq_true (by kernel_rfl)) (r1 (ba .i64)) true (K6 x.1) (aw1 x.1 hc)
noncomputable abbrev orC:Nat × Bool × (List AV→M AV):=(57,true,cx (aC (br (ba .i64)) a0) aap)
noncomputable def xf (a b:bf):Int:=K6 [Gx a.owner b.owner,Tk a.type b.type]
theorem akr (a b:bf) (ha:dg a) (hb:dg b):wl PP [ae7,aw8,orC] 0 (Tryz.f122.body.getD .skip) (db PP Tryz.f122.results.toList (fun r st=>(r1 (ba .i64)).get true st.h r=some (xf a b))) (cd 0 [ar.val false a,ar.val false b]) (bk []):=by
 unfold Tryz.f122
 simp only [gy]
 simp only [↓wR,RA,simprocAttr,TF,ae]
 refine ⟨by kernel_rfl,.inl ?_⟩
 simp only [↓wR,RA,simprocAttr,TF,ae,tz,ad1,aap,ha.owner,hb.owner]
 exact ⟨by kernel_rfl,rfl⟩
noncomputable def xk (x:bf × bf × Unit):Option AV:=if dg x.1∧dg x.2.1 then some ((r1 (ba .i64)).E true (xf x.1 x.2.1)) else none
set_option maxRecDepth 2000000 in
theorem Xv (x:bf × bf × Unit) (r:AV) (h:xk x=some r):bc PP 122 ((aC ar (aC ar a0)).E x) r:=by
 by_cases hc:dg x.1∧dg x.2.1
 case neg=>simp only [xk,if_neg hc] at h;cases h
 simp only [xk,if_pos hc] at h
 cases h
 exact au (ak.cons (aj O2) (ak.cons (aj ajv) (ak.cons (aj aqf) (ak.nil PP)))) Tryz.func122 (by kernel_rfl) (by kernel_rfl) (by kernel_rfl) (Nat.le_of_ble_eq_true (by kernel_rfl)) (r1 (ba .i64)) true (xf x.1 x.2.1) (akr x.1 x.2.1 hc.1 hc.2)
noncomputable abbrev acv:Nat × Bool × (List AV→M AV):=(122,true,cx (aC ar (aC ar a0)) xk)
noncomputable def ng (t:UInt16):List bo→Bool
 |a::b::r=>if 0≤Ae t a b then false else ng t (b::r)
 |_=>true
noncomputable def fu (z:be) (i:Nat) (s:bf):Bool:=
 (match i with|0=>true|k+1=>match z.ah[k]? with|some a=>decide (¬ (xf a s ≥ 0))|none=>true) && ng s.type s.data
theorem qc (k:Nat):((k:Int)+1).toNat=k+1:=by omega
theorem xa (k:Nat):(0:Int)≤(k:Int)+1:=by omega
theorem Ei (t:UInt16) {l:List bo} {k:Nat} {a b:bo} (ha:l[k]? = some a) (hb:l[k+1]? = some b):ng t (l.drop k)=if 0≤Ae t a b then false else ng t (l.drop (k+1)):=by
 rw [Ak ha,Ak hb];rfl
theorem Cb (t:UInt16) {l:List bo} {k:Nat} (h:l.length≤k+1):ng t (l.drop k)=true:=by
 have:(l.drop k).length≤1:=by rw [List.length_drop];omega
 match hd:l.drop k with
 | []=>rfl
 | [a]=>rfl
 |a::b::r=>rw [hd] at this;simp at this
theorem apb (l:sg) (i:Nat) (s:bf) (hz:bq l.z) (hs:dg s) (hi:i≤l.z.ah.length):wl PP [acv,Fh] 0 (Tryz.f77.body.getD .skip) (db PP Tryz.f77.results.toList (fun r st=>(r1 az).get true st.h r=some (fu l.z i s))) (cd 0 [.ft (lh.cells false l),(ba .i64).val false i,ar.val false s]) (bk []):=by
 have hd:=hs.data
 have hn:=hd.len
 have hl:=hz.len
 unfold Tryz.f77
 simp only [gy]
 simp only [↓wR,RA,simprocAttr,TF,ae,zy]
 refine ⟨by kernel_rfl,.inl ?_⟩
 rw [bb];refine ⟨fun h=>?_,fun h=>?_⟩
 ·cases i with
  |zero=>omega
  |succ k=>
  obtain ⟨a,ha⟩:∃ a,l.z.ah[k]? = some a:=⟨_,List.getElem?_eq_getElem (by omega)⟩
  have has:=hz.set a (List.mem_of_getElem? ha)
  simp only [↓wR,RA,simprocAttr,TF,ae,h,ha,Int.natCast_add,Int.add_sub_cancel,xk,has,hs];repeat (simp (disch:=omega) only [ag,bz,b9,bu,bw];try simp only [↓wR,RA,simprocAttr,TF,ae,h,ha,Int.natCast_add,Int.add_sub_cancel,xk,has,hs])
  refine ⟨by kernel_rfl,?_⟩
  rw [bb];refine ⟨fun h2=>?_,fun h2=>?_⟩
  ·have hv:fu l.z (k+1) s=false:=by simp only [fu,ha];simp [h2]
   simp only [↓wR,RA,simprocAttr,TF,ae,h2]
   rw [hv]
  have hv:fu l.z (k+1) s=ng s.type s.data:=by simp only [fu,ha];simp [h2]
  clear ha
  simp only [↓wR,RA,simprocAttr,TF,ae,h2]
  refine dp [5,7] (fun (k:Nat)=>[.ptr 0 0,.sc (.int .i64 ((k:Int)+1))]) (fun _=>[some (.row [.vl false 1 (s.owner.map (ai.val false)),.sc (.int .u16 s.type.toNat),.sc (.int .u16 s.cls.toNat),.sc (.int .u32 s.gm.toNat),.vl false 4 (s.data.map (ay.val false))] 0 2 31)]) (fun k=>(k=0∨k+1≤s.data.length)∧ng s.type s.data=ng s.type (s.data.drop k)) (fun k=>s.data.length - k) 0 ⟨.inl rfl,rfl⟩ (by simp only [↓wR,RA,simprocAttr,TF,ae]<;>rfl) (by simp only [↓wR,RA,simprocAttr,TF,ae]<;>rfl) ?_
  rintro k ⟨hk,hx⟩
  simp only [↓wR,RA,simprocAttr,TF,ae]
  rw [bb];refine ⟨fun h5=>?_,fun h5=>?_⟩
  ·obtain ⟨a,ha⟩:∃ a,s.data[k]? = some a:=⟨_,List.getElem?_eq_getElem (by omega)⟩
   obtain ⟨b,hb⟩:∃ b,s.data[k+1]? = some b:=⟨_,List.getElem?_eq_getElem (by omega)⟩
   rw [Ei _ ha hb] at hx
   have has:=hd.mem a (List.mem_of_getElem? ha)
   have hbs:=hd.mem b (List.mem_of_getElem? hb)
   simp only [↓wR,RA,simprocAttr,TF,ae,h5]
   refine ⟨by kernel_rfl,.inl ?_⟩
   simp only [↓wR,RA,simprocAttr,TF,ae,ha,hb,Int.add_sub_cancel,qc,xa,mc,has,hbs];repeat (simp (disch:=omega) only [ag,bz,b9,bu,bw];try simp only [↓wR,RA,simprocAttr,TF,ae,ha,hb,Int.add_sub_cancel,qc,xa,mc,has,hbs])
   refine ⟨by kernel_rfl,?_⟩
   rw [bb];refine ⟨fun h6=>?_,fun h6=>?_⟩
   ·rw [if_pos h6] at hx
    simp only [↓wR,RA,simprocAttr,TF,ae,h6]
    rw [hv,hx]
   ·rw [if_neg h6] at hx
    simp only [↓wR,RA,simprocAttr,TF,ae,h6];repeat (simp (disch:=omega) only [ag,bz,b9,bu,bw];try simp only [↓wR,RA,simprocAttr,TF,ae,h6])
    exact ⟨k+1,⟨.inr (by omega),hx⟩,by omega,by (first|rfl|trivial|omega|((try (simp (disch:=omega) only [ag]));(try (simp only [FB]));first|done|rfl|omega))⟩
  ·rw [Cb _ (by omega)] at hx
   simp only [↓wR,RA,simprocAttr,TF,ae,h5]
   rw [hv,hx]
 ·simp only [↓wR,RA,simprocAttr,TF,ae,h]
  have hi0:i=0:=by omega
  have hv:fu l.z i s=ng s.type s.data:=by rw [hi0];simp [fu]
  refine ⟨by kernel_rfl,?_⟩
  refine dp [5,7] (fun (k:Nat)=>[.ptr 0 0,.sc (.int .i64 ((k:Int)+1))]) (fun _=>[some (.row [.vl false 1 (s.owner.map (ai.val false)),.sc (.int .u16 s.type.toNat),.sc (.int .u16 s.cls.toNat),.sc (.int .u32 s.gm.toNat),.vl false 4 (s.data.map (ay.val false))] 0 2 31)]) (fun k=>(k=0∨k+1≤s.data.length)∧ng s.type s.data=ng s.type (s.data.drop k)) (fun k=>s.data.length - k) 0 ⟨.inl rfl,rfl⟩ (by simp only [↓wR,RA,simprocAttr,TF,ae]<;>rfl) (by simp only [↓wR,RA,simprocAttr,TF,ae]<;>rfl) ?_
  rintro k ⟨hk,hx⟩
  simp only [↓wR,RA,simprocAttr,TF,ae]
  rw [bb];refine ⟨fun h5=>?_,fun h5=>?_⟩
  ·obtain ⟨a,ha⟩:∃ a,s.data[k]? = some a:=⟨_,List.getElem?_eq_getElem (by omega)⟩
   obtain ⟨b,hb⟩:∃ b,s.data[k+1]? = some b:=⟨_,List.getElem?_eq_getElem (by omega)⟩
   rw [Ei _ ha hb] at hx
   have has:=hd.mem a (List.mem_of_getElem? ha)
   have hbs:=hd.mem b (List.mem_of_getElem? hb)
   simp only [↓wR,RA,simprocAttr,TF,ae,h5]
   refine ⟨by kernel_rfl,.inl ?_⟩
   simp only [↓wR,RA,simprocAttr,TF,ae,ha,hb,Int.add_sub_cancel,qc,xa,mc,has,hbs];repeat (simp (disch:=omega) only [ag,bz,b9,bu,bw];try simp only [↓wR,RA,simprocAttr,TF,ae,ha,hb,Int.add_sub_cancel,qc,xa,mc,has,hbs])
   refine ⟨by kernel_rfl,?_⟩
   rw [bb];refine ⟨fun h6=>?_,fun h6=>?_⟩
   ·rw [if_pos h6] at hx
    simp only [↓wR,RA,simprocAttr,TF,ae,h6]
    rw [hv,hx]
   ·rw [if_neg h6] at hx
    simp only [↓wR,RA,simprocAttr,TF,ae,h6];repeat (simp (disch:=omega) only [ag,bz,b9,bu,bw];try simp only [↓wR,RA,simprocAttr,TF,ae,h6])
    exact ⟨k+1,⟨.inr (by omega),hx⟩,by omega,by (first|rfl|trivial|omega|((try (simp (disch:=omega) only [ag]));(try (simp only [FB]));first|done|rfl|omega))⟩
  ·rw [Cb _ (by omega)] at hx
   simp only [↓wR,RA,simprocAttr,TF,ae,h5]
   rw [hv,hx]
theorem an5 (l:sg) (i:Int) (s:bf) (hz:bq l.z) (hs:dg s) (hi : 0≤i∧i≤l.z.ah.length):wl PP [acv,Fh] 0 (Tryz.f77.body.getD .skip) (db PP Tryz.f77.results.toList (fun r st=>(r1 az).get true st.h r=some (fu l.z i.toNat s))) (cd 0 [.ft (lh.cells false l),(ba .i64).val false i,ar.val false s]) (bk []):=by
 have:=apb l i.toNat s hz hs (by omega)
 rwa [Int.toNat_of_nonneg hi.1] at this
noncomputable def Gk (x:sg × Int × bf × Unit):Option AV:=if (bq x.1.z∧dg x.2.2.1)∧0≤x.2.1∧x.2.1≤x.1.z.ah.length then some ((r1 az).E true (fu x.1.z x.2.1.toNat x.2.2.1)) else none
set_option maxRecDepth 2000000 in
theorem M2 (x:sg × Int × bf × Unit) (r:AV) (h:Gk x=some r):bc PP 77 ((aP lh (aC (ba .i64) (aC ar a0))).E x) r:=by
 by_cases hc:(bq x.1.z∧dg x.2.2.1)∧0≤x.2.1∧x.2.1≤x.1.z.ah.length
 case neg=>simp only [Gk,if_neg hc] at h;cases h
 simp only [Gk,if_pos hc] at h
 cases h
 exact au (ak.cons (aj Xv) (ak.cons (aj Dj) (ak.nil PP))) Tryz.func77 (by kernel_rfl) (by kernel_rfl) (by kernel_rfl) (Nat.le_of_ble_eq_true (by kernel_rfl)) (r1 az) true (fu x.1.z x.2.1.toNat x.2.2.1) (an5 x.1 x.2.1 x.2.2.1 hc.1.1 hc.1.2 hc.2)
noncomputable abbrev jj:Nat × Bool × (List AV→M AV):=(77,true,cx (aP lh (aC (ba .i64) (aC ar a0))) Gk)
def qv (i:Nat) (n:Name):Nat→List bf→Bool
 |_,[]=>false
 |k,o::r=>(decide (¬ (k:Int)=i) && fg o.owner n) || qv i n (k+1) r
def i5 (z:be) (i:Nat) (s:bf):Bool:=
 if ¬ (s.type.toNat:Int)=5 then true else if ¬ (s.data.length:Int)=1 then false else if fg s.owner z.origin=true then false else !qv i s.owner 0 z.ah
theorem apl (l:sg) (i:Nat) (s:bf) (hz:bq l.z) (hs:dg s):wl PP [fc] 0 (Tryz.f82.body.getD .skip) (db PP Tryz.f82.results.toList (fun r st=>(r1 az).get true st.h r=some (i5 l.z i s))) (cd 0 [.ft (lh.cells false l),(ba .i64).val false i,ar.val false s]) (bk []):=by
 have hl:=hz.len
 unfold Tryz.f82
 simp only [gy]
 simp only [↓wR,RA,simprocAttr,TF,ae,zy]
 unfold i5
 rw [de];refine ⟨fun ⟨h,e⟩=>?_,fun ⟨h,e⟩=>?_⟩
 ·rw [if_pos e]
  simp only [↓wR,RA,simprocAttr,TF,ae,h]
 rw [if_neg (by omega)]
 simp only [↓wR,RA,simprocAttr,TF,ae,h]
 refine ⟨by kernel_rfl,.inl ?_⟩
 rw [de];refine ⟨fun ⟨h2,e2⟩=>?_,fun ⟨h2,e2⟩=>?_⟩
 ·rw [if_pos e2]
  simp only [↓wR,RA,simprocAttr,TF,ae,h2]
  exact by kernel_rfl
 rw [if_neg (by omega)]
 simp only [↓wR,RA,simprocAttr,TF,ae,h2,kj,hs.owner,hz.origin]
 refine ⟨by kernel_rfl,?_⟩
 rw [cy];refine ⟨fun h3=>?_,fun h3=>?_⟩
 ·rw [if_pos h3]
  simp only [↓wR,RA,simprocAttr,TF,ae,h3]
 rw [if_neg (by rw [h3];decide)]
 simp only [↓wR,RA,simprocAttr,TF,ae,h3]
 refine dp [1,5,30,31,32] (fun (k:Nat)=>[.sc (.int .i64 (i)),.ptr 0 0,.vl false 5 (l.z.ah.map (ar.val false)),.sc (.int .i64 (l.z.ah.length)),.sc (.int .i64 (k))]) (fun _=>[some (.row [.vl false 1 (s.owner.map (ai.val false)),.sc (.int .u16 s.type.toNat),.sc (.int .u16 s.cls.toNat),.sc (.int .u32 s.gm.toNat),.vl false 4 (s.data.map (ay.val false))] 0 2 31)]) (fun k=>k≤l.z.ah.length∧qv i s.owner 0 l.z.ah=qv i s.owner k (l.z.ah.drop k)) (fun k=>l.z.ah.length - k) 0 ⟨Nat.zero_le _,rfl⟩ (by simp only [↓wR,RA,simprocAttr,TF,ae]<;>rfl) (by simp only [↓wR,RA,simprocAttr,TF,ae]<;>rfl) ?_
 rintro k ⟨hk,hx⟩
 simp only [↓wR,RA,simprocAttr,TF,ae]
 rw [bb];refine ⟨fun h4=>?_,fun h4=>?_⟩
 ·obtain ⟨c,hc,hd1,hlt⟩:=dq (decide_eq_true h4)
  rw [hd1,qv] at hx
  have hcs:=hz.set c (List.mem_of_getElem? hc)
  simp only [↓wR,RA,simprocAttr,TF,ae,h4,hc]
  rw [de];refine ⟨fun ⟨h5,e5⟩=>?_,fun ⟨h5,e5⟩=>?_⟩
  ·rw [decide_eq_true e5,Bool.true_and] at hx
   simp only [↓wR,RA,simprocAttr,TF,ae,h5,kj,hcs.owner,hs.owner]
   rw [cy];refine ⟨fun h6=>?_,fun h6=>?_⟩
   ·rw [h6,Bool.true_or] at hx
    simp only [↓wR,RA,simprocAttr,TF,ae,h6]
    rw [hx];rfl
   ·rw [h6,Bool.false_or] at hx
    simp only [↓wR,RA,simprocAttr,TF,ae,h6];repeat (simp (disch:=omega) only [ag,bz,b9,bu,bw];try simp only [↓wR,RA,simprocAttr,TF,ae,h6])
    exact ⟨k+1,⟨hlt,hx⟩,by omega,by (first|rfl|trivial|omega|((try (simp (disch:=omega) only [ag]));(try (simp only [FB]));first|done|rfl|omega))⟩
  ·rw [decide_eq_false (by omega),Bool.false_and,Bool.false_or] at hx
   simp only [↓wR,RA,simprocAttr,TF,ae,h5];repeat (simp (disch:=omega) only [ag,bz,b9,bu,bw];try simp only [↓wR,RA,simprocAttr,TF,ae,h5])
   exact ⟨k+1,⟨hlt,hx⟩,by omega,by (first|rfl|trivial|omega|((try (simp (disch:=omega) only [ag]));(try (simp only [FB]));first|done|rfl|omega))⟩
 ·rw [en (decide_eq_false h4),qv] at hx
  simp only [↓wR,RA,simprocAttr,TF,ae,h4]
  rw [hx];rfl
theorem als (l:sg) (i:Int) (s:bf) (hz:bq l.z) (hs:dg s) (hi : 0≤i):wl PP [fc] 0 (Tryz.f82.body.getD .skip) (db PP Tryz.f82.results.toList (fun r st=>(r1 az).get true st.h r=some (i5 l.z i.toNat s))) (cd 0 [.ft (lh.cells false l),(ba .i64).val false i,ar.val false s]) (bk []):=by
 have:=apl l i.toNat s hz hs
 rwa [Int.toNat_of_nonneg hi] at this
noncomputable def Cm (x:sg × Int × bf × Unit):Option AV:=if (bq x.1.z∧dg x.2.2.1)∧0≤x.2.1 then some ((r1 az).E true (i5 x.1.z x.2.1.toNat x.2.2.1)) else none
set_option maxRecDepth 2000000 in
theorem M6 (x:sg × Int × bf × Unit) (r:AV) (h:Cm x=some r):bc PP 82 ((aP lh (aC (ba .i64) (aC ar a0))).E x) r:=by
 by_cases hc:(bq x.1.z∧dg x.2.2.1)∧0≤x.2.1
 case neg=>simp only [Cm,if_neg hc] at h;cases h
 simp only [Cm,if_pos hc] at h
 cases h
 exact au (ak.cons (aj n6) (ak.nil PP)) Tryz.func82 (by kernel_rfl) (by kernel_rfl) (by kernel_rfl) (Nat.le_of_ble_eq_true (by kernel_rfl)) (r1 az) true (i5 x.1.z x.2.1.toNat x.2.2.1) (als x.1 x.2.1 x.2.2.1 hc.1.1 hc.1.2 hc.2)
noncomputable abbrev jl:Nat × Bool × (List AV→M AV):=(82,true,cx (aP lh (aC (ba .i64) (aC ar a0))) Cm)
def ji (s:bf):Bool:=if ¬ (s.cls.toNat:Int)=1 then false else if (s.type.toNat:Int)=0 then false else if (s.type.toNat:Int)=41 then false else !decide ((s.type.toNat:Int)=255)
theorem apv (i:Int) (s:bf):wl PP [] 0 (Tryz.f78.body.getD .skip) (db PP Tryz.f78.results.toList (fun r st=>(r1 az).get true st.h r=some (ji s))) (cd 0 [(ba .i64).val false i,ar.val false s]) (bk []):=by
 unfold Tryz.f78
 simp only [gy]
 simp only [↓wR,RA,simprocAttr,TF,ae]
 unfold ji
 rw [cj];refine ⟨fun ⟨h,e⟩=>?_,fun ⟨h,e⟩=>?_⟩
 ·rw [if_neg (by omega)]
  simp only [↓wR,RA,simprocAttr,TF,ae,h]
  rw [de];refine ⟨fun ⟨h2,e2⟩=>?_,fun ⟨h2,e2⟩=>?_⟩
  ·rw [if_neg e2]
   simp only [↓wR,RA,simprocAttr,TF,ae,h2]
   rw [de];refine ⟨fun ⟨h3,e3⟩=>?_,fun ⟨h3,e3⟩=>?_⟩
   ·rw [if_neg e3]
    simp only [↓wR,RA,simprocAttr,TF,ae,h3]
    rfl
   ·rw [if_pos e3]
    simp only [↓wR,RA,simprocAttr,TF,ae,h3]
  ·rw [if_pos e2]
   simp only [↓wR,RA,simprocAttr,TF,ae,h2]
 ·rw [if_pos e]
  simp only [↓wR,RA,simprocAttr,TF,ae,h]
noncomputable def Tg (x:Int × bf × Unit):Option AV:=some ((r1 az).E true (ji x.2.1))
set_option maxRecDepth 2000000 in
theorem Nr (x:Int × bf × Unit) (r:AV) (h:Tg x=some r):bc PP 78 ((aC (ba .i64) (aC ar a0)).E x) r:=by
 cases h
 exact au (ak.nil PP) Tryz.func78 (by kernel_rfl) (by kernel_rfl) (by kernel_rfl) (Nat.le_of_ble_eq_true (by kernel_rfl)) (r1 az) true (ji x.2.1) (apv x.1 x.2.1)
noncomputable abbrev jg:Nat × Bool × (List AV→M AV):=(78,true,cx (aC (ba .i64) (aC ar a0)) Tg)
theorem aot (i:Int) (s:bf) (z:be) (hs:dg s) (hz:bq z):wl PP [A7] 0 (Tryz.f79.body.getD .skip) (db PP Tryz.f79.results.toList (fun r st=>(r1 az).get true st.h r=some (eg s.owner z.origin))) (cd 0 [(ba .i64).val false i,ar.val false s,.ft (ca.cells false z)]) (bk []):=by
 unfold Tryz.f79
 simp only [gy]
 simp only [↓wR,RA,simprocAttr,TF,ae,Ag,oe,hs.owner,hz.origin]
noncomputable def Dy (x:Int × bf × be × Unit):Option AV:=if dg x.2.1∧bq x.2.2.1 then some ((r1 az).E true (eg x.2.1.owner x.2.2.1.origin)) else none
set_option maxRecDepth 2000000 in
theorem Jd (x:Int × bf × be × Unit) (r:AV) (h:Dy x=some r):bc PP 79 ((aC (ba .i64) (aC ar (aP ca a0))).E x) r:=by
 by_cases hc:dg x.2.1∧bq x.2.2.1
 case neg=>simp only [Dy,if_neg hc] at h;cases h
 simp only [Dy,if_pos hc] at h
 cases h
 exact au (ak.cons (aj re) (ak.nil PP)) Tryz.func79 (by kernel_rfl) (by kernel_rfl) (by kernel_rfl) (Nat.le_of_ble_eq_true (by kernel_rfl)) (r1 az) true (eg x.2.1.owner x.2.2.1.origin) (aot x.1 x.2.1 x.2.2.1 hc.1 hc.2)
noncomputable abbrev ig:Nat × Bool × (List AV→M AV):=(79,true,cx (aC (ba .i64) (aC ar (aP ca a0))) Dy)
def iz (s:bf):Bool:=if ¬ (s.type.toNat:Int)=2 then true else match s.owner[0]? with|none=>true|some a=>!decide (a=G2)
theorem atm (i:Int) (s:bf) (hs:dg s):wl PP [] 0 (Tryz.f83.body.getD .skip) (db PP Tryz.f83.results.toList (fun r st=>(r1 az).get true st.h r=some (iz s))) (cd 0 [(ba .i64).val false i,ar.val false s]) (bk []):=by
 have hn:=hs.owner.lt
 unfold Tryz.f83
 simp only [gy]
 simp only [↓wR,RA,simprocAttr,TF,ae]
 unfold iz
 rw [de];refine ⟨fun ⟨h,e⟩=>?_,fun ⟨h,e⟩=>?_⟩
 ·rw [if_pos e]
  simp only [↓wR,RA,simprocAttr,TF,ae,h]
 rw [if_neg (by omega)]
 simp only [↓wR,RA,simprocAttr,TF,ae,h]
 rw [cj];refine ⟨fun ⟨h2,e2⟩=>?_,fun ⟨h2,e2⟩=>?_⟩
 ·have hnil:s.owner=[]:=List.eq_nil_of_length_eq_zero (by omega)
  have h0:s.owner[0]? = none:=by rw [hnil];rfl
  rw [h0]
  simp only [↓wR,RA,simprocAttr,TF,ae,h2]
 ·obtain ⟨a,ha⟩:∃ a,s.owner[0]? = some a:=⟨_,List.getElem?_eq_getElem (by omega)⟩
  have h0 : 0<s.owner.length:=by omega
  rw [ha]
  simp only [↓wR,RA,simprocAttr,TF,ae,h2,ha,h0]
  rfl
noncomputable def F5 (x:Int × bf × Unit):Option AV:=if dg x.2.1 then some ((r1 az).E true (iz x.2.1)) else none
set_option maxRecDepth 2000000 in
theorem Sp (x:Int × bf × Unit) (r:AV) (h:F5 x=some r):bc PP 83 ((aC (ba .i64) (aC ar a0)).E x) r:=by
 by_cases hc:dg x.2.1
 case neg=>simp only [F5,if_neg hc] at h;cases h
 simp only [F5,if_pos hc] at h
 cases h
 exact au (ak.nil PP) Tryz.func83 (by kernel_rfl) (by kernel_rfl) (by kernel_rfl) (Nat.le_of_ble_eq_true (by kernel_rfl)) (r1 az) true (iz x.2.1) (atm x.1 x.2.1 hc)
noncomputable abbrev kl:Nat × Bool × (List AV→M AV):=(83,true,cx (aC (ba .i64) (aC ar a0)) F5)
def ki (z:be) (s:bf):Bool:=
 match l0 z s.owner with
 |none=>true
 |some c=>if (s.type.toNat:Int)=1 then true else if (s.type.toNat:Int)=28 then true else if (s.type.toNat:Int)=2 then fg c s.owner else false
theorem awp (i:Int) (s:bf) (z:be) (hs:dg s) (hz:bq z):wl PP [apz,fc] 0 (Tryz.f84.body.getD .skip) (db PP Tryz.f84.results.toList (fun r st=>(r1 az).get true st.h r=some (ki z s))) (cd 0 [(ba .i64).val false i,ar.val false s,.ft (ca.cells false z)]) (bk []):=by
 have hsm:=W3 (n:=s.owner) hz z.ah none (fun _ h=>h) (fun m hm=>by cases hm)
 change ∀ m,l0 z s.owner=some m→bj m at hsm
 unfold Tryz.f84
 simp only [gy]
 unfold ki
 cases hc:l0 z s.owner with
 |none=>
  simp only [↓wR,RA,simprocAttr,TF,ae,Ag,Hi,hs.owner,hz,hc,Option.isSome_none]
  done
 |some c=>
  simp only [↓wR,RA,simprocAttr,TF,ae,Ag,Hi,hs.owner,hz,hc]
  rw [cj];refine ⟨fun ⟨h,e⟩=>?_,fun ⟨h,e⟩=>?_⟩
  ·rw [if_pos e]
   simp only [↓wR,RA,simprocAttr,TF,ae,h]
  rw [if_neg e]
  simp only [↓wR,RA,simprocAttr,TF,ae,h]
  rw [cj];refine ⟨fun ⟨h2,e2⟩=>?_,fun ⟨h2,e2⟩=>?_⟩
  ·rw [if_pos e2]
   simp only [↓wR,RA,simprocAttr,TF,ae,h2]
  rw [if_neg e2]
  simp only [↓wR,RA,simprocAttr,TF,ae,h2]
  rw [cj];refine ⟨fun ⟨h3,e3⟩=>?_,fun ⟨h3,e3⟩=>?_⟩
  ·rw [if_pos e3]
   simp only [↓wR,RA,simprocAttr,TF,ae,h3,kj,hs.owner,hsm c hc]
  ·rw [if_neg e3]
   simp only [↓wR,RA,simprocAttr,TF,ae,h3]
noncomputable def Mc (x:Int × bf × be × Unit):Option AV:=if dg x.2.1∧bq x.2.2.1 then some ((r1 az).E true (ki x.2.2.1 x.2.1)) else none
set_option maxRecDepth 2000000 in
theorem Wh (x:Int × bf × be × Unit) (r:AV) (h:Mc x=some r):bc PP 84 ((aC (ba .i64) (aC ar (aP ca a0))).E x) r:=by
 by_cases hc:dg x.2.1∧bq x.2.2.1
 case neg=>simp only [Mc,if_neg hc] at h;cases h
 simp only [Mc,if_pos hc] at h
 cases h
 exact au (ak.cons (aj Wb) (ak.cons (aj n6) (ak.nil PP))) Tryz.func84 (by kernel_rfl) (by kernel_rfl) (by kernel_rfl) (Nat.le_of_ble_eq_true (by kernel_rfl)) (r1 az) true (ki x.2.2.1 x.2.1) (awp x.1 x.2.1 x.2.2.1 hc.1 hc.2)
noncomputable abbrev nm:Nat × Bool × (List AV→M AV):=(84,true,cx (aC (ba .i64) (aC ar (aP ca a0))) Mc)
def mg (z:be) (p:Nat × Nat) (s:bf):Nat × Nat:=
 if (s.type.toNat:Int)=6 then (p.1+1,if (fg s.owner z.origin && decide ((s.data.length:Int)=1))=true then p.2+1 else p.2) else p
def fp (z:be):Nat × Nat:=z.ah.foldl (mg z) (0,0)
theorem atv (k:sg) (hz:bq k.z):wl PP [fc] 0 (Tryz.f80.body.getD .skip) (db PP Tryz.f80.results.toList (fun r st=>(r2 (ba .i64) (ba .i64)).get true st.h r=some (((fp k.z).1:Int),((fp k.z).2:Int)))) (cd 0 [.ft (lh.cells false k)]) (bk []):=by
 have hl:=hz.len
 unfold Tryz.f80
 simp only [↓wR,RA,simprocAttr,TF,ae,zy]
 refine c8 (T:=[]) (ak.nil PP) mixed Tryz.func70 rfl (by kernel_rfl) (by kernel_rfl) (by kernel_rfl) (by kernel_rfl) ?_;unfold Tryz.f70
 simp only [↓wR,RA,simprocAttr,TF,ae]
 refine ⟨[1,4,5,11],?_⟩
 have hib:xq PP 120=some (Tryz.f120.ntmps,Tryz.f120.body.getD .skip):=by kernel_rfl
 simp only [↓wR,RA,simprocAttr,TF,ae,hib]
 refine ⟨by kernel_rfl,fun l=>?_⟩
 unfold Tryz.f120
 simp only [↓wR,RA,simprocAttr,TF,ae]
 refine Er [0,2,7,8,9] (fun (x:Nat × Nat × Nat)=>[.sc (.func (.yield l) #[] #[]),.ptr 4 0,.vl false 5 (k.z.ah.map (ar.val false)),.sc (.int .i64 (k.z.ah.length)),.sc (.int .i64 (x.1))]) (fun x=>[some (.row [.ft [.vl false 1 (k.z.origin.map (ai.val false)),.vl false 5 (k.z.ah.map (ar.val false)),.sc (.int .i64 (k.e))]] 0 2 109),some (.row [.sc (.int .i64 (x.2.1:Int))] 0 2 3),some (.row [.sc (.int .i64 (x.2.2:Int))] 0 2 3),some (.row [.vl false 1 (k.z.origin.map (ai.val false)),.vl false 5 (k.z.ah.map (ar.val false))] 0 2 41),some (.row [.sc (.int .u16 6)] 0 2 26)]) (fun x=>x.1≤k.z.ah.length∧x.2.1≤x.1∧x.2.2≤x.1∧fp k.z=(k.z.ah.drop x.1).foldl (mg k.z) x.2) (fun x=>k.z.ah.length - x.1) (0,0,0) ⟨Nat.zero_le _,Nat.le_refl _,Nat.le_refl _,rfl⟩ (by simp only [↓wR,RA,simprocAttr,TF,ae]<;>rfl) (by simp only [↓wR,RA,simprocAttr,TF,ae]<;>rfl) ?_
 rintro ⟨i,n,m⟩ ⟨hi,hn,hm,hx⟩
 simp only at hi hn hm hx
 simp only [↓wR,RA,simprocAttr,TF,ae]
 rw [qu];refine ⟨fun h=>?_,fun h=>?_⟩
 ·obtain ⟨c,hc,hd1,hlt⟩:=dq h
  have hcs:=hz.set c (List.mem_of_getElem? hc)
  have hstep:fp k.z=(k.z.ah.drop (i+1)).foldl (mg k.z) (mg k.z (n,m) c):=by rw [hx,hd1];rfl
  simp only [↓wR,RA,simprocAttr,TF,ae,h,hc]
  rw [qu];refine ⟨fun h2=>?_,fun h2=>?_⟩
  ·have e2:(c.type.toNat:Int)=6:=by simpa using h2
   simp only [↓wR,RA,simprocAttr,TF,ae,h2]
   refine u6 [0,2,7,8,9,17,19] ?_
   simp only [↓wR,RA,simprocAttr,TF,ae,vm,mb];repeat (simp (disch:=omega) only [ag,bz,b9,bu,bw];try simp only [↓wR,RA,simprocAttr,TF,ae,vm,mb])
   refine ⟨by kernel_rfl,.inl ?_⟩
   simp only [↓wR,RA,simprocAttr,TF,ae,kj,hcs.owner,hz.origin]
   have fin:∀ q,mg k.z (n,m) c=(n+1,q)→q≤i+1→fp k.z=(k.z.ah.drop (i+1)).foldl (mg k.z) (n+1,q):=fun q hq _=>by rw [hstep,hq]
   rw [cy];refine ⟨fun h3=>?_,fun h3=>?_⟩
   ·simp only [↓wR,RA,simprocAttr,TF,ae,h3]
    refine ⟨by kernel_rfl,?_⟩
    rw [cj];refine ⟨fun ⟨h4,e4⟩=>?_,fun ⟨h4,e4⟩=>?_⟩
    ·have hq:mg k.z (n,m) c=(n+1,m+1):=by simp [mg,e2,h3,e4]
     simp only [↓wR,RA,simprocAttr,TF,ae,h4];repeat (simp (disch:=omega) only [ag,bz,b9,bu,bw];try simp only [↓wR,RA,simprocAttr,TF,ae,h4])
     exact ⟨(i+1,n+1,m+1),⟨hlt,by simp;omega,by simp;omega,fin _ hq (by omega)⟩,by simp;omega,by (first|rfl|trivial|omega|((try (simp (disch:=omega) only [ag]));(try (simp only [FB]));first|done|rfl|omega)),by (first|rfl|trivial|omega|((try (simp (disch:=omega) only [ag]));(try (simp only [FB]));first|done|rfl|omega))⟩
    ·have hq:mg k.z (n,m) c=(n+1,m):=by simp [mg,e2,h3,e4]
     simp only [↓wR,RA,simprocAttr,TF,ae,h4];repeat (simp (disch:=omega) only [ag,bz,b9,bu,bw];try simp only [↓wR,RA,simprocAttr,TF,ae,h4])
     exact ⟨(i+1,n+1,m),⟨hlt,by simp;omega,by simp;omega,fin _ hq (by omega)⟩,by simp;omega,by (first|rfl|trivial|omega|((try (simp (disch:=omega) only [ag]));(try (simp only [FB]));first|done|rfl|omega)),by (first|rfl|trivial|omega|((try (simp (disch:=omega) only [ag]));(try (simp only [FB]));first|done|rfl|omega))⟩
   ·have hq:mg k.z (n,m) c=(n+1,m):=by simp [mg,e2,h3]
    simp only [↓wR,RA,simprocAttr,TF,ae,h3]
    refine ⟨by kernel_rfl,?_⟩
    exact ⟨(i+1,n+1,m),⟨hlt,by simp;omega,by simp;omega,fin _ hq (by omega)⟩,by simp;omega,by (first|rfl|trivial|omega|((try (simp (disch:=omega) only [ag]));(try (simp only [FB]));first|done|rfl|omega)),by (first|rfl|trivial|omega|((try (simp (disch:=omega) only [ag]));(try (simp only [FB]));first|done|rfl|omega))⟩
  ·have e2:¬ (c.type.toNat:Int)=6:=by simpa using h2
   have hb2:mg k.z (n,m) c=(n,m):=by simp [mg,e2]
   rw [hb2] at hstep
   simp only [↓wR,RA,simprocAttr,TF,ae,h2];repeat (simp (disch:=omega) only [ag,bz,b9,bu,bw];try simp only [↓wR,RA,simprocAttr,TF,ae,h2])
   exact ⟨(i+1,n,m),⟨hlt,by simp;omega,by simp;omega,hstep⟩,by simp;omega,by (first|rfl|trivial|omega|((try (simp (disch:=omega) only [ag]));(try (simp only [FB]));first|done|rfl|omega)),by (first|rfl|trivial|omega|((try (simp (disch:=omega) only [ag]));(try (simp only [FB]));first|done|rfl|omega))⟩
 ·rw [en h] at hx
  simp only [↓wR,RA,simprocAttr,TF,ae,h]
  refine ⟨by kernel_rfl,.inl ?_⟩
  refine ⟨by kernel_rfl,?_⟩
  rw [hx];rfl
noncomputable def K8 (x:sg × Unit):Option AV:=if bq x.1.z then some ((r2 (ba .i64) (ba .i64)).E true ((((fp x.1.z).1:Int),((fp x.1.z).2:Int)))) else none
set_option maxRecDepth 2000000 in
theorem Py (x:sg × Unit) (r:AV) (h:K8 x=some r):bc PP 80 ((aP lh a0).E x) r:=by
 by_cases hc:bq x.1.z
 case neg=>simp only [K8,if_neg hc] at h;cases h
 simp only [K8,if_pos hc] at h
 cases h
 exact au (ak.cons (aj n6) (ak.nil PP)) Tryz.func80 (by kernel_rfl) (by kernel_rfl) (by kernel_rfl) (Nat.le_of_ble_eq_true (by kernel_rfl)) (r2 (ba .i64) (ba .i64)) true ((((fp x.1.z).1:Int),((fp x.1.z).2:Int))) (atv x.1 hc)
noncomputable abbrev ko:Nat × Bool × (List AV→M AV):=(80,true,cx (aP lh a0) K8)
end Go.Proofs.YtgencolcibpcaaaGreat
end
