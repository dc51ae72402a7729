/- A piece of the proof. Proved: where the arguments are together of bulk at most 1048576, the law SetTurned returns true (sets hang on no order of records), and what it was given reads afterwards as it did before. No other conditions. -/
import Derived.WalkKit
import Derived.CallsIn
import Derived.RangeFuncIn
import Derived.RangeFuncLeaves
import Derived.Orders
import Derived.OrdersIn
import Derived.Scope
import Derived.RangeFuncOwn
import Derived.Stop.SameAnswer
import Derived.Laws.Externs
import Derived.Lib.Bytealg
import Derived.ProofKit
import Derived.OpenShut
import Derived.ReadAgain
import Derived.Deep.Slices
import Derived.ChangeSame
import Derived.Test.YtifjogffkafalaaProg
import Derived.KernelRfl
import Derived.Test.YtifjogffkafalaaRows
import Derived.Maps.RangeRun
import Derived.JoinedCond
import Derived.Test.YtifjogffkafalaaV2
set_option linter.unusedSimpArgs false
set_option linter.unusedVariables false
section
namespace Go.Proofs.Ytifjogffkafalaa
open Go.Vm
set_option maxRecDepth 2000000
theorem aij (n:Name):(re n).length≤br n:=by
 unfold re nameBytes
 split
 ·exact Nat.zero_le _
 ·have:=p8 n;rw [List.length_append];simp only [List.length_cons,List.length_nil];omega
noncomputable def Nr (t:UInt16) (n:UInt32):List UInt8:=(D2 n).drop (4 - (n8 t).size).toNat
def uy (t:UInt16):Nat→List ByteArray→List UInt8
 |_,[]=>[]
 |i,x::r=>(if (t.toNat:Int)=16∨i=0 then [UInt8.ofNat x.size] else [])++x.data.toList++uy t (i+1) r
noncomputable def Ab (t:UInt16) (d:bp):List UInt8:=d.nums.flatMap (Nr t)
def xx (d:bp):List UInt8:=d.names.flatMap re
def vz (t:UInt16) (d:bp):List UInt8:=uy t 0 d.texts
noncomputable def yu (t:UInt16) (d:bp):List UInt8:=if (t.toNat:Int)=6 then xx d++Ab t d else Ab t d++(xx d++(vz t d++d.raw))
theorem H0 (n):(D2 n).length=4:=rfl
theorem ab7 {α:Type} (f : α→List UInt8) (μ : α→Nat) (h:∀ x,(f x).length ≤ μ x) (l:List α):(l.flatMap f).length≤eh μ l:=by
 induction l with
 |nil=>simp
 |cons a l ih=>have:=h a;simp only [List.flatMap_cons,List.length_append,eh,List.foldr_cons] at ih ⊢;omega
theorem afs (t:UInt16) (l:List ByteArray):∀ i,(uy t i l).length≤eh ByteArray.size l:=by
 induction l with
 |nil=>intro i;simp [uy]
 |cons a l ih=>
  intro i
  have:=ih (i+1)
  have ha:a.data.size=a.size:=rfl
  simp only [uy,List.length_append,eh,List.foldr_cons,Array.length_toList] at this ⊢
  split<;>simp<;>omega
theorem aku (t d):(Ab t d).length≤4 * d.nums.length:=by
 unfold Ab
 induction d.nums with
 |nil=>simp
 |cons a l ih=>
  have:(Nr t a).length≤4:=by unfold Nr;rw [List.length_drop,H0];omega
  simp only [List.flatMap_cons,List.length_append,List.length_cons];omega
theorem cp.written {d:bp} (h:cp d) (t):(Ab t d).length≤67108864∧(xx d).length≤16777216∧(vz t d).length≤16777216:=by
 have h1:=aku t d
 have h2:(xx d).length≤eh br d.names:=ab7 re br aij d.names
 have h3:(vz t d).length≤eh ByteArray.size d.texts:=afs t d.texts 0
 unfold cp nj at h
 omega
theorem Ow {α:Type} {l:List α} {i:Nat} {c : α} (f : α→List UInt8) (h:l.drop i=c::l.drop (i+1)):(l.drop i).flatMap f=f c++(l.drop (i+1)).flatMap f:=by rw [h];rfl
theorem Pu (c):(D2 c).take 4=D2 c:=rfl
theorem adj (t) (c):(D2 c).drop (4 - (n8 t).size).toNat=Nr t c:=rfl
theorem aj0 (t:UInt16) {l:List ByteArray} {i:Nat} {c:ByteArray} (h:l.drop i=c::l.drop (i+1)):uy t i (l.drop i)=(if (t.toNat:Int)=16∨i=0 then [UInt8.ofNat c.size] else [])++c.data.toList++uy t (i+1) (l.drop (i+1)):=by rw [h];rfl
theorem am0 (t:UInt16) (d:bp) (hd:cp d):wl PP [Sn,arf,afx,aqg] 0 (Try.f36.body.getD .skip) (ea PP Try.f36.results.toList (fun r st=>(r1 (bt bd)).get true st.h r=some (yu t d))) (cq 0 [ca.val false t,ar.val false d]) (az []):=by
 have hl:=hd.lens
 have hk:=hd.written t
 have hs:=O6 t
 unfold Try.f36
 simp only [mf,ef]
 simp only [↓wR,RA,simprocAttr,TF,B3,Cn]
 refine nq [0,3,6,7,8,21,22,23,5] (fun (x:Nat × List UInt8)=>[.sc (.int .u16 t.toNat),.ptr 0 0,.sc (.slice none 0 0),.sc (.slice none 0 0),.ptr 1 0,.vl false 1 (d.nums.map (cj.val false)),.sc (.int .i64 (d.nums.length)),.sc (.int .i64 (x.1)),.sl 2 0 x.2.length 1]) (fun x=>[some (.row [.vl false 1 (d.names.map (ay.val false)),.vl false 1 (d.nums.map (cj.val false)),.vl false 1 (d.texts.map (ak.val false)),.vl false 1 (d.raw.map (bd.val false))] 0 2 41),some (.row [.sc (.int .i64 (n8 t).names),.sc (.int .i64 (n8 t).nums),.sc (.int .i64 (n8 t).size),.sc (.int .i64 (n8 t).texts),.sc (.int .i64 (n8 t).raw)] 0 2 80),some (.row (x.2.map (bd.val false)) 0 0 5)]) (fun x=>x.1≤d.nums.length∧x.2++(d.nums.drop x.1).flatMap (Nr t)=Ab t d) (fun x=>d.nums.length - x.1) (0,[]) ⟨Nat.zero_le _,rfl⟩ (by simp only [↓wR,RA,simprocAttr,TF];(refine ny.lax [] (by first|exact Nat.le_of_ble_eq_true rfl|(simp [be];omega)) ?_ ?_<;>repeat' first|exact je.nil|exact dn.nil|exact kx.same _|exact kx.nil _ _ _|exact kx.zf _ _|exact dn.refl _ _|apply je.cons|apply dn.ghost|apply dn.same|apply dn.row)) ?_
 rintro ⟨i,x⟩ ⟨hi,hx⟩
 simp only at hi hx
 simp only [↓wR,RA,simprocAttr,TF]
 rw [bz];refine ⟨fun h=>?_,fun h=>?_⟩
 ·obtain ⟨c,hc,hd1,hlt⟩:=ku (decide_eq_true h)
  rw [Ow _ hd1] at hx
  have hxl:x.length+(Nr t c).length≤(Ab t d).length:=by rw [← hx];simp
  simp only [↓wR,RA,simprocAttr,TF,h,hc,Kg,H0,Pu,adj];repeat (simp (disch:=omega) only [ah,cb,cd,cg,cf];try simp only [↓wR,RA,simprocAttr,TF,h,hc,Kg,H0,Pu,adj])
  exact ⟨(i+1,x++Nr t c),⟨hlt,by rw [List.append_assoc];exact hx⟩,by simp;omega,by (first|rfl|trivial|omega|((try (simp (disch:=omega) only [ah]));(try (simp only [FB]));first|done|rfl|omega)),by (first|rfl|trivial|omega|((try (simp (disch:=omega) only [ah]));(try (simp only [FB]));first|done|rfl|omega))⟩
 rw [oc (decide_eq_false h)] at hx
 obtain rfl:x=Ab t d:=by simpa using hx
 clear hx
 simp only [↓wR,RA,simprocAttr,TF,h]
 obtain ⟨nu,hnu⟩:∃ nu,Ab t d=nu:=⟨_,rfl⟩
 rw [hnu] at hk ⊢
 refine nq [0,3,7,38,39,40,5,6] (fun (x:Nat × List UInt8)=>[.sc (.int .u16 t.toNat),.ptr 0 0,.sc (.slice none 0 0),.vl false 1 (d.names.map (ay.val false)),.sc (.int .i64 (d.names.length)),.sc (.int .i64 (x.1)),.sl 1 0 nu.length 1,.sl 2 0 x.2.length 1]) (fun x=>[some (.row [.vl false 1 (d.names.map (ay.val false)),.vl false 1 (d.nums.map (cj.val false)),.vl false 1 (d.texts.map (ak.val false)),.vl false 1 (d.raw.map (bd.val false))] 0 2 41),some (.row (nu.map (bd.val false)) 0 0 5),some (.row (x.2.map (bd.val false)) 0 0 5)]) (fun x=>x.1≤d.names.length∧x.2++(d.names.drop x.1).flatMap re=xx d) (fun x=>d.names.length - x.1) (0,[]) ⟨Nat.zero_le _,rfl⟩ (by simp only [↓wR,RA,simprocAttr,TF];(refine ny.lax [] (by first|exact Nat.le_of_ble_eq_true rfl|(simp [be];omega)) ?_ ?_<;>repeat' first|exact je.nil|exact dn.nil|exact kx.same _|exact kx.nil _ _ _|exact kx.zf _ _|exact dn.refl _ _|apply je.cons|apply dn.ghost|apply dn.same|apply dn.row)) ?_
 clear h
 rintro ⟨i,x⟩ ⟨hi,hx⟩
 simp only at hi hx
 simp only [↓wR,RA,simprocAttr,TF]
 rw [bz];refine ⟨fun h=>?_,fun h=>?_⟩
 ·obtain ⟨c,hc,hd1,hlt⟩:=ku (decide_eq_true h)
  rw [Ow _ hd1] at hx
  have hxl:x.length+(re c).length≤(xx d).length:=by rw [← hx];simp
  simp only [↓wR,RA,simprocAttr,TF,h,hc,tq,hd.name c (List.mem_of_getElem? hc)];repeat (simp (disch:=omega) only [ah,cb,cd,cg,cf];try simp only [↓wR,RA,simprocAttr,TF,h,hc,tq,hd.name c (List.mem_of_getElem? hc)])
  exact ⟨(i+1,x++re c),⟨hlt,by rw [List.append_assoc];exact hx⟩,by simp;omega,by (first|rfl|trivial|omega|((try (simp (disch:=omega) only [ah]));(try (simp only [FB]));first|done|rfl|omega)),by (first|rfl|trivial|omega|((try (simp (disch:=omega) only [ah]));(try (simp only [FB]));first|done|rfl|omega))⟩
 rw [oc (decide_eq_false h)] at hx
 obtain rfl:x=xx d:=by simpa using hx
 clear hx
 simp only [↓wR,RA,simprocAttr,TF,h]
 obtain ⟨na,hna⟩:∃ na,xx d=na:=⟨_,rfl⟩
 rw [hna] at hk ⊢
 refine nq [0,3,54,55,56,5,6,7] (fun (x:Nat × List UInt8)=>[.sc (.int .u16 t.toNat),.ptr 0 0,.vl false 1 (d.texts.map (ak.val false)),.sc (.int .i64 (d.texts.length)),.sc (.int .i64 (x.1)),.sl 1 0 nu.length 1,.sl 2 0 na.length 1,.sl 3 0 x.2.length 1]) (fun x=>[some (.row [.vl false 1 (d.names.map (ay.val false)),.vl false 1 (d.nums.map (cj.val false)),.vl false 1 (d.texts.map (ak.val false)),.vl false 1 (d.raw.map (bd.val false))] 0 2 41),some (.row (nu.map (bd.val false)) 0 0 5),some (.row (na.map (bd.val false)) 0 0 5),some (.row (x.2.map (bd.val false)) 0 0 5)]) (fun x=>x.1≤d.texts.length∧x.2++uy t x.1 (d.texts.drop x.1)=vz t d) (fun x=>d.texts.length - x.1) (0,[]) ⟨Nat.zero_le _,rfl⟩ (by simp only [↓wR,RA,simprocAttr,TF];(refine ny.lax [] (by first|exact Nat.le_of_ble_eq_true rfl|(simp [be];omega)) ?_ ?_<;>repeat' first|exact je.nil|exact dn.nil|exact kx.same _|exact kx.nil _ _ _|exact kx.zf _ _|exact dn.refl _ _|apply je.cons|apply dn.ghost|apply dn.same|apply dn.row)) ?_
 clear h
 rintro ⟨i,x⟩ ⟨hi,hx⟩
 simp only at hi hx
 simp only [↓wR,RA,simprocAttr,TF]
 rw [bz];refine ⟨fun h=>?_,fun h=>?_⟩
 ·obtain ⟨c,hc,hd1,hlt⟩:=ku (decide_eq_true h)
  rw [aj0 _ hd1] at hx
  have hxl:x.length+((if (t.toNat:Int)=16∨i=0 then [UInt8.ofNat c.size] else []).length+c.size)≤(vz t d).length:=by rw [← hx];simp
  have hcs:c.data.toList.length=c.size:=by simp
  simp only [↓wR,RA,simprocAttr,TF,h,hc];repeat (simp (disch:=omega) only [ah,cb,cd,cg,cf];try simp only [↓wR,RA,simprocAttr,TF,h,hc])
  have fin:∀ b:List UInt8,x++(b++c.data.toList++uy t (i+1) (d.texts.drop (i+1)))=vz t d→x++b++c.data.toList++uy t (i+1) (d.texts.drop (i+1))=vz t d:=fun b hb=>by rw [← hb];simp
  rw [fm];refine ⟨fun ⟨h16,e16⟩=>?_,fun ⟨h16,e16⟩=>?_⟩
  ·rw [if_pos (.inl e16)] at hx hxl
   simp only [List.length_cons,List.length_nil] at hxl
   simp only [↓wR,RA,simprocAttr,TF,h16];repeat (simp (disch:=omega) only [ah,cb,cd,cg,cf];try simp only [↓wR,RA,simprocAttr,TF,h16])
   exact ⟨(i+1,x++[UInt8.ofNat c.size]++c.data.toList),⟨hlt,fin _ hx⟩,by simp;omega,by (first|rfl|trivial|omega|((try (simp (disch:=omega) only [ah]));(try (simp only [FB]));first|done|rfl|omega)),by (first|rfl|trivial|omega|((try (simp (disch:=omega) only [ah]));(try (simp only [FB]));first|done|rfl|omega))⟩
  ·simp only [↓wR,RA,simprocAttr,TF,h16];repeat (simp (disch:=omega) only [ah,cb,cd,cg,cf];try simp only [↓wR,RA,simprocAttr,TF,h16])
   rw [fm];refine ⟨fun ⟨h0,e0⟩=>?_,fun ⟨h0,e0⟩=>?_⟩
   ·rw [if_pos (.inr (by omega))] at hx hxl
    simp only [List.length_cons,List.length_nil] at hxl
    simp only [↓wR,RA,simprocAttr,TF,h0];repeat (simp (disch:=omega) only [ah,cb,cd,cg,cf];try simp only [↓wR,RA,simprocAttr,TF,h0])
    exact ⟨(i+1,x++[UInt8.ofNat c.size]++c.data.toList),⟨hlt,fin _ hx⟩,by simp;omega,by (first|rfl|trivial|omega|((try (simp (disch:=omega) only [ah]));(try (simp only [FB]));first|done|rfl|omega)),by (first|rfl|trivial|omega|((try (simp (disch:=omega) only [ah]));(try (simp only [FB]));first|done|rfl|omega))⟩
   ·rw [if_neg (by omega)] at hx hxl
    simp only [List.length_nil] at hxl
    simp only [↓wR,RA,simprocAttr,TF,h0];repeat (simp (disch:=omega) only [ah,cb,cd,cg,cf];try simp only [↓wR,RA,simprocAttr,TF,h0])
    exact ⟨(i+1,x++c.data.toList),⟨hlt,by have:=fin _ hx;simpa using this⟩,by simp;omega,by (first|rfl|trivial|omega|((try (simp (disch:=omega) only [ah]));(try (simp only [FB]));first|done|rfl|omega)),by (first|rfl|trivial|omega|((try (simp (disch:=omega) only [ah]));(try (simp only [FB]));first|done|rfl|omega))⟩
 rw [oc (decide_eq_false h)] at hx
 obtain rfl:x=vz t d:=by simpa [uy] using hx
 clear hx
 simp only [↓wR,RA,simprocAttr,TF,h];repeat (simp (disch:=omega) only [ah,cb,cd,cg,cf];try simp only [↓wR,RA,simprocAttr,TF,h])
 unfold yu
 rw [hnu,hna]
 rw [fm];refine ⟨fun ⟨h6,e6⟩=>?_,fun ⟨h6,e6⟩=>?_⟩
 ·rw [if_pos e6]
  simp only [↓wR,RA,simprocAttr,TF,h6];repeat (simp (disch:=omega) only [ah,cb,cd,cg,cf];try simp only [↓wR,RA,simprocAttr,TF,h6])
 ·rw [if_neg e6]
  have hcat:nu.length+(na.length+((vz t d).length+d.raw.length))≤134217728:=by omega
  simp only [↓wR,RA,simprocAttr,TF,h6,zb,hcat];repeat (simp (disch:=omega) only [ah,cb,cd,cg,cf];try simp only [↓wR,RA,simprocAttr,TF,h6,zb,hcat])
  rw [← List.map_append,← List.map_append,← List.map_append]
  exact rtT (bt bd) _ _
noncomputable def tl (x:UInt16 × bp × Unit):Option AV:=if cp x.2.1 then some ((r1 (bt bd)).E true (yu x.1 x.2.1)) else none
set_option maxRecDepth 2000000 in
theorem Dx (x:UInt16 × bp × Unit) (r:AV) (h:tl x=some r):bw PP 36 ((aC ca (aC ar a0)).E x) r:=by
 by_cases hc:cp x.2.1
 case neg=>simp only [tl,if_neg hc] at h;cases h
 simp only [tl,if_pos hc] at h
 cases h
 exact bg (aq.cons (aw Cw) (aq.cons (aw acg) (aq.cons (aw Nx) (aq.cons (aw Y0) (aq.nil PP))))) Try.func36 (by kernel_rfl) (by kernel_rfl) (by kernel_rfl) (Nat.le_of_ble_eq_true (by kernel_rfl)) (r1 (bt bd)) true (yu x.1 x.2.1) (am0 x.1 x.2.1 hc)
noncomputable abbrev Qn:Nat × Bool × (List AV→M AV):=(36,true,dv (aC ca (aC ar a0)) tl)
theorem abr (d:bp) (hd:cp d):wl PP [aag,X8,aev,kp] 0 (Try.f19.body.getD .skip) (ea PP Try.f19.results.toList (fun r st=>(r1 ar).get true st.h r=some d)) (cq 0 [ar.val false d]) (az []):=by
 have hl:=hd.lens
 have l2:=hl.2.1
 have l3:=hl.2.2.1
 have l4:=hl.2.2.2
 unfold Try.f19
 simp only [mf,ef]
 simp only [↓wR,RA,simprocAttr,TF]
 refine ⟨by kernel_rfl,.inl ?_⟩
 simp only [↓wR,RA,simprocAttr,TF,xl,w5,zo,l2,l3,l4]
 refine ⟨by kernel_rfl,?_⟩
 refine nq [2,17,18,19,3] (fun (x:List Name)=>[.ptr 0 0,.vl false 1 (d.names.map (ay.val false)),.sc (.int .i64 (d.names.length)),.sc (.int .i64 (x.length)),.ptr 1 0]) (fun x=>[some (.row [.sc (.slice none 0 0),.sc (.slice none 0 0),.sc (.slice none 0 0),.sc (.slice none 0 0)] 0 2 41),some (.row [.sl 2 0 x.length 1,.vl true 1 (d.nums.map (cj.val false)),.vl true 1 (d.texts.map (ak.val false)),.vl true 1 (d.raw.map (bd.val false))] 0 2 41),some (.row (x.map (ay.val true)) 0 0 32)]) (fun x=>x.length≤d.names.length∧x++d.names.drop x.length=d.names) (fun x=>d.names.length - x.length) [] ⟨Nat.zero_le _,rfl⟩ (by simp only [↓wR,RA,simprocAttr,TF];(refine ny.lax [] (by first|exact Nat.le_of_ble_eq_true rfl|(simp [be];omega)) ?_ ?_<;>repeat' first|exact je.nil|exact dn.nil|exact kx.same _|exact kx.nil _ _ _|exact kx.zf _ _|exact dn.refl _ _|apply je.cons|apply dn.ghost|apply dn.same|apply dn.row)) ?_
 rintro x ⟨hi,hx⟩
 simp only [↓wR,RA,simprocAttr,TF]
 rw [bz];refine ⟨fun h=>?_,fun h=>?_⟩
 ·obtain ⟨c,hc,hd1,hlt⟩:=ku (decide_eq_true h)
  rw [hd1] at hx
  have hlim:(x.length+1) * 24≤140737488355328:=by omega
  simp only [↓wR,RA,simprocAttr,TF,h,hc]
  refine ⟨by kernel_rfl,.inl ?_⟩
  simp only [↓wR,RA,simprocAttr,TF,qi,hd.name c (List.mem_of_getElem? hc),hlim]
  refine ⟨by kernel_rfl,?_⟩
  exact ⟨x++[c],⟨by simp;omega,by simpa using hx⟩,by simp;omega,by (first|rfl|trivial|omega|((try (simp (disch:=omega) only [ah]));(try (simp only [FB]));first|done|rfl|omega)),by (first|rfl|trivial|omega|((try (simp (disch:=omega) only [ah]));(try (simp only [FB]));first|done|rfl|omega))⟩
 ·rw [oc (decide_eq_false h)] at hx
  rw [List.append_nil] at hx
  subst hx
  simp only [↓wR,RA,simprocAttr,TF,h]
noncomputable def qs (x:bp × Unit):Option AV:=if cp x.1 then some ((r1 ar).E true (x.1)) else none
set_option maxRecDepth 2000000 in
theorem Hq (x:bp × Unit) (r:AV) (h:qs x=some r):bw PP 19 ((aC ar a0).E x) r:=by
 by_cases hc:cp x.1
 case neg=>simp only [qs,if_neg hc] at h;cases h
 simp only [qs,if_pos hc] at h
 cases h
 exact bg (aq.cons (aw Hb) (aq.cons (aw G9) (aq.cons (aw Iq) (aq.cons (aw wg) (aq.nil PP))))) Try.func19 (by kernel_rfl) (by kernel_rfl) (by kernel_rfl) (Nat.le_of_ble_eq_true (by kernel_rfl)) (r1 ar) true (x.1) (abr x.1 hc)
noncomputable abbrev mj:Nat × Bool × (List AV→M AV):=(19,true,dv (aC ar a0) qs)
def po {α:Type} (f : α → α) (l:List α) (i:Nat):List α:=(l.take i).map f++l.drop i
theorem ahw {α:Type} (f : α → α) (l:List α) (i:Nat):(po f l i).length=l.length:=by simp [po];omega
theorem aho {α:Type} (f : α → α) {l:List α} {i:Nat} {c : α} (h:l[i]? = some c):(po f l i)[i]? = some c:=by
 obtain ⟨hi,rfl⟩:=List.getElem?_eq_some_iff.1 h
 have hl:((l.take i).map f).length=i:=by simp;omega
 rw [po,List.getElem?_append_right (by omega),hl,Nat.sub_self,List.getElem?_drop];simp [h]
theorem ahq {α:Type} (f : α → α) {l:List α} {i:Nat} {c : α} (h:l[i]? = some c):(po f l i).take i++[f c]++(po f l i).drop (i+1)=po f l (i+1):=by
 obtain ⟨hi,rfl⟩:=List.getElem?_eq_some_iff.1 h
 have h1:((l.take i).map f).length=i:=by simp;omega
 have h2:(po f l i).take i=(l.take i).map f:=by rw [po,List.take_append_of_le_length (by omega),List.take_of_length_le (by omega)]
 have h3:(po f l i).drop (i+1)=l.drop (i+1):=by
  rw [po,List.drop_append,List.drop_eq_nil_of_le (by omega),h1]
  simp
 rw [h2,h3,po,List.take_succ_eq_append_getElem hi,List.map_append]
 rfl
theorem ag7 {α:Type} (f : α → α) (l:List α):po f l l.length=l.map f:=by simp [po]
noncomputable def mz (t:UInt16) (d:bp):bp:=if 0<(n8 t).names then { d with names:=d.names.map ed } else d
theorem ab8 (t:UInt16) (d:bp) (hd:cp d):wl PP [Sn,Yi] 0 (Try.f72.body.getD .skip) (ea PP Try.f72.results.toList (fun r st=>(r1 ar).get true st.h r=some (mz t d))) (cq 0 [ca.val false t,ar.val false d]) (az []):=by
 have hl:=hd.lens
 have l2:=hl.2.1
 have l3:=hl.2.2.1
 have l4:=hl.2.2.2
 unfold Try.f72
 simp only [mf,ef]
 simp only [↓wR,RA,simprocAttr,TF]
 refine dp (T:=[aag,X8,aev,kp]) (aq.cons (aw Hb) (aq.cons (aw G9) (aq.cons (aw Iq) (aq.cons (aw wg) (aq.nil PP))))) mixed Try.func19 rfl (by kernel_rfl) (by kernel_rfl) (by kernel_rfl) (by kernel_rfl) ?_;unfold Try.f19
 simp only [↓wR,RA,simprocAttr,TF]
 refine ⟨by kernel_rfl,.inl ?_⟩
 simp only [↓wR,RA,simprocAttr,TF,xl,w5,zo,l2,l3,l4]
 refine ⟨by kernel_rfl,?_⟩
 refine nq [2,17,18,19,3] (fun (x:List Name)=>[.ptr 2 0,.vl false 1 (d.names.map (ay.val false)),.sc (.int .i64 (d.names.length)),.sc (.int .i64 (x.length)),.ptr 3 0]) (fun x=>[some (.row [.vl false 1 (d.names.map (ay.val false)),.vl false 1 (d.nums.map (cj.val false)),.vl false 1 (d.texts.map (ak.val false)),.vl false 1 (d.raw.map (bd.val false))] 0 2 41),some (.row [.sc (.slice none 0 0),.sc (.slice none 0 0),.sc (.slice none 0 0),.sc (.slice none 0 0)] 0 2 41),some (.row [.sc (.slice none 0 0),.sc (.slice none 0 0),.sc (.slice none 0 0),.sc (.slice none 0 0)] 0 2 41),some (.row [.sl 4 0 x.length 1,.vl true 1 (d.nums.map (cj.val false)),.vl true 1 (d.texts.map (ak.val false)),.vl true 1 (d.raw.map (bd.val false))] 0 2 41),some (.row (x.map (ay.val true)) 0 0 32)]) (fun x=>x.length≤d.names.length∧x++d.names.drop x.length=d.names) (fun x=>d.names.length - x.length) [] ⟨Nat.zero_le _,rfl⟩ (by simp only [↓wR,RA,simprocAttr,TF];(refine ny.lax [] (by first|exact Nat.le_of_ble_eq_true rfl|(simp [be];omega)) ?_ ?_<;>repeat' first|exact je.nil|exact dn.nil|exact kx.same _|exact kx.nil _ _ _|exact kx.zf _ _|exact dn.refl _ _|apply je.cons|apply dn.ghost|apply dn.same|apply dn.row)) ?_
 rintro x ⟨hi,hx⟩
 simp only [↓wR,RA,simprocAttr,TF]
 rw [bz];refine ⟨fun h=>?_,fun h=>?_⟩
 ·obtain ⟨c,hc,hd1,hlt⟩:=ku (decide_eq_true h)
  rw [hd1] at hx
  have hlim:(x.length+1) * 24≤140737488355328:=by omega
  simp only [↓wR,RA,simprocAttr,TF,h,hc]
  refine ⟨by kernel_rfl,.inl ?_⟩
  simp only [↓wR,RA,simprocAttr,TF,qi,hd.name c (List.mem_of_getElem? hc),hlim]
  refine ⟨by kernel_rfl,?_⟩
  exact ⟨x++[c],⟨by simp;omega,by simpa using hx⟩,by simp;omega,by (first|rfl|trivial|omega|((try (simp (disch:=omega) only [ah]));(try (simp only [FB]));first|done|rfl|omega)),by (first|rfl|trivial|omega|((try (simp (disch:=omega) only [ah]));(try (simp only [FB]));first|done|rfl|omega))⟩
 rw [oc (decide_eq_false h)] at hx
 rw [List.append_nil] at hx
 subst hx
 simp only [↓wR,RA,simprocAttr,TF,h,B3,Cn]
 unfold mz
 clear hi h
 rw [bz];refine ⟨fun h0=>?_,fun h0=>?_⟩
 ·rw [if_pos h0]
  simp only [↓wR,RA,simprocAttr,TF,h0]
  refine ff [4,5,15,16,17] (fun (i:Nat)=>[.ptr 0 0,.ptr 1 0,.sl 2 0 d.names.length 1,.sc (.int .i64 (d.names.length)),.sc (.int .i64 (i))]) (fun i=>[some (.row [.sc (.slice none 0 0),.sc (.slice none 0 0),.sc (.slice none 0 0),.sc (.slice none 0 0)] 0 2 41),some (.row [.sl 2 0 d.names.length 1,.vl true 1 (d.nums.map (cj.val false)),.vl true 1 (d.texts.map (ak.val false)),.vl true 1 (d.raw.map (bd.val false))] 0 2 41),some (.row ((po ed d.names i).map (ay.val true)) 0 0 32)]) (fun i=>i≤d.names.length) (fun i=>d.names.length - i) 0 (Nat.zero_le _) (by simp only [↓wR,RA,simprocAttr,TF]<;>rfl) (by simp only [↓wR,RA,simprocAttr,TF]<;>rfl) ?_
  intro i hi
  simp only [↓wR,RA,simprocAttr,TF]
  rw [bz];refine ⟨fun h=>?_,fun h=>?_⟩
  ·obtain ⟨c,hc,hd1,hlt⟩:=ku (decide_eq_true h)
   have hs:=aho ed hc
   have hlen:=ahw ed d.names i
   have hlt':i+1≤d.names.length:=hlt
   simp only [↓wR,RA,simprocAttr,TF,h,hs,hlt]
   refine ⟨by kernel_rfl,.inl ?_⟩
   simp only [↓wR,RA,simprocAttr,TF,h,hlt,hlt',hlen,w8,hd.name c (List.mem_of_getElem? hc)]
   refine ⟨by kernel_rfl,i+1,hlt,by omega,by (first|rfl|trivial|omega|((try (simp (disch:=omega) only [ah]));(try (simp only [FB]));first|done|rfl|omega)),?_⟩
   rw [← ahq ed hc];simp only [List.map_append,List.map_cons,List.map_nil]
  ·have hin:i=d.names.length:=by omega
   subst hin
   rw [ag7]
   have hml:(d.names.map ed).length=d.names.length:=List.length_map _
   generalize d.names.map ed=m at hml ⊢
   simp only [↓wR,RA,simprocAttr,TF,h,hml]
   rfl
 ·rw [if_neg h0]
  simp only [↓wR,RA,simprocAttr,TF,h0]
noncomputable def Ap (x:UInt16 × bp × Unit):Option AV:=if cp x.2.1 then some ((r1 ar).E true (mz x.1 x.2.1)) else none
set_option maxRecDepth 2000000 in
theorem Vc (x:UInt16 × bp × Unit) (r:AV) (h:Ap x=some r):bw PP 72 ((aC ca (aC ar a0)).E x) r:=by
 by_cases hc:cp x.2.1
 case neg=>simp only [Ap,if_neg hc] at h;cases h
 simp only [Ap,if_pos hc] at h
 cases h
 exact bg (aq.cons (aw Cw) (aq.cons (aw Hp) (aq.nil PP))) Try.func72 (by kernel_rfl) (by kernel_rfl) (by kernel_rfl) (Nat.le_of_ble_eq_true (by kernel_rfl)) (r1 ar) true (mz x.1 x.2.1) (ab8 x.1 x.2.1 hc)
noncomputable abbrev an6:Nat × Bool × (List AV→M AV):=(72,true,dv (aC ca (aC ar a0)) Ap)
def oj:List Name→Int
 | []=>0
 |n::r=>if cw n≠0 then cw n else oj r
noncomputable def c7 (t:UInt16) (d:bp):Int:=
 if E0 t=true then 6 else if Ah (n8 t) t d=false then 7 else if oj d.names≠0 then oj d.names else if 65535<(yu t d).length then 3 else 0
theorem abx {l:List Name} {i:Nat} {c:Name} (h:l.drop i=c::l.drop (i+1)):oj (l.drop i)=if cw c≠0 then cw c else oj (l.drop (i+1)):=by rw [h];rfl
theorem W4 (t:UInt16) (d:bp) (hd:cp d):wl PP [ar3,Sn,aud,jm,Qn] 0 (Try.f15.body.getD .skip) (ea PP Try.f15.results.toList (fun r st=>(r1 (bm .i64)).get true st.h r=some (c7 t d))) (cq 0 [ca.val false t,ar.val false d]) (az []):=by
 have hs:=O6 t
 have hl:=hd.lens
 unfold Try.f15
 simp only [mf,ef]
 simp only [↓wR,RA,simprocAttr,TF,Sd]
 unfold c7
 rw [fk];refine ⟨fun hb=>?_,fun hb=>?_⟩
 ·rw [if_pos hb]
  simp only [↓wR,RA,simprocAttr,TF,hb]
 rw [if_neg (by rw [hb];decide)]
 simp only [↓wR,RA,simprocAttr,TF,hb]
 refine ⟨by kernel_rfl,.inl ?_⟩
 simp only [↓wR,RA,simprocAttr,TF,B3,Je,hs,hd]
 refine ⟨by kernel_rfl,?_⟩
 rw [fk];refine ⟨fun hf=>?_,fun hf=>?_⟩
 ·rw [if_pos (by simpa using hf)]
  simp only [↓wR,RA,simprocAttr,TF,hf]
 have hf':Ah (n8 t) t d=true:=by simpa using hf
 rw [if_neg (by rw [hf'];decide)]
 simp only [↓wR,RA,simprocAttr,TF,hf]
 refine ff [0,3,17,18,19] (fun (i:Nat)=>[.sc (.int .u16 t.toNat),.ptr 0 0,.vl false 1 (d.names.map (ay.val false)),.sc (.int .i64 (d.names.length)),.sc (.int .i64 (i))]) (fun _=>[some (.row [.vl false 1 (d.names.map (ay.val false)),.vl false 1 (d.nums.map (cj.val false)),.vl false 1 (d.texts.map (ak.val false)),.vl false 1 (d.raw.map (bd.val false))] 0 2 41)]) (fun i=>i≤d.names.length∧oj d.names=oj (d.names.drop i)) (fun i=>d.names.length - i) 0 ⟨Nat.zero_le _,rfl⟩ (by simp only [↓wR,RA,simprocAttr,TF]<;>rfl) (by simp only [↓wR,RA,simprocAttr,TF]<;>rfl) ?_
 rintro i ⟨hi,hx⟩
 simp only [↓wR,RA,simprocAttr,TF]
 rw [bz];refine ⟨fun h=>?_,fun h=>?_⟩
 ·obtain ⟨c,hc,hd1,hlt⟩:=ku (decide_eq_true h)
  rw [abx hd1] at hx
  simp only [↓wR,RA,simprocAttr,TF,h,hc,gn,(hd.name c (List.mem_of_getElem? hc)).fit]
  rw [fk];refine ⟨fun h1=>?_,fun h1=>?_⟩
  ·have he:cw c≠0:=by simpa using h1
   rw [if_pos he] at hx
   rw [if_pos (by rw [hx];exact he),hx]
   simp only [↓wR,RA,simprocAttr,TF,h1]
  ·have he:cw c=0:=by simpa using h1
   rw [if_neg (by omega)] at hx
   simp only [↓wR,RA,simprocAttr,TF,h1];repeat (simp (disch:=omega) only [ah,cb,cd,cg,cf];try simp only [↓wR,RA,simprocAttr,TF,h1])
   exact ⟨i+1,⟨hlt,hx⟩,by omega,by (first|rfl|trivial|omega|((try (simp (disch:=omega) only [ah]));(try (simp only [FB]));first|done|rfl|omega))⟩
 rw [oc (decide_eq_false h)] at hx
 rw [if_neg (by rw [hx];decide)]
 simp only [↓wR,RA,simprocAttr,TF,h,tl,hd]
 rw [bz];refine ⟨fun h2=>?_,fun h2=>?_⟩
 ·rw [if_pos (by omega)]
  simp only [↓wR,RA,simprocAttr,TF,h2]
 ·rw [if_neg (by omega)]
  simp only [↓wR,RA,simprocAttr,TF,h2]
noncomputable def g6 (x:UInt16 × bp × Unit):Option AV:=if cp x.2.1 then some ((r1 (bm .i64)).E true (c7 x.1 x.2.1)) else none
set_option maxRecDepth 2000000 in
theorem vi (x:UInt16 × bp × Unit) (r:AV) (h:g6 x=some r):bw PP 15 ((aC ca (aC ar a0)).E x) r:=by
 by_cases hc:cp x.2.1
 case neg=>simp only [g6,if_neg hc] at h;cases h
 simp only [g6,if_pos hc] at h
 cases h
 exact bg (aq.cons (aw abw) (aq.cons (aw Cw) (aq.cons (aw af9) (aq.cons (aw vg) (aq.cons (aw Dx) (aq.nil PP)))))) Try.func15 (by kernel_rfl) (by kernel_rfl) (by kernel_rfl) (Nat.le_of_ble_eq_true (by kernel_rfl)) (r1 (bm .i64)) true (c7 x.1 x.2.1) (W4 x.1 x.2.1 hc)
noncomputable abbrev jn:Nat × Bool × (List AV→M AV):=(15,true,dv (aC ca (aC ar a0)) g6)
noncomputable def tj (t:UInt16) (d:bp):List UInt8:=if c7 t d≠0 then [] else yu t d
theorem aax (t:UInt16) (d:bp) (hd:cp d):wl PP [jn,Qn] 0 (Try.f71.body.getD .skip) (ea PP Try.f71.results.toList (fun r st=>(r2 (bt bd) (bm .i64)).get true st.h r=some (tj t d,c7 t d))) (cq 0 [ca.val false t,ar.val false d]) (az []):=by
 unfold Try.f71
 simp only [mf,ef]
 simp only [↓wR,RA,simprocAttr,TF,g6,hd]
 unfold tj
 rw [fk];refine ⟨fun h=>?_,fun h=>?_⟩
 ·have he:c7 t d≠0:=by simpa using h
  rw [if_pos he]
  simp only [↓wR,RA,simprocAttr,TF,h]
 ·have he:c7 t d=0:=by simpa using h
  rw [if_neg (by omega)]
  simp only [↓wR,RA,simprocAttr,TF,h,tl,hd,he]
noncomputable def x9 (x:UInt16 × bp × Unit):Option AV:=if cp x.2.1 then some ((r2 (bt bd) (bm .i64)).E true ((tj x.1 x.2.1,c7 x.1 x.2.1))) else none
set_option maxRecDepth 2000000 in
theorem Rb (x:UInt16 × bp × Unit) (r:AV) (h:x9 x=some r):bw PP 71 ((aC ca (aC ar a0)).E x) r:=by
 by_cases hc:cp x.2.1
 case neg=>simp only [x9,if_neg hc] at h;cases h
 simp only [x9,if_pos hc] at h
 cases h
 exact bg (aq.cons (aw vi) (aq.cons (aw Dx) (aq.nil PP))) Try.func71 (by kernel_rfl) (by kernel_rfl) (by kernel_rfl) (Nat.le_of_ble_eq_true (by kernel_rfl)) (r2 (bt bd) (bm .i64)) true ((tj x.1 x.2.1,c7 x.1 x.2.1)) (aax x.1 x.2.1 hc)
noncomputable abbrev aii:Nat × Bool × (List AV→M AV):=(71,true,dv (aC ca (aC ar a0)) x9)
theorem alo (args:List AV):we PP 80 args (Cx.i7 args):=
 Cx.yi (fn:=(PP.funcs[80]?).getD default) (by kernel_rfl) (by kernel_rfl) (by kernel_rfl) (by kernel_rfl) (by kernel_rfl) args
noncomputable abbrev ars:Nat × Bool × (List AV→M AV):=(80,true,Cx.i7)
theorem apn:aq PP [ars]:=aq.cons alo (aq.nil PP)
noncomputable def G1 (a b:List UInt8):Int:=Lib.compareBytes a b
theorem Qe (a b:List UInt8):wl PP [ars] 0 (Try.f73.body.getD .skip) (ea PP Try.f73.results.toList (fun r st=>(r1 (bm .i64)).get true st.h r=some (G1 a b))) (cq 0 [(bt bd).val false a,(bt bd).val false b]) (az []):=by
 unfold Try.f73
 simp only [m9]
 simp only [↓wR,RA,simprocAttr,TF,G1]
noncomputable def wh (x:List UInt8 × List UInt8 × Unit):Option AV:=some ((r1 (bm .i64)).E true (G1 x.1 x.2.1))
theorem K4 (x:List UInt8 × List UInt8 × Unit) (r:AV) (h:wh x=some r):bw PP 73 ((aC (bt bd) (aC (bt bd) a0)).E x) r:=by
 cases h
 exact bg apn Try.func73 (by kernel_rfl) (by kernel_rfl) (by kernel_rfl) (Nat.le_of_ble_eq_true (by kernel_rfl)) (r1 (bm .i64)) true (G1 x.1 x.2.1) (Qe x.1 x.2.1)
noncomputable abbrev Xv:Nat × Bool × (List AV→M AV):=(73,true,dv (aC (bt bd) (aC (bt bd) a0)) wh)
theorem Dr (s:ByteArray):(fold s).size=s.size:=by
 show (s.data.toList.map low).toArray.size=s.data.size
 simp
theorem vc (n:Name):br (ed n)=br n:=by
 unfold br ed
 rw [List.foldl_map]
 simp only [Dr]
theorem aif (l:List Name):eh br (l.map ed)=eh br l:=by
 induction l with
 |nil=>rfl
 |cons a l ih=>simp only [eh,List.map_cons,List.foldr_cons,vc] at ih ⊢;rw [ih]
theorem cp.fold {d:bp} (h:cp d) (t:UInt16):cp (mz t d):=by
 unfold mz
 split
 ·unfold cp nj at *
  simp only [aif];exact h
 ·exact h
noncomputable def D6 (t:UInt16) (a b:bp):Int:=if c7 t (mz t a)≠0∨c7 t (mz t b)≠0 then 0 else G1 (tj t (mz t a)) (tj t (mz t b))
noncomputable def my (t:UInt16) (a b:bp):Bool:=decide (c7 t a=0) && decide (c7 t b=0) && decide (D6 t a b=0)
theorem Ru (t:UInt16) (a b:bp) (ha:cp a) (hb:cp b):wl PP [an6,aii,Xv] 0 (Try.f54.body.getD .skip) (ea PP Try.f54.results.toList (fun r st=>(r1 (bm .i64)).get true st.h r=some (D6 t a b))) (cq 0 [ca.val false t,ar.val false a,ar.val false b]) (az []):=by
 have fa:=ha.fold t
 have fb:=hb.fold t
 unfold Try.f54
 simp only [mf,ef]
 simp only [↓wR,RA,simprocAttr,TF,Ap,x9,wh,ha,hb,fa,fb]
 unfold D6
 rw [fk];refine ⟨fun h=>?_,fun h=>?_⟩
 ·have he:c7 t (mz t a)≠0:=by simpa using h
  rw [if_pos (.inl he)]
  simp only [↓wR,RA,simprocAttr,TF,h]
 have he:c7 t (mz t a)=0:=by simpa using h
 simp only [↓wR,RA,simprocAttr,TF,h]
 rw [fk];refine ⟨fun h2=>?_,fun h2=>?_⟩
 ·have he2:c7 t (mz t b)≠0:=by simpa using h2
  rw [if_pos (.inr he2)]
  simp only [↓wR,RA,simprocAttr,TF,h2]
 ·have he2:c7 t (mz t b)=0:=by simpa using h2
  rw [if_neg (by omega)]
  simp only [↓wR,RA,simprocAttr,TF,h2,wh]
noncomputable def ur (x:UInt16 × bp × bp × Unit):Option AV:=if cp x.2.1∧cp x.2.2.1 then some ((r1 (bm .i64)).E true (D6 x.1 x.2.1 x.2.2.1)) else none
set_option maxRecDepth 2000000 in
theorem Ni (x:UInt16 × bp × bp × Unit) (r:AV) (h:ur x=some r):bw PP 54 ((aC ca (aC ar (aC ar a0))).E x) r:=by
 by_cases hc:cp x.2.1∧cp x.2.2.1
 case neg=>simp only [ur,if_neg hc] at h;cases h
 simp only [ur,if_pos hc] at h
 cases h
 exact bg (aq.cons (aw Vc) (aq.cons (aw Rb) (aq.cons (aw K4) (aq.nil PP)))) Try.func54 (by kernel_rfl) (by kernel_rfl) (by kernel_rfl) (Nat.le_of_ble_eq_true (by kernel_rfl)) (r1 (bm .i64)) true (D6 x.1 x.2.1 x.2.2.1) (Ru x.1 x.2.1 x.2.2.1 hc.1 hc.2)
noncomputable abbrev ab4:Nat × Bool × (List AV→M AV):=(54,true,dv (aC ca (aC ar (aC ar a0))) ur)
theorem acb (t:UInt16) (a b:bp) (ha:cp a) (hb:cp b):wl PP [jn,ab4] 0 (Try.f30.body.getD .skip) (ea PP Try.f30.results.toList (fun r st=>(r1 dq).get true st.h r=some (my t a b))) (cq 0 [ca.val false t,ar.val false a,ar.val false b]) (az []):=by
 unfold Try.f30
 simp only [mf,ef]
 simp only [↓wR,RA,simprocAttr,TF,g6,ha,hb]
 unfold my
 rw [fm];refine ⟨fun ⟨h,e⟩=>?_,fun ⟨h,e⟩=>?_⟩
 ·rw [decide_eq_true e]
  simp only [↓wR,RA,simprocAttr,TF,h,g6,ha,hb]
  rw [fm];refine ⟨fun ⟨h2,e2⟩=>?_,fun ⟨h2,e2⟩=>?_⟩
  ·rw [decide_eq_true e2]
   simp only [↓wR,RA,simprocAttr,TF,h2,ur,ha,hb]
   rfl
  ·rw [decide_eq_false e2]
   simp only [↓wR,RA,simprocAttr,TF,h2]
   rfl
 ·rw [decide_eq_false e]
  simp only [↓wR,RA,simprocAttr,TF,h]
  rfl
noncomputable def wz (x:UInt16 × bp × bp × Unit):Option AV:=if cp x.2.1∧cp x.2.2.1 then some ((r1 dq).E true (my x.1 x.2.1 x.2.2.1)) else none
set_option maxRecDepth 2000000 in
theorem Hl (x:UInt16 × bp × bp × Unit) (r:AV) (h:wz x=some r):bw PP 30 ((aC ca (aC ar (aC ar a0))).E x) r:=by
 by_cases hc:cp x.2.1∧cp x.2.2.1
 case neg=>simp only [wz,if_neg hc] at h;cases h
 simp only [wz,if_pos hc] at h
 cases h
 exact bg (aq.cons (aw vi) (aq.cons (aw Ni) (aq.nil PP))) Try.func30 (by kernel_rfl) (by kernel_rfl) (by kernel_rfl) (Nat.le_of_ble_eq_true (by kernel_rfl)) (r1 dq) true (my x.1 x.2.1 x.2.2.1) (acb x.1 x.2.1 x.2.2.1 hc.1 hc.2)
noncomputable abbrev aau:Nat × Bool × (List AV→M AV):=(30,true,dv (aC ca (aC ar (aC ar a0))) wz)
end Go.Proofs.Ytifjogffkafalaa
end
section
set_option maxRecDepth 100000
namespace Go.Vm
noncomputable section
theorem apj {α:Type} (C:ct α) (fr:Bool) (h:Tr an) (l:List AV) (ha:C.agg=true):C.dec fr h l=C.iq fr h (.agg l):=by
 rw [Cb _ _ _ _ rfl (by rw [ha];rfl)];rfl
theorem ari {α β:Type} (A:ct α) (B:ct β) (fr:Bool) (h:Tr an) (l:List AV):(ln A B).dec fr h l=match A.dec fr h (l.take A.sz),B.dec fr h (l.drop A.sz) with|some x,some y=>some (x,y)|_,_=>none:=rfl
theorem ao1 {α:Type} (C:ct α) (fr h) (x:AV):(bt C).dec fr h [x]=jd C fr h x:=rfl
theorem ao9 (fr h) (x:AV):ay.dec fr h [x]=jd ak fr h x:=rfl
theorem G2 (k fr h n cells kk st et) (hn:n=cells.length):ki (bm k) fr h 0 n (.row cells kk st et)=pn (bm k) fr h cells:=u9 (bm k) rfl fr h n cells kk st et hn
def sf (n:Nat) (r:AV) (st:St):List Nat:=reach st.h dz (r.names++nf st.h (cr 0 n)) (cr 0 n)
def xi (n:Nat) (r:AV) (st:St):AV:=r.bk (fun o=>idx (sf n r st) o 0)
def uo (n:Nat) (r:AV) (st:St):St:=az (gw st.h (fun o=>idx (sf n r st) o 0) (sf n r st))
theorem ad0 {g g':Gh} {st st':St} {w w':World} {r:AV} {v:Value} (hn:st.nx≤1000) (hfr:∀ o,st.nx≤o→g.inj o=none) (hs:Step g st.h w st.nx st'.nx g' st'.h w') (hok:Ok g' st'.h w') (hr:Rel g' w' r v) :
 ∃ g'',st.nx≤(uo st.nx r st').nx∧Step g st.h w st.nx (uo st.nx r st').nx g'' (uo st.nx r st').h w'∧Ok g'' (uo st.nx r st').h w'∧Rel g'' w' (xi st.nx r st') v:=by
 have hN:=xd st'.h dz (r.names++nf st'.h (cr 0 st.nx)) (cr 0 st.nx) (pq _ _)
 change (sf st.nx r st').Nodup∧(∃ q,sf st.nx r st'=cr 0 st.nx++q)∧(sf st.nx r st').length≤_ at hN
 have hτ:∀ o p,(fun o=>idx (sf st.nx r st') o 0) o=some p→(sf st.nx r st')[p]? = some o:=fun o p h=>Bl _ o p h
 unfold uo xi
 generalize sf st.nx r st'=N at hN hτ
 obtain ⟨hnd,⟨rest,hpre⟩,hlen⟩:=hN
 rw [ga] at hlen
 have hlim:N.length≤be:=by simp only [dz,be] at *;omega
 have bq:∀ i x,(az (gw st'.h (fun o=>idx N o 0) N)).h.get i=some x→∃ o y,N[i]? = some o∧st'.h.get o=some y∧y.bk (fun o=>idx N o 0)=some x:=by
  intro i x hx
  simp only [az] at hx
  rw [qm _ _ _ (by rw [gh];omega),if_pos (Nat.zero_le _),Nat.sub_zero,si] at hx
  cases hi:N[i]? with
  |none=>rw [hi] at hx;cases hx
  |some o=>
   rw [hi] at hx
   simp only [Option.map_some,Option.join_some] at hx
   cases hy:st'.h.get o with
   |none=>rw [hy] at hx;cases hx
   |some y=>rw [hy] at hx;exact ⟨o,y,rfl,hy,hx⟩
 have hinj:∀ i o,N[i]? = some o→(g'.bk N).inj i=g'.inj o:=fun i o h=>by simp [Gh.bk,h]
 have hlow:∀ o,o<st.nx→N[o]? = some o:=fun o ho=>by rw [hpre,List.getElem?_append_left (by rw [ga];exact ho),vk _ _ _ ho,Nat.zero_add]
 have hnx:(az (gw st'.h (fun o=>idx N o 0) N)).nx=N.length:=by simp only [az,gh]
 have hle:st.nx≤N.length:=by rw [hpre,List.length_append,ga];omega
 rw [hnx]
 refine ⟨g'.bk N,hle,⟨⟨hs.ext.b0,fun o p ho=>?_,hs.ext.K,hs.ext.cell,hs.ext.ja,hs.ext.lp⟩,hs.size,hs.os,hs.tape,hs.output,hs.frame,fun o ho hr=>?_,fun i b base hi hj=>?_,hs.jx⟩,⟨hok.size,fun i x hx=>?_,fun i j x y b base base' hij hx hy hb hb'=>?_,hok.K⟩,hr.bk hτ⟩
 ·have hlt:o<st.nx:=by
   rcases Nat.lt_or_ge o st.nx with h|h
   ·exact h
   ·rw [hfr o h] at ho;cases ho
  rw [hinj o o (hlow o hlt)];exact hs.ext.inj o p ho
 ·rcases Nat.lt_or_ge o st.nx with h|h
  ·rw [hinj o o (hlow o h)];exact hs.fresh o ho (by omega)
  ·simp [Gh.bk,List.getElem?_eq_none (show N.length≤o by omega)]
 ·obtain ⟨x,hx⟩:=Option.isSome_iff_exists.1 hi
  obtain ⟨o,y,h1,h2,_⟩:=bq i x hx
  rw [hinj i o h1] at hj
  exact hs.own o b base (by rw [h2];rfl) hj
 ·obtain ⟨o,y,h1,h2,h3⟩:=bq i x hx
  refine (hok.j6 o y h2).imp (fun q=>⟨by rw [hinj i o h1];exact q.1,by obtain ⟨s0,e0,rfl⟩:=q.2;simp only [an.bk,AV.bk.go,Option.some.injEq] at h3;exact ⟨s0,e0,h3.symm⟩⟩) ?_
  rintro ⟨b,base,q1,q2,q3⟩
  exact ⟨b,base,by rw [hinj i o h1];exact q1,q2,q3.bk hτ h3⟩
 ·obtain ⟨o,y1,h1,h2,_⟩:=bq i x hx
  obtain ⟨o',y2,h1',h2',_⟩:=bq j y hy
  rw [hinj i o h1] at hb
  rw [hinj j o' h1'] at hb'
  have hne:o≠o':=by
   intro e
   subst e
   obtain ⟨hi,ei⟩:=List.getElem?_eq_some_iff.1 h1
   obtain ⟨hj,ej⟩:=List.getElem?_eq_some_iff.1 h1'
   exact hij ((List.getElem_inj hnd).1 (ei.trans ej.symm))
  exact hok.sep o o' _ _ b base base' hne h2 h2' hb hb'
theorem ke {P:Program} {f:Nat} {args:List AV} {st:St} {R:AV→St→Prop} (R0:AV→St→Prop) (hn:Nat.ble st.nx 1000=true) (h1:g9 P f args st (fun r st'=>R0 (xi st.nx r st') (uo st.nx r st'))) (h2:∀ r st',R0 r st'→R r st'):g9 P f args st R:=by
 intro g w vs hok hfr hrel
 rcases h1 g w vs hok hfr hrel with ⟨v,w',g',r,st',q1,q2,q3,q4,q5,q6⟩|⟨q1,q2⟩
 ·obtain ⟨g'',p1,p2,p3,p4⟩:=ad0 (Nat.le_of_ble_eq_true hn) hfr q4 q5 q6
  exact .inl ⟨v,w',g'',_,_,q1,h2 _ _ q2,p1,p2,p3,p4⟩
 ·refine .inr ⟨q1,q2.mono ?_⟩
  rintro e w' ⟨v,g',r,st',rfl,q2,q3,q4,q5,q6⟩
  obtain ⟨g'',p1,p2,p3,p4⟩:=ad0 (Nat.le_of_ble_eq_true hn) hfr q4 q5 q6
  exact ⟨v,g'',_,_,rfl,h2 _ _ q2,p1,p2,p3,p4⟩
theorem Ht (l) (n:Name):jf (ay.val l n)=some n.length:=by
 rw [ef];show some (List.map (ak.val l) n).length=_;rw [List.length_map]
theorem adw (a b:Operand):(#[a]++(none:Option Operand).toArray++(some b).toArray++(none:Option Operand).toArray).toList=[a,b]:=id rfl
theorem dv4 : 4 / 4=1:=rfl
theorem dv5 : 5 / 5=1:=rfl
theorem dv8 : 8 / 8=1:=rfl
theorem ade (k fr h n):(bm k).dec fr h [.sc (.int k n)]=some n:=(bm k).rt fr h true n (fun _=>rfl)
theorem Hw (l:Bool) (d:bp):(ar.val l d).cells=[.vl l 1 (d.names.map (ay.val l)),.vl l 1 (d.nums.map (cj.val l)),.vl l 1 (d.texts.map (ak.val l)),.vl l 1 (d.raw.map (bd.val l))]:=id rfl
theorem J1 (fr h l) (n:Name) (hl:(l || !fr)=true):jd ak fr h (ay.val l n)=some n:=u3 ak fr h l n 1 rfl hl
theorem Ym (f) (l:List bp):(l.map (ar.val f)).flatMap AV.cells=cellsOf ar f l:=Gz ar f l
theorem Hu (f) (l:List bp) (d:bp):cellsOf ar f (l++[d])=cellsOf ar f l++[.vl f 1 (d.names.map (ay.val f)),.vl f 1 (d.nums.map (cj.val false)),.vl f 1 (d.texts.map (ak.val false)),.vl f 1 (d.raw.map (bd.val false))]:=by rw [vu,vq];rfl
structure ba where
 owner:Name
 type:UInt16
 cls:UInt16
 cx:UInt32
 data:List bp
def m7 (owner:Name) (type:UInt16) (cls:UInt16) (cx:UInt32) (data:List bp):ba:=⟨owner,type,cls,cx,data⟩
theorem afa (x:ba):m7 x.owner x.type x.cls x.cx x.data=x:=id rfl
def bb:ct ba:=Fw (ln ay (ln ca (ln ca (ln cj (bt ar))))) (fun x=>(x.owner,x.type,x.cls,x.cx,x.data)) (fun p=>⟨p.1,p.2.1,p.2.2.1,p.2.2.2.1,p.2.2.2.2⟩) (fun _=>rfl) (fun _=>rfl)
theorem qk (l:Bool) (x:ba):bb.val l x = .agg [.vl l 1 (x.owner.map (ak.val l)),.sc (.int .u16 x.type.toNat),.sc (.int .u16 x.cls.toNat),.sc (.int .u32 x.cx.toNat),.vl l 4 (x.data.map (ar.val l))]:=id rfl
theorem U8:bb.sz=5:=id rfl
theorem Oa (fr:Bool) (h:Tr an) (y0 y1 y2 y3 y4:AV):bb.iq fr h (.agg [y0,y1,y2,y3,y4])=match jd ak fr h y0,ca.dec fr h [y1],ca.dec fr h [y2],cj.dec fr h [y3],jd ar fr h y4 with
 |some v0,some v1,some v2,some v3,some v4=>some (m7 v0 v1 v2 v3 v4)
 |_,_,_,_,_=>none:=by
 rw [Cb _ _ _ _ rfl rfl]
 have h1:bb.dec fr h (AV.agg [y0,y1,y2,y3,y4]).cells=Option.map (fun p=>(⟨p.1,p.2.1,p.2.2.1,p.2.2.2.1,p.2.2.2.2⟩:ba)) ((ln ay (ln ca (ln ca (ln cj (bt ar))))).dec fr h [y0,y1,y2,y3,y4]):=rfl
 rw [h1]
 simp only [ari,E2,xr,Tu,Dp,Qf,Dl,List.take_succ_cons,List.take_zero,List.drop_succ_cons,List.drop_zero,ao1,ao9]
 cases (jd ak fr h y0)<;>cases (ca.dec fr h [y1])<;>cases (ca.dec fr h [y2])<;>cases (cj.dec fr h [y3])<;>cases (jd ar fr h y4)<;>rfl
theorem Wf (l) (xs:List ba) (x:ba):cellsOf bb l (xs++[x])=cellsOf bb l xs++[.vl l 1 (x.owner.map (ak.val false)),.sc (.int .u16 x.type.toNat),.sc (.int .u16 x.cls.toNat),.sc (.int .u32 x.cx.toNat),.vl l 4 (x.data.map (ar.val l))]:=by rw [vu,vq];rfl
structure dc where
 owner:Name
 type:UInt16
 cls:UInt16
 cx:UInt32
 data:bp
def mkR (owner:Name) (type:UInt16) (cls:UInt16) (cx:UInt32) (data:bp):dc:=⟨owner,type,cls,cx,data⟩
theorem aed (x:dc):mkR x.owner x.type x.cls x.cx x.data=x:=id rfl
def cy:ct dc:=Fw (ln ay (ln ca (ln ca (ln cj ar)))) (fun x=>(x.owner,x.type,x.cls,x.cx,x.data)) (fun p=>⟨p.1,p.2.1,p.2.2.1,p.2.2.2.1,p.2.2.2.2⟩) (fun _=>rfl) (fun _=>rfl)
theorem u4 (l:Bool) (x:dc):cy.val l x = .agg [.vl l 1 (x.owner.map (ak.val l)),.sc (.int .u16 x.type.toNat),.sc (.int .u16 x.cls.toNat),.sc (.int .u32 x.cx.toNat),.vl l 1 (x.data.names.map (ay.val l)),.vl l 1 (x.data.nums.map (cj.val l)),.vl l 1 (x.data.texts.map (ak.val l)),.vl l 1 (x.data.raw.map (bd.val l))]:=id rfl
theorem T7:cy.sz=8:=id rfl
theorem Q5 (fr:Bool) (h:Tr an) (y0 y1 y2 y3 y40 y41 y42 y43:AV):cy.iq fr h (.agg [y0,y1,y2,y3,y40,y41,y42,y43])=match jd ak fr h y0,ca.dec fr h [y1],ca.dec fr h [y2],cj.dec fr h [y3],ar.iq fr h (.agg [y40,y41,y42,y43]) with
 |some v0,some v1,some v2,some v3,some v4=>some (mkR v0 v1 v2 v3 v4)
 |_,_,_,_,_=>none:=by
 rw [Cb _ _ _ _ rfl rfl]
 have h1:cy.dec fr h (AV.agg [y0,y1,y2,y3,y40,y41,y42,y43]).cells=Option.map (fun p=>(⟨p.1,p.2.1,p.2.2.1,p.2.2.2.1,p.2.2.2.2⟩:dc)) ((ln ay (ln ca (ln ca (ln cj ar)))).dec fr h [y0,y1,y2,y3,y40,y41,y42,y43]):=rfl
 rw [h1]
 simp only [ari,E2,xr,Tu,Dp,Qf,Dl,List.take_succ_cons,List.take_zero,List.drop_succ_cons,List.drop_zero,ao1,ao9,F0,apj ar fr h _ rfl]
 cases (jd ak fr h y0)<;>cases (ca.dec fr h [y1])<;>cases (ca.dec fr h [y2])<;>cases (cj.dec fr h [y3])<;>cases (ar.iq fr h (.agg [y40,y41,y42,y43]))<;>rfl
theorem W3 (l) (xs:List dc) (x:dc):cellsOf cy l (xs++[x])=cellsOf cy l xs++[.vl l 1 (x.owner.map (ak.val false)),.sc (.int .u16 x.type.toNat),.sc (.int .u16 x.cls.toNat),.sc (.int .u32 x.cx.toNat),.vl l 1 (x.data.names.map (ay.val l)),.vl l 1 (x.data.nums.map (cj.val false)),.vl l 1 (x.data.texts.map (ak.val false)),.vl l 1 (x.data.raw.map (bd.val false))]:=by rw [vu,vq];rfl
structure ia where
 origin:Name
 jw:List ba
structure aoj where
 addr:UInt32
 ag8:List Int
structure Y4 where
 ag8:List ia
 aty:List aoj
 hints:List UInt32
structure V9 where
 kind:Int
 node:Name
 adg:Name
def Wo (kind:Int) (node:Name) (adg:Name):V9:=⟨kind,node,adg⟩
structure ag5 where
 turn:Int
 jw:List ba
 to:Name
def mkT (turn:Int) (jw:List ba) (to:Name):ag5:=⟨turn,jw,to⟩
structure Iz where
 ao2:Int
 aa:Bool
 answer:List ba
 authority:List ba
 F9:List ba
def S2 (ao2:Int) (aa:Bool) (answer:List ba) (authority:List ba) (F9:List ba):Iz:=⟨ao2,aa,answer,authority,F9⟩
theorem ag:type_of% @Ht∧type_of% @G2∧type_of% @adw∧type_of% @dv4∧type_of% @dv5∧type_of% @dv8∧type_of% @ade∧type_of% @J1∧type_of% @Hw∧type_of% @Mf∧type_of% @qx∧type_of% @n7∧type_of% @afa∧type_of% @qk∧type_of% @U8∧type_of% @Oa∧type_of% @aed∧type_of% @u4∧type_of% @T7∧type_of% @Q5:=
 ⟨@Ht,@G2,@adw,@dv4,@dv5,@dv8,@ade,@J1,@Hw,@Mf,@qx,@n7,@afa,@qk,@U8,@Oa,@aed,@u4,@T7,@Q5⟩
end
end Go.Vm
end
section
namespace Go.Proofs.Ytifjogffkafalaa
open Go.Vm
set_option maxRecDepth 2000000
noncomputable def jj (t:UInt16) (l:List bp) (d:bp):Bool:=l.any fun x=>my t x d
theorem arx (t:UInt16) (l:List bp) (d:bp) (hl:∀ x ∈ l,cp x) (hn:l.length≤16777216) (hd:cp d):wl PP [] 0 (Try.f18.body.getD .skip) (ea PP Try.f18.results.toList (fun r st=>(r1 dq).get true st.h r=some (jj t l d))) (cq 0 [ca.val false t,(bt ar).val false l,ar.val false d]) (az []):=by
 unfold Try.f18
 simp only [m9,mf]
 simp only [↓wR,RA,simprocAttr,TF,ag]
 refine dp (T:=[]) (aq.nil PP) mixed Try.func41 rfl (by kernel_rfl) (by kernel_rfl) (by kernel_rfl) (by kernel_rfl) ?_;unfold Try.f41
 simp only [↓wR,RA,simprocAttr,TF,ag]
 refine dp (T:=[]) (aq.nil PP) mixed Try.func63 rfl (by kernel_rfl) (by kernel_rfl) (by kernel_rfl) (by kernel_rfl) ?_;unfold Try.f63
 simp only [↓wR,RA,simprocAttr,TF,ag]
 refine ff [0,1,7,8] (fun (i:Nat)=>[.vl false 4 (l.map (ar.val false)),.fn (.func 42) [] [.ptr 0 0,.ptr 1 0],.sc (.int .i64 (l.length)),.sc (.int .i64 (i))]) (fun _=>[some (.row [.sc (.int .u16 t.toNat)] 0 2 34),some (.row [.vl false 1 (d.names.map (ay.val false)),.vl false 1 (d.nums.map (cj.val false)),.vl false 1 (d.texts.map (ak.val false)),.vl false 1 (d.raw.map (bd.val false))] 0 2 41)]) (fun i=>i≤l.length∧jj t l d=jj t (l.drop i) d) (fun i=>l.length - i) 0 ⟨Nat.zero_le _,rfl⟩ (by simp only [↓wR,RA,simprocAttr,TF,ag]<;>rfl) (by simp only [↓wR,RA,simprocAttr,TF,ag]<;>rfl) ?_
 rintro i ⟨hi,hx⟩
 simp only [↓wR,RA,simprocAttr,TF,ag]
 rw [bz];refine ⟨fun h=>?_,fun h=>?_⟩
 ·obtain ⟨c,hc,hd1,hlt⟩:=ku (decide_eq_true h)
  have hx':jj t l d=(my t c d || jj t (l.drop (i+1)) d):=by rw [hx,hd1];rfl
  simp only [↓wR,RA,simprocAttr,TF,ag,h,hc];repeat (simp (disch:=omega) only [ah,cb,cd,cg,cf];try simp only [↓wR,RA,simprocAttr,TF,ag,h,hc])
  refine dp (T:=[aau]) (aq.cons (aw Hl) (aq.nil PP)) mixed Try.func42 rfl (by kernel_rfl) (by kernel_rfl) (by kernel_rfl) (by kernel_rfl) ?_;unfold Try.f42
  simp only [↓wR,RA,simprocAttr,TF,ag,wz,hl c (List.mem_of_getElem? hc),hd]
  rw [fk];refine ⟨fun h1=>?_,fun h1=>?_⟩
  ·rw [h1,Bool.true_or] at hx'
   simp only [↓wR,RA,simprocAttr,TF,ag,h1]
   rw [hx']
   done
  ·rw [h1,Bool.false_or] at hx'
   simp only [↓wR,RA,simprocAttr,TF,ag,h1];repeat (simp (disch:=omega) only [ah,cb,cd,cg,cf];try simp only [↓wR,RA,simprocAttr,TF,ag,h1])
   exact ⟨i+1,⟨hlt,hx'⟩,by omega,by (first|rfl|trivial|omega|((try (simp (disch:=omega) only [ah]));(try (simp only [FB]));first|done|rfl|omega))⟩
 ·rw [oc (decide_eq_false h)] at hx
  simp only [↓wR,RA,simprocAttr,TF,ag,h]
  rw [hx];rfl
def jl (l:List bp):Prop:=eh nj l≤16777216
instance (l:List bp):Decidable (jl l):=inferInstanceAs (Decidable (_≤_))
theorem jl.mem {l:List bp} (h:jl l):∀ x ∈ l,cp x:=fun x hx=>by
 have h1:nj x<eh nj l:=xj hx
 unfold jl at h;unfold cp;omega
theorem jl.len {l:List bp} (h:jl l):l.length≤16777216:=Nat.le_trans (Se nj l) h
theorem al9 {α:Type} (f : α→Nat) (l:List α) (i:Nat):eh f (l.take i)≤eh f l:=by
 induction l generalizing i with
 |nil=>simp
 |cons a l ih=>
  cases i with
  |zero=>exact Nat.zero_le _
  |succ i=>have:=ih i;simp only [eh,List.take_succ_cons,List.foldr_cons] at this ⊢;omega
theorem jl.take {l:List bp} (h:jl l) (i:Nat):jl (l.take i):=Nat.le_trans (al9 nj l i) h
noncomputable def ub (x:UInt16 × List bp × bp × Unit):Option AV:=if jl x.2.1∧cp x.2.2.1 then some ((r1 dq).E true (jj x.1 x.2.1 x.2.2.1)) else none
set_option maxRecDepth 2000000 in
theorem I1 (x:UInt16 × List bp × bp × Unit) (r:AV) (h:ub x=some r):bw PP 18 ((aC ca (aC (bt ar) (aC ar a0))).E x) r:=by
 by_cases hc:jl x.2.1∧cp x.2.2.1
 case neg=>simp only [ub,if_neg hc] at h;cases h
 simp only [ub,if_pos hc] at h
 cases h
 exact bg (aq.nil PP) Try.func18 (by kernel_rfl) (by kernel_rfl) (by kernel_rfl) (Nat.le_of_ble_eq_true (by kernel_rfl)) (r1 dq) true (jj x.1 x.2.1 x.2.2.1) (arx x.1 x.2.1 x.2.2.1 hc.1.mem hc.1.len hc.2)
noncomputable abbrev wu:Nat × Bool × (List AV→M AV):=(18,true,dv (aC ca (aC (bt ar) (aC ar a0))) ub)
def wtS (s:ba):Nat:=br s.owner+eh nj s.data
def dk (s:ba):Prop:=wtS s≤16777216
instance (s:ba):Decidable (dk s):=inferInstanceAs (Decidable (_≤_))
theorem dk.owner {s:ba} (h:dk s):c0 s.owner:=by unfold dk wtS at h;unfold c0;omega
theorem dk.data {s:ba} (h:dk s):jl s.data:=by unfold dk wtS at h;unfold jl;omega
noncomputable def ir (t:UInt16):List bp→List bp→Int
 |_,[]=>0
 |pre,d::r=>if c7 t d≠0 then c7 t d else if jj t pre d=true then 10 else ir t (pre++[d]) r
noncomputable def An (s:ba):Int:=
 if cw s.owner≠0 then cw s.owner else if s.data.length=0 then 9 else if 512<s.data.length then 3 else ir s.type [] s.data
theorem Ej (t:UInt16) {l:List bp} {i:Nat} {c:bp} (hc:l[i]? = some c):ir t (l.take i) (l.drop i)=if c7 t c≠0 then c7 t c else if jj t (l.take i) c=true then 10 else ir t (l.take (i+1)) (l.drop (i+1)):=by
 obtain ⟨hi,rfl⟩:=List.getElem?_eq_some_iff.1 hc
 rw [List.drop_eq_getElem_cons hi,ir,List.take_succ_eq_append_getElem hi]
theorem acs (s:ba) (hs:dk s):wl PP [jm,jn,wu] 0 (Try.f10.body.getD .skip) (ea PP Try.f10.results.toList (fun r st=>(r1 (bm .i64)).get true st.h r=some (An s))) (cq 0 [bb.val false s]) (az []):=by
 have ho:=hs.owner
 have hd:=hs.data
 have hn:=hd.len
 unfold Try.f10
 simp only [qk]
 simp only [↓wR,RA,simprocAttr,TF,ag,gn,ho.fit]
 unfold An
 rw [fk];refine ⟨fun h=>?_,fun h=>?_⟩
 ·have he:cw s.owner≠0:=by simpa using h
  rw [if_pos he]
  simp only [↓wR,RA,simprocAttr,TF,ag,h]
 have he:cw s.owner=0:=by simpa using h
 rw [if_neg (by omega)]
 simp only [↓wR,RA,simprocAttr,TF,ag,h]
 rw [fm];refine ⟨fun ⟨h1,e1⟩=>?_,fun ⟨h1,e1⟩=>?_⟩
 ·rw [if_pos (by omega)]
  simp only [↓wR,RA,simprocAttr,TF,ag,h1]
 rw [if_neg (by omega)]
 simp only [↓wR,RA,simprocAttr,TF,ag,h1]
 rw [bz];refine ⟨fun h2=>?_,fun h2=>?_⟩
 ·rw [if_pos (by omega)]
  simp only [↓wR,RA,simprocAttr,TF,ag,h2]
 rw [if_neg (by omega)]
 simp only [↓wR,RA,simprocAttr,TF,ag,h2]
 refine ff [1,24,25,26] (fun (i:Nat)=>[.ptr 0 0,.vl false 4 (s.data.map (ar.val false)),.sc (.int .i64 (s.data.length)),.sc (.int .i64 (i))]) (fun _=>[some (.row [.vl false 1 (s.owner.map (ak.val false)),.sc (.int .u16 s.type.toNat),.sc (.int .u16 s.cls.toNat),.sc (.int .u32 s.cx.toNat),.vl false 4 (s.data.map (ar.val false))] 0 2 48)]) (fun i=>i≤s.data.length∧ir s.type [] s.data=ir s.type (s.data.take i) (s.data.drop i)) (fun i=>s.data.length - i) 0 ⟨Nat.zero_le _,rfl⟩ (by simp only [↓wR,RA,simprocAttr,TF,ag]<;>rfl) (by simp only [↓wR,RA,simprocAttr,TF,ag]<;>rfl) ?_
 rintro i ⟨hi,hx⟩
 simp only [↓wR,RA,simprocAttr,TF,ag]
 rw [bz];refine ⟨fun h3=>?_,fun h3=>?_⟩
 ·obtain ⟨c,hc,hd1,hlt⟩:=ku (decide_eq_true h3)
  rw [Ej _ hc] at hx
  have hcs:=hd.mem c (List.mem_of_getElem? hc)
  simp only [↓wR,RA,simprocAttr,TF,ag,h3,hc,g6,hcs]
  rw [fk];refine ⟨fun h4=>?_,fun h4=>?_⟩
  ·have he4:c7 s.type c≠0:=by simpa using h4
   rw [if_pos he4] at hx
   simp only [↓wR,RA,simprocAttr,TF,ag,h4]
   rw [hx]
  ·have he4:c7 s.type c=0:=by simpa using h4
   rw [if_neg (by omega)] at hx
   simp only [↓wR,RA,simprocAttr,TF,ag,h4]
   refine ⟨by kernel_rfl,.inl ?_⟩
   simp only [↓wR,RA,simprocAttr,TF,ag,hi,ub,hd.take i,hcs]
   refine ⟨by kernel_rfl,?_⟩
   rw [fk];refine ⟨fun h5=>?_,fun h5=>?_⟩
   ·rw [if_pos h5] at hx
    simp only [↓wR,RA,simprocAttr,TF,ag,h5]
    rw [hx]
   ·rw [if_neg (by rw [h5];decide)] at hx
    simp only [↓wR,RA,simprocAttr,TF,ag,h5];repeat (simp (disch:=omega) only [ah,cb,cd,cg,cf];try simp only [↓wR,RA,simprocAttr,TF,ag,h5])
    exact ⟨i+1,⟨hlt,hx⟩,by omega,by (first|rfl|trivial|omega|((try (simp (disch:=omega) only [ah]));(try (simp only [FB]));first|done|rfl|omega))⟩
 ·rw [oc (decide_eq_false h3)] at hx
  simp only [↓wR,RA,simprocAttr,TF,ag,h3]
  rw [hx];rfl
noncomputable def xk (x:ba × Unit):Option AV:=if dk x.1 then some ((r1 (bm .i64)).E true (An x.1)) else none
set_option maxRecDepth 2000000 in
theorem Vx (x:ba × Unit) (r:AV) (h:xk x=some r):bw PP 10 ((aC bb a0).E x) r:=by
 by_cases hc:dk x.1
 case neg=>simp only [xk,if_neg hc] at h;cases h
 simp only [xk,if_pos hc] at h
 cases h
 exact bg (aq.cons (aw vg) (aq.cons (aw vi) (aq.cons (aw I1) (aq.nil PP)))) Try.func10 (by kernel_rfl) (by kernel_rfl) (by kernel_rfl) (Nat.le_of_ble_eq_true (by kernel_rfl)) (r1 (bm .i64)) true (An x.1) (acs x.1 hc)
noncomputable abbrev Nl:Nat × Bool × (List AV→M AV):=(10,true,dv (aC bb a0) xk)
theorem ah2 (s:ba) (hs:dk s):wl PP [kp,mj] 0 (Try.f21.body.getD .skip) (ea PP Try.f21.results.toList (fun r st=>(r1 bb).get true st.h r=some s)) (cq 0 [bb.val false s]) (az []):=by
 have ho:=hs.owner
 have hd:=hs.data
 have hn:=hd.len
 unfold Try.f21
 simp only [qk]
 simp only [↓wR,RA,simprocAttr,TF,ag,qi,ho]
 refine nq [2,13,14,15,3] (fun (x:List bp)=>[.ptr 0 0,.vl false 4 (s.data.map (ar.val false)),.sc (.int .i64 (s.data.length)),.sc (.int .i64 (x.length)),.ptr 1 0]) (fun x=>[some (.row [.sc (.slice none 0 0),.sc (.int .u16 0),.sc (.int .u16 0),.sc (.int .u32 0),.sc (.slice none 0 0)] 0 2 48),some (.row [ay.val true s.owner,.sc (.int .u16 s.type.toNat),.sc (.int .u16 s.cls.toNat),.sc (.int .u32 s.cx.toNat),.sl 2 0 x.length 4] 0 2 48),some (.row (cellsOf ar true x) 0 0 41)]) (fun x=>x.length≤s.data.length∧x++s.data.drop x.length=s.data) (fun x=>s.data.length - x.length) [] ⟨Nat.zero_le _,rfl⟩ (by simp only [↓wR,RA,simprocAttr,TF,ag];(refine ny.lax [] (by first|exact Nat.le_of_ble_eq_true rfl|(simp [be];omega)) ?_ ?_<;>repeat' first|exact je.nil|exact dn.nil|exact kx.same _|exact kx.nil _ _ _|exact kx.zf _ _|exact dn.refl _ _|apply je.cons|apply dn.ghost|apply dn.same|apply dn.row)) ?_
 rintro x ⟨hi,hx⟩
 simp only [↓wR,RA,simprocAttr,TF,ag]
 rw [bz];refine ⟨fun h=>?_,fun h=>?_⟩
 ·obtain ⟨c,hc,hd1,hlt⟩:=ku (decide_eq_true h)
  rw [hd1] at hx
  have hcs:=hd.mem c (List.mem_of_getElem? hc)
  simp only [↓wR,RA,simprocAttr,TF,ag,h,hc]
  refine ⟨by kernel_rfl,.inl ?_⟩
  have hlim:(x.length * 4+4) * 96≤140737488355328:=by omega
  simp only [↓wR,RA,simprocAttr,TF,ag,qs,hcs,hlim]
  refine ⟨by kernel_rfl,x++[c],⟨by simp;omega,by simpa using hx⟩,by simp;omega,by (first|rfl|trivial|omega|((try (simp (disch:=omega) only [ah]));(try (simp only [FB]));first|done|rfl|omega)),?_⟩
  rw [Hu,List.length_append];rfl
 ·rw [oc (decide_eq_false h)] at hx
  rw [List.append_nil] at hx
  subst hx
  simp only [↓wR,RA,simprocAttr,TF,ag,h]
noncomputable def zd (x:ba × Unit):Option AV:=if dk x.1 then some ((r1 bb).E true (x.1)) else none
set_option maxRecDepth 2000000 in
theorem Zq (x:ba × Unit) (r:AV) (h:zd x=some r):bw PP 21 ((aC bb a0).E x) r:=by
 by_cases hc:dk x.1
 case neg=>simp only [zd,if_neg hc] at h;cases h
 simp only [zd,if_pos hc] at h
 cases h
 exact bg (aq.cons (aw wg) (aq.cons (aw Hq) (aq.nil PP))) Try.func21 (by kernel_rfl) (by kernel_rfl) (by kernel_rfl) (Nat.le_of_ble_eq_true (by kernel_rfl)) (r1 bb) true (x.1) (ah2 x.1 hc)
noncomputable abbrev apr:Nat × Bool × (List AV→M AV):=(21,true,dv (aC bb a0) zd)
def wtZ (z:ia):Nat:=br z.origin+eh wtS z.jw
def asc (z:ia):Prop:=wtZ z≤16777216
instance (z:ia):Decidable (asc z):=inferInstanceAs (Decidable (_≤_))
def aql (n top:Name):Bool:=decide (top.length<n.length) && B0 n top
def atV (z:ia) (n:Name):List ba:=z.jw.filter fun s=>ib s.owner n
def aqi (n:Name) (b:Option Name):Bool:=match b with|none=>true|some m=>decide (n.length<m.length)
def apf (z:ia) (n:Name) (best:Option Name) (s:ba):Option Name:=
 if (decide ((s.type.toNat:Int)=2) && (aql s.owner z.origin && (B0 n s.owner && aqi s.owner best)))=true then some s.owner else best
def as9 (z:ia) (n:Name):Option Name:=z.jw.foldl (apf z n) none
def ati (z:ia) (n:Name):Bool:=B0 n z.origin && (ib n z.origin || z.jw.any fun s=>B0 s.owner n)
theorem ajc (t:UInt16):wl PP [] 0 (Try.f51.body.getD .skip) (ea PP Try.f51.results.toList (fun r st=>(r1 dq).get true st.h r=some false)) (cq 0 [ca.val false t]) (az []):=by
 unfold Try.f51
 simp only [↓wR,RA,simprocAttr,TF,ag,bne_self_eq_false]
noncomputable def Sl (x:UInt16 × Unit):Option AV:=some ((r1 dq).E true (false))
set_option maxRecDepth 2000000 in
theorem aby (x:UInt16 × Unit) (r:AV) (h:Sl x=some r):bw PP 51 ((aC ca a0).E x) r:=by
 cases h
 exact bg (aq.nil PP) Try.func51 (by kernel_rfl) (by kernel_rfl) (by kernel_rfl) (Nat.le_of_ble_eq_true (by kernel_rfl)) (r1 dq) true (false) (ajc x.1)
noncomputable abbrev asv:Nat × Bool × (List AV→M AV):=(51,true,dv (aC ca a0) Sl)
def uk (a b:UInt16):Int:=if (a.toNat:Int)<b.toNat then -1 else if (b.toNat:Int)<a.toNat then 1 else 0
theorem apk (a b:UInt16):wl PP [asv] 0 (Try.f26.body.getD .skip) (ea PP Try.f26.results.toList (fun r st=>(r1 (bm .i64)).get true st.h r=some (uk a b))) (cq 0 [ca.val false a,ca.val false b]) (az []):=by
 unfold Try.f26
 unfold uk
 simp only [↓wR,RA,simprocAttr,TF,ag,Sl]
 rw [bz];refine ⟨fun h=>?_,fun h=>?_⟩
 ·rw [if_pos h]
  simp only [↓wR,RA,simprocAttr,TF,ag,h]
 ·rw [if_neg h]
  simp only [↓wR,RA,simprocAttr,TF,ag,h]
  rw [bz];refine ⟨fun h2=>?_,fun h2=>?_⟩
  ·rw [if_pos h2]
   simp only [↓wR,RA,simprocAttr,TF,ag,h2]
  ·rw [if_neg h2]
   simp only [↓wR,RA,simprocAttr,TF,ag,h2]
noncomputable def Ze (x:UInt16 × UInt16 × Unit):Option AV:=some ((r1 (bm .i64)).E true (uk x.1 x.2.1))
set_option maxRecDepth 2000000 in
theorem agi (x:UInt16 × UInt16 × Unit) (r:AV) (h:Ze x=some r):bw PP 26 ((aC ca (aC ca a0)).E x) r:=by
 cases h
 exact bg (aq.cons (aw aby) (aq.nil PP)) Try.func26 (by kernel_rfl) (by kernel_rfl) (by kernel_rfl) (Nat.le_of_ble_eq_true (by kernel_rfl)) (r1 (bm .i64)) true (uk x.1 x.2.1) (apk x.1 x.2.1)
noncomputable abbrev atn:Nat × Bool × (List AV→M AV):=(26,true,dv (aC ca (aC ca a0)) Ze)
def Fo:List Int→Int
 | []=>0
 |a::r=>if a≠0 then a else Fo r
theorem auc (l:List Int) (hl:l.length≤16777216):wl PP [] 0 (Try.f24.body.getD .skip) (ea PP Try.f24.results.toList (fun r st=>(r1 (bm .i64)).get true st.h r=some (Fo l))) (cq 0 [(bt (bm .i64)).val false l]) (az []):=by
 unfold Try.f24
 rw [m9]
 simp only [↓wR,RA,simprocAttr,TF,ag]
 refine ff [3,6,7,8] (fun (i:Nat)=>[.sc (.int .i64 (0)),.vl false 1 (l.map ((bm .i64).val false)),.sc (.int .i64 (l.length)),.sc (.int .i64 (i))]) (fun _=>[]) (fun i=>i≤l.length∧Fo l=Fo (l.drop i)) (fun i=>l.length - i) 0 ⟨Nat.zero_le _,rfl⟩ (by simp only [↓wR,RA,simprocAttr,TF,ag]<;>rfl) (by simp only [↓wR,RA,simprocAttr,TF,ag]<;>rfl) ?_
 rintro i ⟨hi,hx⟩
 simp only [↓wR,RA,simprocAttr,TF,ag]
 rw [bz];refine ⟨fun h=>?_,fun h=>?_⟩
 ·obtain ⟨c,hc,hd1,hlt⟩:=ku (decide_eq_true h)
  rw [hd1,Fo] at hx
  simp only [↓wR,RA,simprocAttr,TF,ag,h,hc]
  rw [pc];refine ⟨fun ⟨h2,e2⟩=>?_,fun ⟨h2,e2⟩=>?_⟩
  ·rw [if_pos e2] at hx
   simp only [↓wR,RA,simprocAttr,TF,ag,h2]
   rw [hx]
  ·rw [if_neg (by omega)] at hx
   simp only [↓wR,RA,simprocAttr,TF,ag,h2];repeat (simp (disch:=omega) only [ah,cb,cd,cg,cf];try simp only [↓wR,RA,simprocAttr,TF,ag,h2])
   exact ⟨i+1,⟨hlt,hx⟩,by omega,by (first|rfl|trivial|omega|((try (simp (disch:=omega) only [ah]));(try (simp only [FB]));first|done|rfl|omega))⟩
 ·rw [oc (decide_eq_false h)] at hx
  simp only [↓wR,RA,simprocAttr,TF,ag,h]
  rw [hx];rfl
noncomputable def Zc (x:List Int × Unit):Option AV:=if x.1.length≤16777216 then some ((r1 (bm .i64)).E true (Fo x.1)) else none
set_option maxRecDepth 2000000 in
theorem amq (x:List Int × Unit) (r:AV) (h:Zc x=some r):bw PP 24 ((aC (bt (bm .i64)) a0).E x) r:=by
 by_cases hc:x.1.length≤16777216
 case neg=>simp only [Zc,if_neg hc] at h;cases h
 simp only [Zc,if_pos hc] at h
 cases h
 exact bg (aq.nil PP) Try.func24 (by kernel_rfl) (by kernel_rfl) (by kernel_rfl) (Nat.le_of_ble_eq_true (by kernel_rfl)) (r1 (bm .i64)) true (Fo x.1) (auc x.1 hc)
noncomputable abbrev orC:Nat × Bool × (List AV→M AV):=(24,true,dv (aC (bt (bm .i64)) a0) Zc)
noncomputable def aqw (a b:ba):Int:=Fo [om a.owner b.owner,uk a.type b.type]
noncomputable def ajt (t:UInt16):List bp→Bool
 |a::b::r=>if 0≤D6 t a b then false else ajt t (b::r)
 |_=>true
noncomputable def arz (z:ia) (i:Nat) (s:ba):Bool:=
 (match i with|0=>true|k+1=>match z.jw[k]? with|some a=>decide (¬ (aqw a s ≥ 0))|none=>true) && ajt s.type s.data
def ad9 (i:Nat) (n:Name):Nat→List ba→Bool
 |_,[]=>false
 |k,o::r=>(decide (¬ (k:Int)=i) && ib o.owner n) || ad9 i n (k+1) r
def ar7 (z:ia) (i:Nat) (s:ba):Bool:=
 if ¬ (s.type.toNat:Int)=5 then true else if ¬ (s.data.length:Int)=1 then false else if ib s.owner z.origin=true then false else !ad9 i s.owner 0 z.jw
def aro (s:ba):Bool:=if ¬ (s.cls.toNat:Int)=1 then false else if (s.type.toNat:Int)=0 then false else if (s.type.toNat:Int)=41 then false else !decide ((s.type.toNat:Int)=255)
def ato (s:ba):Bool:=if ¬ (s.type.toNat:Int)=2 then true else match s.owner[0]? with|none=>true|some a=>!decide (a=ahc)
def au9 (z:ia) (s:ba):Bool:=
 match as9 z s.owner with
 |none=>true
 |some c=>if (s.type.toNat:Int)=1 then true else if (s.type.toNat:Int)=28 then true else if (s.type.toNat:Int)=2 then ib c s.owner else false
def ap7 (z:ia) (p:Nat × Nat) (s:ba):Nat × Nat:=
 if (s.type.toNat:Int)=6 then (p.1+1,if (ib s.owner z.origin && decide ((s.data.length:Int)=1))=true then p.2+1 else p.2) else p
def ao5 (z:ia):Nat × Nat:=z.jw.foldl (ap7 z) (0,0)
def V4 (b:Bool) (err e:Int):Int:=if e=0∧b=false then err else e
def Gx (err:Int) (p:Nat→ba→Bool):Nat→List ba→Int→Int
 |_,[],e=>e
 |i,s::r,e=>if e≠0 then e else Gx err p (i+1) r (V4 (p i s) err e)
def aqf (l:List ba):Nat:=l.foldl (fun n s=>n+s.data.length) 0
noncomputable def aol:List ba→Int→Int
 | [],e=>e
 |s::r,e=>aol r (if e=0 then An s else e)
noncomputable def Wi (z:ia):Int:=if cw z.origin≠0 then cw z.origin else aol z.jw (V4 (decide (aqf z.jw≤2048)) 3 0)
def atz (z:ia) (l:List ba):Bool:=l.any fun s=>decide ((s.type.toNat:Int)=2) && ib s.owner z.origin
def at3 (z:ia):Bool:=atz z z.jw
noncomputable def asf (z:ia):Int:=Gx 260 (arz z) 0 z.jw (Wi z)
noncomputable def ata (z:ia):Int:=Gx 261 (fun _ s=>aro s) 0 z.jw (asf z)
noncomputable def atj (z:ia):Int:=Gx 262 (fun _ s=>B0 s.owner z.origin) 0 z.jw (ata z)
noncomputable def asq (z:ia):Int:=V4 (decide ((ao5 z).1=1) && decide ((ao5 z).2=1)) 263 (atj z)
noncomputable def art (z:ia):Int:=V4 (at3 z) 264 (asq z)
noncomputable def arj (z:ia):Int:=Gx 265 (ar7 z) 0 z.jw (art z)
noncomputable def arn (z:ia):Int:=Gx 266 (fun _ s=>ato s) 0 z.jw (arj z)
noncomputable def arv (z:ia):Int:=Gx 267 (fun _ s=>au9 z s) 0 z.jw (arn z)
noncomputable def adr (z:ia):Int:=if Wi z≠0 then Wi z else arv z
noncomputable def abb (z:ia) (n:Name):Int:=if adr z≠0 then adr z else if cw n≠0 then cw n else if B0 n z.origin=false then 2 else 0
def uu (z:ia):Name→Name
 | []=>[]
 |a::r=>if ati z (a::r)=true then a::r else uu z r
noncomputable def aft (z:ia) (n:Name):V9 × Int:=
 if abb z n≠0 then (Wo 0 [] [],abb z n)
 else match as9 z n with
  |some c=>(Wo 4 c [],0)
  |none=>
   if 0<(atV z n).length then (Wo 1 n (uu z n),0)
   else if (uu z n).length=n.length then (Wo 2 [] (uu z n),0)
   else if ati z (ahc::uu z n)=true then (Wo 3 (ahc::uu z n) (uu z n),0)
   else (Wo 0 [] (uu z n),0)
end Go.Proofs.Ytifjogffkafalaa
end
section
namespace Go.Proofs.Ytifjogffkafalaa
open Go.Vm
theorem ma {a b:Name}:ib a b=true↔ed a=ed b:=by simp [ib]
end Go.Proofs.Ytifjogffkafalaa
end
section
namespace Go.Proofs.Ytifjogffkafalaa
open Go.Vm
set_option maxRecDepth 2000000
def asz (l:List ba):Prop:=eh wtS l≤16777216
instance (l:List ba):Decidable (asz l):=inferInstanceAs (Decidable (_≤_))
def D9 (l:List ba):Prop:=l.length≤281474976710656∧∀ s ∈ l,dk s
instance (l:List ba):Decidable (D9 l):=inferInstanceAs (Decidable (_∧_))
def aue (n:Name) (t:UInt16) (s:ba):Bool:=decide ((s.type.toNat:Int)=t.toNat) && (decide ((s.cls.toNat:Int)=1) && ib s.owner n)
def aog (l:List ba) (n:Name) (t:UInt16):Option ba:=l.find? (aue n t)
def ary:ba:=m7 [] 0 0 0 []
theorem ny.asw {aj:Nat} {vs vs':List AV} {os os':List (Option an)} (hp:aj≤1000) (hV:AV.bk.go (fun o=>idx (rm aj vs os) o 0) vs=vs') (hO:gw (az os).h (fun o=>idx (rm aj vs os) o 0) (rm aj vs os)=os'):ny aj vs os vs' os':=by
 subst hV hO;exact ny.canon hp
noncomputable def aji (z:ia) (n:Name) (t:UInt16):V9 × Int:=
 if (aft z n).2=0∧((t.toNat:Int)=0∨(t.toNat:Int)=41) then (Wo 0 [] [],6) else aft z n
def avf (n:Name) (s:ba):ba:=m7 n s.type s.cls s.cx s.data
end Go.Proofs.Ytifjogffkafalaa
end
namespace Go.Vm
def mu {α:Type} (lt : α → α→Bool) (x : α):List α→List α
 | []=>[x]
 |y::l=>bif lt x y then x::y::l else y::mu lt x l
def dh {α:Type} (lt : α → α→Bool):List α→List α:=List.foldl (fun acc x=>mu lt x acc) []
def fl {α:Type} (lt : α → α→Bool):List α→List α→List α
 | [],r=>r
 |x::l,[]=>x::l
 |x::l,y::r=>bif lt y x then y::fl lt (x::l) r else x::fl lt l (y::r)
termination_by l r=>l.length+r.length
structure tx {α:Type} (lt : α → α→Bool) (V : α→Prop):Prop where
 agf:∀ x y,V x→V y→lt x y=true→lt y x=false
 trans:∀ x y z,V x→V y→V z→lt y x=false→lt z y=false→lt z x=false
def jc {α:Type} (lt : α → α→Bool) (l:List α):Prop:=l.Pairwise fun x y=>lt y x=false
theorem jq {α:Type} {lt : α → α→Bool} (r:List α):fl lt [] r=r:=by rw [fl]
theorem i6 {α:Type} {lt : α → α→Bool} (l:List α):fl lt l []=l:=by cases l<;>rw [fl]
theorem kb {α:Type} {lt : α → α→Bool} (x y : α) (l r:List α):fl lt (x::l) (y::r)=bif lt y x then y::fl lt (x::l) r else x::fl lt l (y::r):=by rw [fl]
theorem Z0 {α:Type} {lt : α → α→Bool} {x z : α}:∀ {l:List α},z ∈ mu lt x l↔z=x∨z ∈ l
 | []=>by simp [mu]
 |y::l=>by
  rw [mu]
  cases lt x y with
  |true=>simp
  |false=>simp only [cond_false,List.mem_cons,Z0 (l:=l)];constructor<;>(rintro (h|h|h)<;>simp [h])
theorem U4 {α:Type} {lt : α → α→Bool} {x : α}:∀ {l:List α},(mu lt x l).Perm (x::l)
 | []=>.refl _
 |y::l=>by
  rw [mu]
  cases lt x y with
  |true=>exact .refl _
  |false=>exact (List.Perm.cons y (U4 (l:=l))).trans (List.Perm.swap x y l)
theorem T5 {α:Type} {lt : α → α→Bool}:dh lt []=[]:=rfl
theorem x8 {α:Type} {lt : α → α→Bool} (l:List α) (x : α):dh lt (l++[x])=mu lt x (dh lt l):=by simp [dh,List.foldl_append]
theorem Nb {α:Type} {p:List α→Prop} (l:List α) (h0:p []) (h1:∀ l x,p l→p (l++[x])):p l:=by
 have key:∀ r:List α,p r.reverse:=fun r=>by
  induction r with
  |nil=>exact h0
  |cons a r ih=>rw [List.reverse_cons];exact h1 _ _ ih
 rw [← List.reverse_reverse l];exact key _
theorem Gb {α:Type} {lt : α → α→Bool} (l:List α):(dh lt l).Perm l:=by
 refine Nb (p:=fun l=>(dh lt l).Perm l) l (.refl _) fun l x ih=>?_
 rw [x8]
 exact U4.trans ((List.Perm.cons x ih).trans (List.perm_append_singleton x l).symm)
theorem fv {α:Type} {lt : α → α→Bool} {l:List α} {z : α}:z ∈ dh lt l↔z ∈ l:=(Gb l).mem_iff
theorem gp {α:Type} {lt : α → α→Bool} (l:List α):(dh lt l).length=l.length:=(Gb l).length_eq
theorem Eg {α:Type} {lt : α → α→Bool}:∀ (l r:List α),(fl lt l r).Perm (l++r)
 | [],r=>by rw [jq];exact .refl _
 |x::l,[]=>by rw [i6,List.append_nil]
 |x::l,y::r=>by
  rw [kb]
  cases lt y x with
  |true=>exact (List.Perm.cons y (Eg (x::l) r)).trans (List.perm_middle (l₁:=x::l)).symm
  |false=>exact List.Perm.cons x (Eg l (y::r))
termination_by l r=>l.length+r.length
theorem agk {α:Type} {lt : α → α→Bool} (l r:List α):(fl lt l r).length=l.length+r.length:=by rw [(Eg l r).length_eq,List.length_append]
theorem tx.le_of_lt {α:Type} {lt : α → α→Bool} {V : α→Prop} (O:tx lt V) {x y z : α} (hx:V x) (hy:V y) (hz:V z) (h:lt x y=true) (k:lt z y=false):lt z x=false:=O.trans x y z hx hy hz (O.agf x y hx hy h) k
theorem P0 {α:Type} {lt : α → α→Bool} {V : α→Prop} (O:tx lt V) {x : α} (hx:V x):∀ {l:List α},(∀ y ∈ l,V y)→jc lt l→jc lt (mu lt x l)
 | [],_,_=>by simp [mu,jc]
 |y::l,hV,h=>by
  have h1:=List.pairwise_cons.1 h
  have hy:=hV y List.mem_cons_self
  have hl:∀ z ∈ l,V z:=fun z hz=>hV z (List.mem_cons_of_mem _ hz)
  rw [mu]
  cases e:lt x y with
  |true=>
   rw [cond_true]
   refine List.pairwise_cons.2 ⟨fun z hz=>?_,h⟩
   rcases List.mem_cons.1 hz with rfl|hz
   ·exact O.agf _ _ hx hy e
   ·exact O.le_of_lt hx hy (hl z hz) e (h1.1 z hz)
  |false=>
   rw [cond_false]
   refine List.pairwise_cons.2 ⟨fun z hz=>?_,P0 O hx hl h1.2⟩
   rcases Z0.1 hz with rfl|hz
   ·exact e
   ·exact h1.1 z hz
theorem tn {α:Type} {lt : α → α→Bool} {V : α→Prop} (O:tx lt V) (l:List α) (hV:∀ y ∈ l,V y):jc lt (dh lt l):=by
 revert hV
 refine Nb (p:=fun l=>(∀ y ∈ l,V y)→jc lt (dh lt l)) l (fun _=>List.Pairwise.nil) fun l x ih hV=>?_
 rw [x8]
 exact P0 O (hV x (by simp)) (fun y hy=>hV y (by simp [fv.1 hy])) (ih fun y hy=>hV y (by simp [hy]))
theorem C6 {α:Type} {lt : α → α→Bool} {V : α→Prop} (O:tx lt V) {x : α} (hx:V x):∀ (a b:List α),(∀ y ∈ a,V y)→(∀ y ∈ b,V y)→fl lt a (mu lt x b)=mu lt x (fl lt a b)
 | [],b,_,_=>by rw [jq,jq]
 |a::s,[],ha,hb=>by
  have ih:=C6 O hx s [] (fun y hy=>ha y (List.mem_cons_of_mem _ hy)) hb
  rw [i6] at ih ⊢
  rw [mu,kb,mu]
  cases lt x a with
  |true=>rw [cond_true,cond_true,i6]
  |false=>rw [cond_false,cond_false];rw [mu] at ih;rw [ih]
 |a::s,b::r,ha,hb=>by
  have va:=ha a List.mem_cons_self
  have vb:=hb b List.mem_cons_self
  have ih1:=C6 O hx s (b::r) (fun y hy=>ha y (List.mem_cons_of_mem _ hy)) hb
  have ih2:=C6 O hx (a::s) r ha (fun y hy=>hb y (List.mem_cons_of_mem _ hy))
  rw [kb]
  rw [mu] at ih1 ⊢
  cases e1:lt x b with
  |true=>
   rw [e1,cond_true] at ih1
   rw [cond_true,kb]
   cases e2:lt b a with
   |true=>
    have e3:lt x a=true:=by
     cases e3:lt x a with
     |true=>rfl
     |false=>
      have:=O.trans a x b va hx vb e3 (O.agf _ _ hx vb e1)
      rw [e2] at this;cases this
    rw [e3,cond_true,cond_true,mu,e1,cond_true,kb,e2,cond_true]
   |false=>
    rw [cond_false,mu]
    cases e3:lt x a with
    |true=>rw [cond_true,cond_true,kb,e2,cond_false]
    |false=>rw [cond_false,cond_false,ih1]
  |false=>
   rw [e1,cond_false] at ih1
   rw [cond_false,kb]
   cases e2:lt b a with
   |true=>rw [cond_true,cond_true,mu,e1,cond_false,ih2]
   |false=>
    have e3:=O.trans a b x va vb hx e2 e1
    rw [cond_false,cond_false,mu,e3,cond_false,ih1]
termination_by a b=>a.length+b.length
theorem Pe {α:Type} {lt : α → α→Bool} {V : α→Prop} (O:tx lt V) (a b:List α) (ha:∀ y ∈ a,V y) (hb:∀ y ∈ b,V y):fl lt (dh lt a) (dh lt b)=dh lt (a++b):=by
 revert hb
 refine Nb (p:=fun b=>(∀ y ∈ b,V y)→fl lt (dh lt a) (dh lt b)=dh lt (a++b)) b (fun _=>by rw [T5,i6,List.append_nil]) fun b x ih hb=>?_
 rw [x8,← List.append_assoc,x8,C6 O (hb x (by simp)) _ _ (fun y hy=>ha y (fv.1 hy)) (fun y hy=>hb y (by simp [fv.1 hy])),ih fun y hy=>hb y (by simp [hy])]
theorem abf {α:Type} {lt : α → α→Bool} {x : α}:∀ (A B:List α),(∀ y ∈ A,lt x y=false)→(∀ y ∈ B.head?,lt x y=true)→mu lt x (A++B)=A++x::B
 | [],[],_,_=>rfl
 | [],b::B,_,h=>by rw [List.nil_append,mu,h b rfl];rfl
 |a::A,B,h,h2=>by rw [List.cons_append,mu,h a List.mem_cons_self,cond_false,abf A B (fun y hy=>h y (List.mem_cons_of_mem _ hy)) h2];rfl
theorem ph {α:Type} {lt : α → α→Bool}:∀ (A B C D:List α),(∀ x ∈ A,∀ y ∈ D,lt y x=false)→(∀ x ∈ B,∀ y ∈ C,lt y x=true)→fl lt (A++B) (C++D)=fl lt A C++fl lt B D
 | [],B,[],D,_,_=>by rw [jq];rfl
 | [],[],c::C,D,_,_=>by rw [List.append_nil,jq,jq,jq]
 | [],b::B,c::C,D,h1,h2=>by
  have ih:=ph [] (b::B) C D (by simp) (fun x hx y hy=>h2 x hx y (List.mem_cons_of_mem _ hy))
  rw [List.nil_append,List.cons_append,kb,h2 b List.mem_cons_self c List.mem_cons_self,cond_true,jq]
  rw [List.nil_append,jq] at ih
  rw [ih];rfl
 |a::A,B,[],[],_,_=>by rw [List.append_nil,i6,i6,i6]
 |a::A,B,[],d::D,h1,h2=>by
  have ih:=ph A B [] (d::D) (fun x hx=>h1 x (List.mem_cons_of_mem _ hx)) (by simp)
  rw [List.nil_append,i6] at ih ⊢
  rw [List.cons_append,kb,h1 a List.mem_cons_self d List.mem_cons_self,cond_false,ih];rfl
 |a::A,B,c::C,D,h1,h2=>by
  have ih1:=ph A B (c::C) D (fun x hx=>h1 x (List.mem_cons_of_mem _ hx)) h2
  have ih2:=ph (a::A) B C D h1 (fun x hx y hy=>h2 x hx y (List.mem_cons_of_mem _ hy))
  rw [List.cons_append,List.cons_append,kb,kb]
  cases lt c a with
  |true=>rw [cond_true,cond_true];rw [List.cons_append] at ih2;rw [ih2];rfl
  |false=>rw [cond_false,cond_false];rw [List.cons_append] at ih1;rw [ih1];rfl
termination_by A _ C _=>A.length+C.length
theorem S7 {α:Type} {lt : α → α→Bool} {V : α→Prop} (O:tx lt V) {A:List α} {x y : α} {D:List α} (hA:∀ z ∈ A++[x],V z) (hD:∀ z ∈ y::D,V z) (h1:jc lt (A++[x])) (h2:jc lt (y::D)) (h:lt y x=false):∀ a ∈ A++[x],∀ d ∈ y::D,lt d a=false:=by
 have k1:=List.pairwise_append.1 h1
 have k2:=List.pairwise_cons.1 h2
 intro a ha d hd
 have vx:=hA x (by simp)
 have vy:=hD y (by simp)
 have e1:lt y a=false:=by
  rcases List.mem_append.1 ha with q|q
  ·exact O.trans a x y (hA a ha) vx vy (k1.2.2 a q x (by simp)) h
  ·simp at q;subst q;exact h
 rcases List.mem_cons.1 hd with rfl|q
 ·exact e1
 ·exact O.trans a y d (hA a ha) vy (hD d hd) e1 (k2.1 d q)
theorem Ng {α:Type} {lt : α → α→Bool} {V : α→Prop} (O:tx lt V) {B:List α} {x y : α} {C:List α} (hB:∀ z ∈ x::B,V z) (hC:∀ z ∈ C++[y],V z) (h1:jc lt (x::B)) (h2:jc lt (C++[y])) (h:lt y x=true):∀ b ∈ x::B,∀ c ∈ C++[y],lt c b=true:=by
 have k1:=List.pairwise_cons.1 h1
 have k2:=List.pairwise_append.1 h2
 intro b hb c hc
 have vx:=hB x (by simp)
 have vy:=hC y (by simp)
 cases e:lt c b with
 |true=>rfl
 |false=>
  have e1:lt y b=false:=by
   rcases List.mem_append.1 hc with q|q
   ·exact O.trans b c y (hB b hb) (hC c hc) vy e (k2.2.2 c q y (by simp))
   ·simp at q;subst q;exact e
  have e2:lt y x=false:=by
   rcases List.mem_cons.1 hb with rfl|q
   ·exact e1
   ·exact O.trans x b y vx (hB b hb) vy (k1.1 b q) e1
  rw [h] at e2;cases e2
end Go.Vm
section
namespace Go.Proofs.Ytifjogffkafalaa
open Go.Vm
set_option maxRecDepth 2000000
theorem Cf {α:Type} (c:Bool) (x : α):(bif c then x else x)=x:=by cases c<;>rfl
theorem As {α:Type} (X Y:List α) (p q : α):(X++p::Y).set X.length q=X++q::Y:=by
 rw [List.set_append];simp
theorem get_at {α:Type} (X Y:List α) (p : α):(X++p::Y)[X.length]? = some p:=by
 rw [List.getElem?_append_right (Nat.le_refl _),Nat.sub_self];rfl
theorem aas {α:Type} (C:ct α) {xs:List α} {i:Nat} {c : α} (hc:xs[i]? = some c):((cellsOf C true xs).drop (i * C.sz)).take C.sz=C.cells true c∧C.sz≤((cellsOf C true xs).drop (i * C.sz)).length:=by
 obtain ⟨hi,rfl⟩:=List.getElem?_eq_some_iff.1 hc
 rw [Kb,List.drop_eq_getElem_cons hi,Ir]
 refine ⟨by rw [← C.len true xs[i],List.take_left],by rw [List.length_append,C.len];omega⟩
theorem Ti {α:Type} (C:ct α) {xs:List α} {i:Nat} {c : α} (y : α) (k:Nat) (et:TypeId) (id:Nat) (hc:xs[i]? = some c) :
 jh id (i * C.sz) C.sz (C.cells true y) (.row (cellsOf C true xs) 0 k et)=(eu id (.row (cellsOf C true (xs.set i y)) 0 k et)).bind fun _=>.pure (.sc undef):=by
 obtain ⟨hi,rfl⟩:=List.getElem?_eq_some_iff.1 hc
 have hl:(cellsOf C true xs).length=xs.length * C.sz:=qx C true xs
 have h1:(cellsOf C true xs).take (i * C.sz)=cellsOf C true (xs.take i):=Z1 C true xs i
 have h3:(cellsOf C true xs).drop (i * C.sz+C.sz)=cellsOf C true (xs.drop (i+1)):=by
  rw [show i * C.sz+C.sz=(i+1) * C.sz by rw [Nat.succ_mul],Kb]
 have hlt:i * C.sz+C.sz≤xs.length * C.sz:=by rw [← Nat.succ_mul];exact Nat.mul_le_mul_right _ hi
 have h4:(cellsOf C true xs).take (i * C.sz)++C.cells true y++(cellsOf C true xs).drop (i * C.sz+C.sz)=cellsOf C true (xs.set i y):=by
  rw [h1,h3,List.set_eq_take_append_cons_drop,if_pos hi,vu,Ir,List.append_assoc]
 have hone:(C.cells true y).all AV.one=true:=ak5 C true y
 have hb:Nat.beq (C.cells true y).length C.sz=true:=by rw [C.len];exact Nat.beq_refl _
 unfold jh
 simp only [hl,Nat.ble_eq_true_of_le hlt,h4,hone,hb]
 rfl
theorem ko {xs:List ba} {i:Nat} {c:ba} (k st et) (hc:xs[i]? = some c):ik PP 48 (i * 5) (.row (cellsOf bb true xs) k st et) = .pure (bb.val true c):=by
 have h:=aas bb hc
 have h1:lh PP 48=some true:=by kernel_rfl
 have h2:cz PP 48=some 5:=by kernel_rfl
 have h3:((cellsOf bb true xs).drop (i * 5)).take 5=bb.cells true c:=h.1
 have h4:Nat.ble 5 ((cellsOf bb true xs).drop (i * 5)).length=true:=Nat.ble_eq_true_of_le h.2
 unfold ik ni
 simp only [h1,h2,h3,h4,cond_true]
 rfl
theorem sa {xs:List ba} {i:Nat} {c:ba} (y:ba) (k:Nat) (et:TypeId) (id:Nat) (hc:xs[i]? = some c) :
 jh id (i * 5) 5 [.vl true 1 (y.owner.map (ak.val false)),.sc (.int .u16 y.type.toNat),.sc (.int .u16 y.cls.toNat),.sc (.int .u32 y.cx.toNat),.vl true 4 (y.data.map (ar.val true))] (.row (cellsOf bb true xs) 0 k et)=(eu id (.row (cellsOf bb true (xs.set i y)) 0 k et)).bind fun _=>.pure (.sc undef):=
 Ti bb y k et id hc
theorem iu {P:Program} {f:Nat} {args:List AV} {st:St} {R0 R:AV→St→Prop} (h1:g9 P f args st R0) (h2:∀ r st',R0 r st'→R r st'):g9 P f args st R:=by
 intro g w vs hok hfr hrel
 rcases h1 g w vs hok hfr hrel with ⟨v,w',g',r,st',q1,q2,q3⟩|⟨q1,q2⟩
 ·exact .inl ⟨v,w',g',r,st',q1,h2 _ _ q2,q3⟩
 ·refine .inr ⟨q1,q2.mono ?_⟩
  rintro e w' ⟨v,g',r,st',rfl,q2,q3⟩
  exact ⟨v,g',r,st',rfl,h2 _ _ q2,q3⟩
end Go.Proofs.Ytifjogffkafalaa
end
namespace Go.Vm
noncomputable section
inductive zh:an→an→Prop
 |rfl (x:an):zh x x
 |perm (es es':List (Value × AV)) (h:es.Perm es') (hl:loose es=true):zh (.map es) (.map es')
theorem zh.ghost {x y} (hs:zh x y) (h:zt y):zt x:=by
 cases hs with
 |rfl=>exact h
 |perm es es' hp hl=>obtain ⟨s,e,he⟩:=h;cases he
theorem zh.obj {g w b base x y} (hs:zh x y) (h:kn g w b base y):kn g w b base x:=by
 cases hs with
 |rfl=>exact h
 |perm es es' hp hl=>
  obtain ⟨h0,ms,clock,h1,h2,h3,h4,l,h5,h6,h7⟩:=h
  refine ⟨h0,ms,clock,h1,by rw [h2,hp.length_eq],h3,h4,?_⟩
  have hlen:l.length=es'.length:=by rw [h5.length_eq,← h2];simp
  have key:∀ (k k':List (Value × AV)),k.Perm k'→∀ l':List MapEntry,l'.length=k'.length→(∀ (i:Nat) e m,k'[i]? = some e→l'[i]? = some m→m.key=e.1∧Rel g w e.2 m.val) →
   ∃ l:List MapEntry,l.Perm l'∧l.length=k.length∧(∀ (i:Nat) e m,k[i]? = some e→l[i]? = some m→m.key=e.1∧Rel g w e.2 m.val):=by
   intro k k' hp
   induction hp with
   |nil=>intro l' hl' hr;exact ⟨l',.refl _,hl',hr⟩
   |cons a _ ih=>
    intro l' hl' hr
    cases l' with
    |nil=>simp at hl'
    |cons m l'=>
     obtain ⟨l,q1,q2,q3⟩:=ih l' (by simpa using hl') (fun i e m' he hm=>hr (i+1) e m' (by simpa using he) (by simpa using hm))
     refine ⟨m::l,q1.cons m,by simp [q2],fun i e m' he hm=>?_⟩
     cases i with
     |zero=>exact hr 0 e m' (by simpa using he) (by simpa using hm)
     |succ i=>exact q3 i e m' (by simpa using he) (by simpa using hm)
   |swap a b k=>
    intro l' hl' hr
    match l',hl' with
    |m::n::l',hl'=>
     refine ⟨n::m::l',List.Perm.swap _ _ _,by simpa using hl',fun i e m' he hm=>?_⟩
     match i with
     |0=>exact hr 1 e m' (by simpa using he) (by simpa using hm)
     |1=>exact hr 0 e m' (by simpa using he) (by simpa using hm)
     |i+2=>exact hr (i+2) e m' (by simpa using he) (by simpa using hm)
   |trans _ _ ih1 ih2=>
    intro l' hl' hr
    obtain ⟨l2,q1,q2,q3⟩:=ih2 l' hl' hr
    obtain ⟨l1,p1,p2,p3⟩:=ih1 l2 q2 q3
    exact ⟨l1,p1.trans q1,p2,p3⟩
  obtain ⟨l2,q1,_,q3⟩:=key es es' hp l hlen h6
  exact ⟨l2,q1.trans h5,q3,.inr hl⟩
theorem Ok.Zp {g h h' w} (hok:Ok g h' w) (hs:∀ o x,h.get o=some x→∃ y,h'.get o=some y∧zh x y):Ok g h w:=by
 refine ⟨hok.size,fun o x hx=>?_,fun o o' x x' b base base' hne hx hx'=>?_,hok.K⟩
 ·obtain ⟨y,h1,h2⟩:=hs o x hx
  refine (hok.j6 o y h1).imp (fun q=>⟨q.1,h2.ghost q.2⟩) ?_
  rintro ⟨b,base,q1,q2,q3⟩
  exact ⟨b,base,q1,q2,h2.obj q3⟩
 ·obtain ⟨y,h1,_⟩:=hs o x hx
  obtain ⟨y',h1',_⟩:=hs o' x' hx'
  exact hok.sep o o' y y' b base base' hne h1 h1'
theorem Vl {h h':Tr an} (hs:∀ o x,h.get o=some x→∃ y,h'.get o=some y∧zh x y) {o:Nat} (ho:(h.get o).isSome=true):(h'.get o).isSome=true:=by
 obtain ⟨x,hx⟩:=Option.isSome_iff_exists.1 ho
 obtain ⟨y,h1,_⟩:=hs o x hx
 rw [h1];rfl
structure Lit where
 i:Nat
 d:TypeDesc
 e:Value × AV
def ox (lits:List Lit) (D:Nat→Bool):List (Value × AV):=(lits.filter fun q=>D q.i).map (·.e)
structure X5 (lits:List Lit):Prop where
 idx:(lits.map (·.i)).Nodup
 apart:∀ q ∈ lits,∀ r ∈ lits,q.i≠r.i→m8 q.e.1 r.e.1=true∧Instr.sameNow q.d q.e.1 r.e.1=some false
theorem Xa {lits:List Lit} {D:Nat→Bool} {e:Value × AV} (h:e ∈ ox lits D):∃ q ∈ lits,D q.i=true∧q.e=e:=by
 simp only [ox,List.mem_map,List.mem_filter] at h
 obtain ⟨q,⟨h1,h2⟩,h3⟩:=h
 exact ⟨q,h1,h2,h3⟩
theorem Ln {D:Nat→Bool}:∀ {lits:List Lit},X5 lits→pk (ox lits D)=true
 | [],_=>rfl
 |q::l,h=>by
  have hl:X5 l:=⟨by have:=h.idx;rw [List.map_cons,List.nodup_cons] at this;exact this.2,fun a ha b hb=>h.apart a (by simp [ha]) b (by simp [hb])⟩
  have ih:=Ln (D:=D) hl
  unfold ox at ih ⊢
  rw [List.filter_cons]
  split
  ·simp only [List.map_cons,pk,Bool.and_eq_true,List.all_eq_true]
   refine ⟨fun x hx=>?_,ih⟩
   obtain ⟨r,h1,_,rfl⟩:=Xa (D:=D) hx
   refine (h.apart q (by simp) r (by simp [h1]) (fun e=>?_)).1
   have:=h.idx
   rw [List.map_cons,List.nodup_cons] at this
   exact this.1 (by rw [e];exact List.mem_map_of_mem h1)
  ·exact ih
theorem amc {lits:List Lit} (h:(lits.map (·.i)).Nodup) {D:Nat→Bool} {q:Lit} (hq:q ∈ lits) (hD:D q.i=false):(ox lits (jo D q.i)).Perm (ox lits D++[q.e]):=by
 induction lits with
 |nil=>cases hq
 |cons a l ih=>
  rw [List.map_cons,List.nodup_cons] at h
  unfold ox at ih ⊢
  rcases List.mem_cons.1 hq with rfl|hq
  ·rw [List.filter_cons_of_pos (by simp [jo]),List.filter_cons_of_neg (by simp [hD])]
   have:l.filter (fun r=>jo D q.i r.i)=l.filter (fun r=>D r.i):=by
    refine List.filter_congr fun r hr=>?_
    have:r.i≠q.i:=fun e=>h.1 (by rw [← e];exact List.mem_map_of_mem hr)
    simp [jo,this]
   rw [this,List.map_cons]
   exact (List.perm_append_singleton _ _).symm
  ·have hne:a.i≠q.i:=fun e=>h.1 (by rw [e];exact List.mem_map_of_mem hq)
   have hu:jo D q.i a.i=D a.i:=by simp [jo,hne]
   cases hb:D a.i with
   |true=>
    rw [List.filter_cons_of_pos (by rw [hu,hb]),List.filter_cons_of_pos (by rw [hb])]
    exact (ih h.2 hq).cons _
   |false=>
    rw [List.filter_cons_of_neg (by rw [hu,hb];simp),List.filter_cons_of_neg (by rw [hb];simp)]
    exact ih h.2 hq
theorem af0 {lits:List Lit} {D:Nat→Bool} {i:Nat} (h:∀ q ∈ lits,q.i≠i):ox lits (jo D i)=ox lits D:=by
 unfold ox
 congr 1
 exact List.filter_congr fun q hq=>by simp [jo,h q hq]
theorem ake {lits:List Lit} {D:Nat→Bool} (h:∀ q ∈ lits,D q.i=false):ox lits D=[]:=by
 unfold ox
 rw [List.filter_eq_nil_iff.2 (fun q hq=>by simp [h q hq])]
 rfl
theorem anf {lits:List Lit} {D:Nat→Bool} (h:∀ q ∈ lits,D q.i=true):ox lits D=lits.map (·.e):=by
 unfold ox
 rw [List.filter_eq_self.2 (fun q hq=>h q hq)]
theorem Jz (d:TypeDesc) (k:Value):∀ (l:List MapEntry) (i:Nat),(∀ m ∈ l,Instr.sameNow d k m.key=some false)→Instr.findNow d k l i=some none
 | [],_,_=>rfl
 |m::l,i,h=>by
  rw [Instr.findNow,h m (by simp)]
  exact Jz d k l (i+1) (fun m hm=>h m (by simp [hm]))
theorem ahr {P:Program} {kt:TypeId} {d:TypeDesc} {k:Value} {es:List (Value × AV)} (hu:P.underlying kt=some d) (h:∀ e ∈ es,Instr.sameNow d k e.1=some false):o9 P kt k es=some none:=by
 have hf:Instr.findNow d k (nm es) 0=some none:=Jz d k _ 0 (fun m hm=>by
  simp only [nm,List.mem_map] at hm
  obtain ⟨e,he,rfl⟩:=hm
  exact h e he)
 have hn:Pr P kt k es=true:=by unfold Pr;rw [hu];simp only;rw [hf];rfl
 unfold o9
 rw [hn,Bool.or_true,cond_true]
 have hevu:ev P (underlying kt)=some d:=by
  simp [underlying,program,ev,hu,j5,u5,Sem.bind,bind]
 have:ev P (Instr.findKey kt k (nm es))=some none:=by
  unfold Instr.findKey
  rw [j5,hevu]
  simp only [Option.bind_some]
  rw [hf];rfl
 rw [this];rfl
theorem Step.Zp {g h w lo hi g' h' h'' w'} (s:Step g h w lo hi g' h' w') (hs:∀ o x,h''.get o=some x→∃ y,h'.get o=some y∧zh x y):Step g h w lo hi g' h'' w':=
 ⟨s.ext,s.size,s.os,s.tape,s.output,s.frame,s.fresh,fun o b base ho hi=>s.own o b base (Vl hs ho) hi,s.jx⟩
def sm (o:Oper):Bool:=match o.op with|.insert .. => true|_=>false
def ud (ops:Array Oper) (L:SL) (o:Oper):Option Bool:=bif sm o then some false else wk ops L o
def agq (P:Program) (T:dm) (ops:Array Oper) (E:List Rec→Prop):List Oper→(SL→St→Prop)→List Rec→SL→St→Prop
 | [],K=>fun recs L st=>E recs∧K L st
 |o::r,K=>fun recs L st=>(ud ops L o=some true∧Pp P T o recs (agq P T ops E r K) L st)∨(ud ops L o=some false∧agq P T ops E r K (recs++[⟨[],[]⟩]) (gi o.dst (.sc undef) L) st)
theorem ams {P:Program} {T:dm} {ops:Array Oper} {E:List Rec→Prop} {K:SL→St→Prop}:∀ (l:List Oper) (L:SL) (st:St) (recs:List Rec),agq P T ops E l K recs L st →
 ∃ ds L' st',ds.map (·.o)=l∧(∀ d ∈ ds,DSRun P T d∧ud ops d.L d.o=some d.want)∧Kr ds L st L' st'∧E (recs++ds.map fun d=>⟨d.R,d.W⟩)∧K L' st':=by
 intro l
 induction l with
 |nil=>intro L st recs h;exact ⟨[],L,st,rfl,by simp,⟨rfl,rfl⟩,by simpa using h.1,h.2⟩
 |cons o l ih=>
  intro L st recs h
  rcases h with ⟨hb,F,W,v,au,hop,h4,h5,h6,h7,h8⟩|⟨hb,h3⟩
  ·obtain ⟨ds,L',st',e1,e2,e3,e4,e5⟩:=ih _ _ _ h8
   have hle:=wm hop
   refine ⟨{ o,L,st,want:=true,v,au,R:=F,W:=W++cr st.nx (au.nx - st.nx) }::ds,L',st',by simp [e1],?_,⟨rfl,rfl,?_⟩,?_,e5⟩
   ·intro d hd
    rcases List.mem_cons.1 hd with rfl|hd
    ·refine ⟨⟨fun _=>⟨hop,h6,h7,fun q=>?_,fun q hq hn=>?_⟩,fun e=>by cases e⟩,hb⟩
     ·simp only [List.mem_append,g7]
      constructor
      ·rintro (hq|hq)
       ·exact .inl ⟨.inl hq,h4 q hq⟩
       ·exact .inr ⟨hq.1,by simp at hle;omega⟩
      ·rintro (hq|hq)
       ·exact hq.1
       ·exact .inr ⟨hq.1,by omega⟩
     ·have:=h5 q hq (fun hw=>hn (List.mem_append.2 (.inl hw)))
      rw [pf _ _ _ (fun p hp=>by have:=h6 p hp;simp at hle;omega),if_pos hq] at this
      exact this
    ·exact e2 d hd
   ·exact e3
   ·simpa [List.append_assoc] using e4
  ·obtain ⟨ds,L',st',e1,e2,e3,e4,e5⟩:=ih _ _ _ h3
   refine ⟨{ o,L,st,want:=false,v:=.sc undef,au:=st,R:=[],W:=[] }::ds,L',st',by simp [e1],?_,⟨rfl,rfl,?_⟩,?_,e5⟩
   ·intro d hd
    rcases List.mem_cons.1 hd with rfl|hd
    ·exact ⟨⟨(fun e=>by cases e),fun _=>⟨rfl,rfl,rfl,rfl⟩⟩,hb⟩
    ·exact e2 d hd
   ·exact e3
   ·simpa [List.append_assoc] using e4
theorem amo {P:Program} {T:dm} {ops:Array Oper} {ds:List DS} {L:SL} {st:St} {L':SL} {st':St} (hs:l5 ops=true) (e1:ds.map (·.o)=ops.toList) (e2:∀ d ∈ ds,DSRun P T d) (e3:Kr ds L st L' st'):sr P T ops ds L st L' st':=by
 obtain ⟨c1,c2,c3,c4⟩:=aab e2 e3
 unfold l5 at hs
 rw [Bool.and_eq_true] at hs
 refine ⟨e1,e2,c1,⟨c2,c3,c4⟩,fun i k x y t hik hx hy ht hdt=>?_,fun i o ho e he hb=>?_⟩
 ·have hxi:(x.o,i) ∈ ops.toList.zipIdx:=by
   rw [List.mem_zipIdx_iff_getElem?,← e1];simp [hx]
  have hyk:(y.o,k) ∈ ops.toList.zipIdx:=by
   rw [List.mem_zipIdx_iff_getElem?,← e1];simp [hy]
  have h1:=List.all_eq_true.1 hs.1 _ hxi
  have h2:=List.all_eq_true.1 h1 t ht
  have h3:=List.all_eq_true.1 h2 _ hyk
  simp only [hdt,Bool.or_eq_true] at h3
  rcases h3 with (h3|h3)|h3
  ·simp at h3
  ·simp at h3;omega
  ·rw [Nat.max_comm,Nat.min_comm];exact h3
 ·have hoi:(o,i) ∈ ops.toList.zipIdx:=by rw [List.mem_zipIdx_iff_getElem?];simpa using ho
  have h1:=List.all_eq_true.1 hs.2 _ hoi
  rw [Array.all_eq_true_iff_forall_mem] at h1
  have:=h1 e he
  rw [hb] at this
  simpa using this
theorem aq2 {ops:Array Oper} {ds:List DS} (e4:de (Region.before ops) 0 (ds.map fun d=>⟨d.R,d.W⟩)=true):Calm ops ds:=fun i k x y hik hx hy=>by
 have:=D8 _ 0 e4 i k ⟨x.R,x.W⟩ ⟨y.R,y.W⟩ hik (by simp [hx]) (by simp [hy])
 simp only [ux,Nat.zero_add,Bool.or_eq_true,Bool.and_eq_true] at this
 rcases this with h1|h1
 ·exact .inr ⟨h1.1.1,h1.1.2,h1.2⟩
 ·exact .inl h1
end
end Go.Vm
namespace Go.Vm
noncomputable section
theorem At.ins {H:(Nat→Bool)→Nat→Option an} {P:Program} {T:dm} (hT:m5 P T) {ops:Array Oper} {ds:List DS} {L0:SL} {g0:Gh} {st0:St} {w0:World} {df:List Deferred} {ro:Option Nat} {N:Nat} {nt:Nat} {L':SL} {st':St} (R:sr P T ops ds L0 st0 L' st')
 {D:Nat→Bool} {a:Act} {w:World} {i:Nat} {d:DS} (hi:ds[i]? = some d) (hD:D i=false) (hr:∀ e ∈ d.o.after,Region.binds .any e=true→D e.on=true) (A:At H ops ds L0 g0 st0 w0 df nt (i4 ds st0.nx ds.length) D a w)
 {t:TypeId} {m k x:Operand} (hop:d.o.op = .insert t m k x) (hdst:d.o.dst=none) (hgd:d.o.guard=none) {p:Nat} {kt et:TypeId} {key:Value} (hu:P.underlying t=some (.map kt et)) (hm:bh d.o d.L m = .mp p) (hkey:(bh d.o d.L k).fh=some key)
 (hck:ev P (Instr.checkKey false 10000 kt key)=some ()) {es:List (Value × AV)} (hes:H D p=some (.map es)) (hlim:p≤be) (hplt:p<i4 ds st0.nx ds.length) (hfind:o9 P kt key es=some none) (hst:stays es (es++[(key,bh d.o d.L x)])=true)
 {es':List (Value × AV)} (hes':H (jo D i) p=some (.map es')) (hsame:zh (.map es') (.map (es++[(key,bh d.o d.L x)]))) (hoth:∀ o,o≠p→H (jo D i) o=H D o)
 {Q:Exit→Act→World→Prop} {K:Act→World→Prop} (hK:∀ a' w',At H ops ds L0 g0 st0 w0 df nt (i4 ds st0.nx ds.length) (jo D i) a' w'→K a' w'):wpOpIn (ee ro) N P ops Q i K a w:=by
 have ho:=R.get hi
 have hbef:=u2 A.closed ho hr
 have hcl:=A.closed.jo ho hr
 obtain ⟨a1,a2,a3,a4⟩:=R.s8 i d hi
 obtain ⟨g,h,h1,h2,h3,h4,h5⟩:=A.mem
 have slot:∀ t ∈ s5 ops d.o,jv ds L0 D ds.length t=lk d.L t:=by
  intro t ht
  have hlt:i<ds.length:=(List.getElem?_eq_some_iff.1 hi).1
  have:=I2 (L0:=L0) (D:=D) (i:=i) (t:=t) (ds:=ds) (fun k e hk he=>?_) ds.length
  ·rw [this,a1 t];congr 1;omega
  ·rcases Nat.lt_trichotomy k i with hlt'|rfl|hgt
   ·have:=R.slots i k d e t (by omega) hi hk ht he
    rw [show max i k=i from by omega,show min i k=k from by omega] at this
    exact ⟨fun _=>hlt',fun _=>hbef k this⟩
   ·exact ⟨(fun q=>by rw [hD] at q;cases q),(fun q=>by omega)⟩
   ·have:=R.slots i k d e t (by omega) hi hk ht he
    rw [show max i k=k from by omega,show min i k=i from by omega] at this
    exact ⟨(fun q=>by have:=A.closed k i q this;rw [hD] at this;cases this),(fun q=>by omega)⟩
 have mono1:∀ i d,ds[i]? = some d→d.st.nx=i4 ds st0.nx i∧d.st.nx≤d.au.nx:=fun i d hd=>⟨(R.s8 i d hd).2.2.1,(R.s8 i d hd).2.2.2⟩
 have hp:∀ q ∈ [p],q≤be:=fun q hq=>by rw [List.mem_singleton] at hq;subst hq;exact hlim
 have hmask:∀ o,(jy h [p]).get o=if o=p then h.get o else none:=fun o=>by rw [pf _ _ _ hp];simp
 have hsub:∀ o x,(jy h [p]).get o=some x→h.get o=some x:=fun o x hx=>by
  rw [hmask] at hx
  by_cases e:o=p
  ·rw [if_pos e] at hx;exact hx
  ·rw [if_neg e] at hx;cases hx
 have hrel:mh g w (bh d.o d.L) a.eval:=Oq fun t ⟨x,hx,e⟩=>by
  have hu:t ∈ s5 ops d.o:=by
   simp only [s5,List.mem_append,List.mem_filterMap]
   exact .inl (.inr ⟨x,hx,by rw [e]⟩)
  rw [← slot t hu]
  exact h4 t
 have hgp:(jy h [p]).get p=some (.map es):=by rw [hmask,if_pos rfl,h1,hes]
 obtain ⟨au,hst1⟩:∃ au:St,au = { h:=(jy h [p]).set depth p (some (.map (es++[(key,bh d.o d.L x)]))),nx:=i4 ds st0.nx ds.length,rl:=[p],wl:=[p] }:=⟨_,rfl⟩
 have hrun:eg P T d.o (bh d.o d.L) { h:=jy h [p],nx:=i4 ds st0.nx ds.length,rl:=[],wl:=[] }=some (.sc undef,au):=by
  have h6:Ai P d.o (bh d.o d.L) { h:=jy h [p],nx:=i4 ds st0.nx ds.length,rl:=[],wl:=[] }=some (.sc undef,au):=by
   unfold Ai
   rw [hop]
   simp only [kq,hu,hm,hkey,M.bind,bq,hgp,n5,hck,hfind,hst,cond_true,eu,M.pure,hst1]
   rw [show Nat.ble p be=true from Nat.ble_eq_true_of_le hlim]
   rfl
  have h7:eg P T d.o (bh d.o d.L)=mono (Ai P d.o (bh d.o d.L)):=by unfold eg;rw [hop]
  rw [h7,mono,h6]
  simp only
  rw [hst1]
  simp only
  rw [show Nat.ble (i4 ds st0.nx ds.length) (i4 ds st0.nx ds.length)=true from Nat.ble_eq_true_of_le (Nat.le_refl _)]
  rfl
 unfold wpOpIn
 rw [ho]
 dsimp only
 rw [if_pos (by simp [Region.wanted,hgd])]
 refine C7 hT (h2.part hsub) (fun o q1 q2=>by rw [hst1] at q2;exact absurd (Nat.lt_of_le_of_lt q1 q2) (Nat.lt_irrefl _)) (fun o x hx=>?_) hrel hrun ro N _ _ ?_
 ·have hx':(jy h [p]).get o=some x:=hx
  rw [hmask] at hx'
  by_cases e:o=p
  ·subst e;exact hplt
  ·rw [if_neg e] at hx';cases hx'
 rintro u w' ⟨g',q1,q2,q3⟩
 have hget1:∀ o,au.h.get o=if o=p then some (.map (es++[(key,bh d.o d.L x)])) else none:=fun o=>by
  rw [hst1]
  simp only
  rw [db _ _ _ _ hlim,hmask]
  by_cases e:o=p
  ·rw [if_pos e,if_pos e]
  ·rw [if_neg e,if_neg e,if_neg e]
 have hfs:=N3 (h':=ot au.h [p] h) (S:=fun o=>o ∈ [p]) h2 hsub (fun o x hx=>by
  rw [hmask] at hx
  by_cases e:o=p
  ·rw [e];exact List.mem_singleton.2 rfl
  ·rw [if_neg e] at hx;cases hx) q1 q2 (fun o hS=>by rw [nk _ _ _ _ hp,if_pos hS]) (fun o hS=>by rw [nk _ _ _ _ hp,if_neg hS]) (fun o e1 e2=>by rw [hst1] at e2;exact absurd (Nat.lt_of_le_of_lt e1 e2) (Nat.lt_irrefl _))
 have hH:∀ o,((ot au.h [p] h).set depth p (some (.map es'))).get o=H (jo D i) o:=fun o=>by
  rw [db _ _ _ _ hlim]
  by_cases e:o=p
  ·rw [if_pos e,e,hes']
  ·rw [if_neg e,nk _ _ _ _ hp,if_neg (by simpa using e),h1,hoth o e]
 have hcov:∀ o y,((ot au.h [p] h).set depth p (some (.map es'))).get o=some y→∃ z,(ot au.h [p] h).get o=some z∧zh y z:=fun o y hy=>by
  rw [db _ _ _ _ hlim] at hy
  by_cases e:o=p
  ·rw [if_pos e] at hy
   cases hy
   refine ⟨_,?_,hsame⟩
   rw [nk _ _ _ _ hp,if_pos (by simpa using e),hget1,if_pos e]
  ·rw [if_neg e] at hy
   exact ⟨y,hy,.rfl _⟩
 have hnx1:au.nx=i4 ds st0.nx ds.length:=by rw [hst1]
 refine hK _ _ ⟨⟨g',_,hH,hfs.2.Zp hcov,(h3.both ((by have:=hfs.1;rw [hnx1] at this;exact this.Wa (ld mono1 ds.length 0 (Nat.zero_le _)) (Nat.le_refl _)))).Zp hcov,fun t=>?_,fun k e hk hkD o o1 o2=>?_⟩,by rw [M1];exact A.size,by rw [put_defers];exact A.defers,hcl⟩
 ·rw [M7 hi (fun q=>by rw [hdst] at q;cases q),if_neg (fun q=>by have:=q.1;rw [hdst] at this;cases this),hdst]
  exact (h4 t).ext q1.ext
 ·have hki:k≠i:=fun q=>by subst q;simp [jo] at hkD
  simp only [jo,if_neg hki] at hkD
  exact q1.fresh o (h5 k e hk hkD o o1 o2) (fun q=>by have:=q.2;rw [hnx1] at this;exact absurd (Nat.lt_of_le_of_lt q.1 this) (Nat.lt_irrefl _))
theorem Th {P:Program} {T:dm} (hm:P.follows .mixedOrders=true) {H:(Nat→Bool)→Nat→Option an} {ops:Array Oper} {ro:Option Nat} {N:Nat} {B:c9} {nt id:Nat} {Q:Exit→Act→World→Prop} {ds:List DS} {L:SL} {st:St} {L':SL} {st' stF:St} (R:sr P T ops ds L st L' st')
 {g:Gh} {w:World} {a:Act} (h0:∀ o,H (fun _=>false) o=st.h.get o) (hF:∀ D,(∀ i,i<ds.length→D i=true)→∀ o,H D o=stF.h.get o) (hnF:stF.nx=st'.nx)
 (hstep:∀ (w0:World) (D:Nat→Bool) (a':Act) (w':World) (i:Nat) (d:DS) (Q:Exit→Act→World→Prop) (K:Act→World→Prop),ds[i]? = some d→D i=false→(∀ e ∈ d.o.after,Region.binds .any e=true→D e.on=true)→At H ops ds L g st w0 a.defers nt (i4 ds st.nx ds.length) D a' w'→(∀ a'' w'',At H ops ds L g st w0 a.defers nt (i4 ds st.nx ds.length) (jo D i) a'' w''→K a'' w'')→wpOpIn (ee ro) N P ops Q i K a' w')
 (hnear:B.tv st.nx st'.nx) (hc:er B g st w) (hr:di g w nt L a.tmps) (hd:Marks B.n0 st.h g w a.defers)
 (hK:∀ g w a',er B g stF w→di g w nt L' a'.tmps→Marks B.n0 stF.h g w a'.defers→a'.defers=a.defers→Q .normal a' w) :
 (Code.region id ops true).wpIn (ee ro) N P Q a w:=by
 have c1:=R.s8
 obtain ⟨c2,c3,c4⟩:=R.fin
 have hc1:=hc.drawn
 have hd':Marks B.n0 st.h g { w with drawn:=w.drawn+1 } a.defers:=hd
 have mono1:∀ i d,ds[i]? = some d→d.st.nx=i4 ds st.nx i∧d.st.nx≤d.au.nx:=fun i d hd=>⟨(c1 i d hd).2.2.1,(c1 i d hd).2.2.2⟩
 refine wpIn_region_any hm (ak4 (H:=H) (L0:=L) (g0:=g) (st0:=st) (w0:={ w with drawn:=w.drawn+1 }) (df:=a.defers) R (fun D a w i d Q K hi hD hr A hK=>hstep _ D a w i d Q K hi hD hr A hK) ?_ ops.size _ a _ (by simp) ?_ ?_)
 ·intro D a' w' hall A
  obtain ⟨g',h',q1,q2,q3,q4,q5⟩:=A.mem
  have hh:∀ o,h'.get o=stF.h.get o:=fun o=>by rw [q1 o,hF D hall o]
  have hle:st.nx≤st'.nx:=by rw [c4];exact ld mono1 ds.length 0 (Nat.zero_le _)
  refine hK g' w' a' (hc1.step (st':=stF) (by rw [hnF];exact hnear) ⟨by rw [hnF];exact hle,?_⟩ (q2.congr hh)) ⟨A.size,fun t=>?_⟩ (by rw [A.defers];exact Marks.congr (Marks.step q3 hd') hh) A.defers
  ·rw [hnF,c4];exact q3.congr hh
  ·rw [c2 t,← Na _ hall];exact q4 t
 ·exact Sc _ _
 ·have hf:(fun k=>(Array.replicate ops.size false).getD k false)=fun _=>false:=by
   funext k
   simp only [Array.getD_eq_getD_getElem?,Array.getElem?_replicate]
   split<;>rfl
  rw [hf]
  exact ⟨⟨g,st.h,fun o=>(h0 o).symm,hc1.ok,.refl _ _ _ _ _,fun t=>by
   rw [Ib];exact (hr.2 t).ext (Ext.same (w:=w) (w':={ w with drawn:=w.drawn+1 }) rfl),fun i d hd _ o h1 h9=>hc.fresh o (by
   have:=ld mono1 i 0 (Nat.zero_le _)
   rw [(c1 i d hd).2.2.1] at h1
   exact Nat.le_trans this h1) (hnear o (by
   have:=ld mono1 i 0 (Nat.zero_le _)
   rw [(c1 i d hd).2.2.1] at h1
   exact Nat.le_trans this h1) (by
   rw [c4]
   have h10:=ld mono1 ds.length (i+1) (List.getElem?_eq_some_iff.1 hd).1
   rw [i4.eq_2,hd] at h10
   exact Nat.lt_of_lt_of_le h9 h10))⟩,hr.1,rfl,fun i k hik=>by cases hik⟩
theorem B9 {ds:List DS} {h0:Tr an} {D:Nat→Bool} {p:Nat}:∀ m,(∀ k e,k<m→ds[k]? = some e→D k=true→p ∉ e.W)→jg ds h0 D m p=h0.get p
 |0,_=>rfl
 |m+1,h=>by
  have ih:=B9 (h0:=h0) (D:=D) (p:=p) m (fun k e hk=>h k e (by omega))
  rw [jg]
  cases hd:ds[m]? with
  |none=>exact ih
  |some d=>
   simp only
   rw [if_neg (fun q=>h m d (by omega) hd q.1 q.2),ih]
theorem Uo {ds:List DS} {h0:Tr an} {D:Nat→Bool} {p k0:Nat} {d:DS} (hd:ds[k0]? = some d) (hW:p ∈ d.W) (hD:D k0=true) (ho:∀ k e,ds[k]? = some e→k≠k0→p ∉ e.W):∀ m,k0<m→jg ds h0 D m p=d.au.h.get p
 |0,h=>by omega
 |m+1,h=>by
  rw [jg]
  by_cases e:m=k0
  ·subst e
   rw [hd]
   simp only
   rw [if_pos ⟨hD,hW⟩]
  ·have ih:=Uo (h0:=h0) hd hW hD ho m (by omega)
   cases hm:ds[m]? with
   |none=>exact ih
   |some f=>
    simp only
    rw [if_neg (fun q=>ho m f hm e q.2),ih]
def Ih (ds:List DS) (h0:Tr an) (p k0:Nat) (lits:List Lit) (D:Nat→Bool) (o:Nat):Option an:=if o=p then (if D k0=true then some (.map (ox lits D)) else h0.get p) else jg ds h0 D ds.length o
structure at7 (P:Program) (ops:Array Oper) (ds:List DS) (p k0:Nat) (q:Lit):Prop where
 s8:∃ d,ds[q.i]? = some d∧∃ t m k x kt et,d.o.op = .insert t m k x∧d.o.dst=none∧d.o.guard=none∧P.underlying t=some (.map kt et)∧P.underlying kt=some q.d∧bh d.o d.L m = .mp p∧(bh d.o d.L k).fh=some q.e.1∧ev P (Instr.checkKey false 10000 kt q.e.1)=some ()∧bh d.o d.L x=q.e.2
 bef:((Region.before ops).getD q.i 0).testBit k0=true
theorem alp {P:Program} {T:dm} (hT:m5 P T) (hm:P.follows .mixedOrders=true) {ops:Array Oper} {ro:Option Nat} {N:Nat} {B:c9} {nt id:Nat} {Q:Exit→Act→World→Prop} (hg:oq nt ops=true) (hdst:ti nt ops=true) {ds:List DS} {L:SL} {st:St} {L':SL} {st' stF:St} (R:sr P T ops ds L st L' st') (C:Calm ops ds)
 (hgY:∀ d ∈ ds,ud ops d.L d.o=some d.want) {p k0:Nat} {lits:List Lit} (hl:X5 lits) (hat:∀ q ∈ lits,at7 P ops ds p k0 q) (hall:∀ i d,ds[i]? = some d→sm d.o=true→∃ q ∈ lits,q.i=i) {d0:DS} (hk0:ds[k0]? = some d0) (hk0':sm d0.o=false) (hno:∀ k e,ds[k]? = some e→k≠k0→p ∉ e.R∧p ∉ e.W)
 (hp:st'.h.get p=some (.map [])) (hplt:p<st'.nx) (hlim:p≤be) (hF:∀ o,stF.h.get o=if o=p then some (.map (lits.map (·.e))) else st'.h.get o) (hnF:stF.nx=st'.nx)
 {g:Gh} {w:World} {a:Act} (hnear:B.tv st.nx st'.nx) (hc:er B g st w) (hr:di g w nt L a.tmps) (hd:Marks B.n0 st.h g w a.defers)
 (hK:∀ g w a',er B g stF w→di g w nt L' a'.tmps→Marks B.n0 stF.h g w a'.defers→a'.defers=a.defers→Q .normal a' w) :
 (Code.region id ops true).wpIn (ee ro) N P Q a w:=by
 have hlt0:k0<ds.length:=(List.getElem?_eq_some_iff.1 hk0).1
 have hlen:∀ q ∈ lits,q.i<ds.length:=fun q hq=>by
  obtain ⟨d,h1,_⟩:=(hat q hq).s8
  exact (List.getElem?_eq_some_iff.1 h1).1
 have hne0:∀ q ∈ lits,q.i≠k0:=fun q hq e=>by
  obtain ⟨d,h1,t,m,k,x,kt,et,h2,_⟩:=(hat q hq).s8
  rw [e,hk0] at h1
  cases h1
  unfold sm at hk0'
  rw [h2] at hk0'
  cases hk0'
 have hfin:jg ds st.h (fun _=>true) ds.length p=some (.map []):=by rw [← R.fin.2.1 p,hp]
 have hW0:p ∈ d0.W→d0.au.h.get p=some (.map []):=fun hW=>by
  rw [← Uo (h0:=st.h) (D:=fun _=>true) hk0 hW rfl (fun k e hk hne=>(hno k e hk hne).2) ds.length hlt0];exact hfin
 have hN0:p ∉ d0.W→st.h.get p=some (.map []):=fun hW=>by
  rw [← B9 (h0:=st.h) (D:=fun _=>true) (p:=p) ds.length (fun k e _ hk _=>by
   by_cases h:k=k0
   ·rw [h,hk0] at hk;cases hk;exact hW
   ·exact (hno k e hk h).2)]
  exact hfin
 have hnx:st'.nx=i4 ds st.nx ds.length:=R.fin.2.2
 refine Th hm (H:=Ih ds st.h p k0 lits) (stF:=stF) R (fun o=>?_) (fun D hD o=>?_) hnF (fun w0 D a' w' i d Q K hi hD hrd A hK=>?_) hnear hc hr hd hK
 ·unfold Ih
  by_cases e:o=p
  ·rw [if_pos e,if_neg (by simp),e]
  ·rw [if_neg e,Ds]
 ·unfold Ih
  rw [hF]
  by_cases e:o=p
  ·rw [if_pos e,if_pos e,if_pos (hD k0 hlt0),anf (fun q hq=>hD _ (hlen q hq))]
  ·rw [if_neg e,if_neg e,F7 _ hD,← R.fin.2.1 o]
 ·have hbef:=u2 A.closed (R.get hi) hrd
  have hmem:=List.mem_of_getElem? hi
  have hgv:=hgY d hmem
  have hcalm:=Bt R C hi hD A.closed hrd
  cases hins:sm d.o with
  |false=>
   have hgv':wk ops d.L d.o=some d.want:=by unfold ud at hgv;rw [hins] at hgv;exact hgv
   have hnl:∀ q ∈ lits,q.i≠i:=fun q hq e=>by
    obtain ⟨d',h1,t,m,k,x,kt,et,h2,_⟩:=(hat q hq).s8
    rw [e,hi] at h1
    cases h1
    unfold sm at hins
    rw [h2] at hins
    cases hins
   refine At.step hT R hg hdst hi hgv' (fun o ho=>?_) (fun o=>?_) hD hrd A hK
   ·unfold Ih
    by_cases e:o=p
    ·subst e
     by_cases hik:i=k0
     ·subst hik
      rw [if_pos rfl,if_neg (by rw [hD];simp)]
      rw [(R.s8 i d hi).2.1 o,B9 i (fun k e hk he _=>(hno k e he (by omega)).2)]
     ·exact ((hno i d hi hik).1 ho).elim
    ·rw [if_neg e];exact hcalm.1 o ho
   ·unfold Ih
    by_cases e:o=p
    ·subst e
     rw [if_pos rfl,if_pos rfl]
     by_cases hik:i=k0
     ·subst hik
      rw [hk0] at hi
      cases hi
      have hen:ox lits (jo D i)=[]:=ake (fun q hq=>by
       have hne:=hne0 q hq
       simp only [jo,if_neg hne]
       cases hDq:D q.i with
       |false=>rfl
       |true=>have:=A.closed q.i i hDq (hat q hq).bef;rw [hD] at this;cases this)
      rw [if_pos (show jo D i i=true from by simp [jo]),hen]
      by_cases hW:o ∈ d0.W
      ·rw [if_pos hW,hW0 hW]
      ·rw [if_neg hW,if_neg (by rw [hD];simp),hN0 hW]
     ·rw [if_neg (hno i d hi hik).2,af0 hnl]
      simp only [jo,if_neg (Ne.symm hik)]
    ·rw [if_neg e,if_neg e];exact hcalm.2 o
  |true=>
   obtain ⟨q,hq,rfl⟩:=hall i d hi hins
   obtain ⟨d',h1,t,m,k,x,kt,et,h2,h3,h4,h5,h6,h7,h8,h9,h10⟩:=(hat q hq).s8
   rw [hi] at h1
   cases h1
   have hDk:D k0=true:=hbef k0 (hat q hq).bef
   have hne:=hne0 q hq
   have hothers:∀ e ∈ ox lits D,∃ r ∈ lits,r.i≠q.i∧r.e=e:=fun e he=>by
    obtain ⟨r,r1,r2,r3⟩:=Xa he
    exact ⟨r,r1,(fun e=>by rw [e,hD] at r2;cases r2),r3⟩
   have hperm:=amc hl.idx hq hD
   have hW:d.W=[]:=by
    have:d.want=false:=by
     unfold ud at hgv
     rw [hins] at hgv
     simpa using hgv.symm
    exact ((R.ok d hmem).skip this).2.2.2
   refine At.ins hT R hi hD hrd A h2 h3 h4 h5 h7 h8 h9 (es:=ox lits D) (es':=ox lits (jo D q.i)) ?_ hlim (by rw [← hnx];exact hplt) (ahr h6 (fun e he=>?_)) ?_ ?_ ?_ (fun o e=>?_) hK
   ·unfold Ih;rw [if_pos rfl,if_pos hDk]
   ·obtain ⟨r,r1,r2,rfl⟩:=hothers e he
    exact (hl.apart q hq r r1 (Ne.symm r2)).2
   ·have hqe:(q.e.1,bh d.o d.L x)=q.e:=by rw [h10]
    rw [hqe]
    unfold stays
    cases hlo:loose (ox lits D) with
    |false=>rfl
    |true=>
     have:loose (ox lits D++[q.e])=true:=by
      unfold loose at hlo ⊢
      simp only [Bool.and_eq_true] at hlo ⊢
      refine ⟨Nat.ble_eq_true_of_le (by have:=Nat.le_of_ble_eq_true hlo.1;rw [List.length_append];omega),?_⟩
      have key:∀ l:List (Value × AV),pk l=true→(∀ e ∈ l,m8 e.1 q.e.1=true)→pk (l++[q.e])=true:=by
       intro l
       induction l with
       |nil=>intro _ _;rfl
       |cons b l ih=>
        intro h1 h2
        simp only [pk,List.cons_append,Bool.and_eq_true,List.all_eq_true] at h1 ⊢
        refine ⟨fun y hy=>?_,ih h1.2 (fun e he=>h2 e (by simp [he]))⟩
        rcases List.mem_append.1 hy with hy|hy
        ·exact h1.1 y hy
        ·rw [List.mem_singleton] at hy;rw [hy];exact h2 b (by simp)
      refine key _ hlo.2 (fun e he=>?_)
      obtain ⟨r,r1,r2,rfl⟩:=hothers e he
      exact (hl.apart r r1 q hq r2).1
     rw [this];rfl
   ·unfold Ih;rw [if_pos rfl,if_pos (by simp [jo,hDk])]
   ·have hqe:(q.e.1,bh d.o d.L x)=q.e:=by rw [h10]
    rw [hqe]
    by_cases h2 : 2≤(ox lits (jo D q.i)).length
    ·refine .perm _ _ hperm ?_
     unfold loose
     rw [Nat.ble_eq_true_of_le h2,Ln hl]
     rfl
    ·have h3:(ox lits D).length=0:=by have:=hperm.length_eq;rw [List.length_append] at this;simp at this;omega
     have h4:ox lits D=[]:=List.eq_nil_of_length_eq_zero h3
     rw [h4] at hperm ⊢
     rw [List.nil_append] at hperm ⊢
     rw [List.perm_singleton.1 hperm]
     exact .rfl _
   ·unfold Ih
    rw [if_neg e,if_neg e,hcalm.2 o,hW,if_neg (by simp)]
end
end Go.Vm
namespace Go.Vm
noncomputable section
abbrev ft:=Nat→Option (Bool × (List AV→M AV))
def Gq:Nat:=10000
def Qk (look:ft) (f:Nat) (args:List AV):M AV:=
 bif Nat.blt f Gq then
  match look f with
  |some p=>mono (p.2 args)
  |none=>.fail
 else .fail
def Bi (look:ft) (g:Fn) (args:List AV):M AV:=
 match g with
 |.func g=>Qk look g args
 |_=>.fail
def J4 (look:ft) (f:AV) (args:List AV):M AV:=
 match f with
 |.fn g first captured=>Bi look g (first++args++captured)
 |.sc x=>
  match x with
  |.func g first captured=>Bi look g (first.toList.map .sc++args++captured.toList.map .sc)
  |_=>.fail
 |_=>.fail
def C5 (P:Program) (look:ft) (o:Oper) (ρ:Operand→AV):M AV:=
 match o.op with
 |.call { callee:=.value f,args,.. }=>J4 look (ρ f) (args.toList.map ρ)
 |_=>mono (Ai P o ρ)
def ai {α:Type} (m:M α):Prop:=∀ st a au,m st=some (a,au)→st.nx≤au.nx
theorem ai.pure {α:Type} (a : α):ai (M.pure a):=fun st _ au h=>by cases h;exact Nat.le_refl _
theorem ai.fail {α:Type}:ai (M.fail:M α):=fun st _ au h=>by cases h
theorem ai.of {α:Type} (a:Option α):ai (M.of a):=by cases a;exact ai.fail;exact ai.pure _
theorem ai.cond {α:Type} {b:Bool} {x y:M α} (hx:ai x) (hy:ai y):ai (bif b then x else y):=by cases b<;>assumption
theorem ai.bind {α β:Type} {m:M α} {f : α→M β} (hm:ai m) (hf:∀ x,ai (f x)):ai (m.bind f):=fun st b st2 h=>by
 obtain ⟨x,s1,h1,h2⟩:=bind_some h
 exact Nat.le_trans (hm _ _ _ h1) (hf x _ _ _ h2)
theorem ai.bq (id:Nat):ai (Vm.bq id):=fun st a au h=>by
 unfold Vm.bq at h
 split at h
 ·cases h;exact Nat.le_refl _
 ·cases h
theorem ai.eu (id:Nat) (x:an):ai (Vm.eu id x):=fun st a au h=>by
 unfold Vm.eu at h
 split at h
 ·cases hb:Nat.ble id be with
  |true=>rw [hb] at h;cases h;exact Nat.le_refl _
  |false=>rw [hb] at h;cases h
 ·cases h
theorem ai.tu (id:Nat):ai (Vm.tu id):=fun st a au h=>by
 unfold Vm.tu at h
 split at h
 ·cases hb:Nat.ble id be with
  |true=>rw [hb] at h;cases h;exact Nat.le_refl _
  |false=>rw [hb] at h;cases h
 ·cases h
theorem ai.fp (x:an):ai (Vm.fp x):=fun st a au h=>by
 unfold Vm.fp at h
 cases hb:Nat.ble st.nx be with
 |true=>rw [hb] at h;cases h;exact Nat.le_succ _
 |false=>rw [hb] at h;cases h
theorem ai.mono {α:Type} {m:M α} (h:ai m):Vm.mono m=m:=by
 funext st
 unfold Vm.mono
 cases hm:m st with
 |none=>rfl
 |some p=>
  obtain ⟨a,au⟩:=p
  simp only
  rw [show Nat.ble st.nx au.nx=true from Nat.ble_eq_true_of_le (h st a au hm)]
  rfl
theorem ai.cellsIn (sz:Nat) (v:AV):ai (Vm.cellsIn sz v):=by
 unfold Vm.cellsIn wo
 repeat' (first|exact ai.pure _|exact ai.fail|exact ai.bq _|apply ai.cond|(refine ai.bind ?_ fun x=>?_)|split)
theorem ai.y7 {P:Program} {ρ:Operand→AV} {o:Oper} {l:List Operand}:ai (gm P ρ o l):=by unfold gm;exact ai.cond (ai.of _) ai.fail
theorem ai.bx {t:TypeId} {x:AV}:ai (wc t x):=by
 unfold wc
 repeat' (first|exact ai.pure _|exact ai.fail|exact ai.fp _|apply ai.cond|(refine ai.bind ?_ fun x=>?_)|split)
theorem akq {P:Program} {o:Oper} {ρ:Operand→AV}:ai (Ai P o ρ):=by
 unfold Ai
 cases ho:o.op with
 |move x=>exact ai.pure _
 |assign x=>exact ai.pure _
 |load t a=>
  show ai (i5 P t (ρ a))
  unfold i5 ik
  repeat' (first|exact ai.pure _|exact ai.fail|exact ai.of _|exact ai.bq _|(refine ai.bind ?_ fun x=>?_)|split)
 |fieldAddr s x f=>
  show ai (kc P s (ρ x) f)
  unfold kc
  repeat' (first|exact ai.pure _|exact ai.fail|exact ai.of _|apply ai.cond|split)
 |binOp op t x y u=>
  show ai (wj P ρ o op t x y)
  have he:∀ a b,ai (kh P ρ o op t a b):=fun a b=>by
   unfold kh yv A5 Bm V7 V5 Ot Jy mb
   repeat' (first|exact ai.pure _|exact ai.fail|exact ai.of _|exact ai.bq _|apply ai.cond|(refine ai.bind ?_ fun x=>?_)|split)
  unfold wj Bk Jj
  repeat' (first|exact he _ _|exact ai.pure _|exact ai.fail|exact ai.of _|apply ai.cond|split)
 |pick c a b=>
  show ai (tc (ρ c) (ρ a) (ρ b))
  unfold tc
  repeat' (first|exact ai.pure _|exact ai.fail|split)
 |store t a x=>
  show ai (oe P t (ρ a) (ρ x))
  unfold oe jh
  repeat' (first|exact ai.pure _|exact ai.fail|exact ai.bq _|exact ai.eu _ _|apply ai.cond|(refine ai.bind ?_ fun x=>?_)|split)
 |mapUpdate t m k x=>
  show ai (kq P t (ρ m) (ρ k) (ρ x))
  unfold kq n5
  repeat' (first|exact ai.pure _|exact ai.fail|exact ai.bq _|exact ai.eu _ _|apply ai.cond|(refine ai.bind ?_ fun x=>?_)|split)
 |insert t m k x=>
  show ai (kq P t (ρ m) (ρ k) (ρ x))
  unfold kq n5
  repeat' (first|exact ai.pure _|exact ai.fail|exact ai.bq _|exact ai.eu _ _|apply ai.cond|(refine ai.bind ?_ fun x=>?_)|split)
 |extract t ix=>
  show ai (nw (ρ t) ix)
  unfold nw
  repeat' (first|exact ai.pure _|exact ai.fail|exact ai.of _|split)
 |indexAddr t x ix=>
  show ai (ka P t (ρ x) (ρ ix))
  unfold ka tp
  repeat' (first|exact ai.pure _|exact ai.fail|exact ai.of _|apply ai.cond|split)
 |nilCheck x=>
  show ai (lr (ρ x))
  unfold lr
  repeat' (first|exact ai.pure _|exact ai.fail|split)
 |alloc t=>
  show ai (qb P t)
  unfold qb
  split
  ·exact ai.fail
  ·exact ai.bx
 |box t x=>exact ai.bx
 |build t ps=>
  show ai (pj P t _)
  unfold pj
  repeat' (first|exact ai.pure _|exact ai.fail|exact ai.of _|split)
 |buildSlice t len ps=>
  show ai (i9 P t len _)
  unfold i9 kr
  repeat' (first|exact ai.fp _|exact ai.pure _|exact ai.fail|exact ai.of _|apply ai.cond|(refine ai.bind ?_ fun x=>?_)|split)
 |makeSlice t l c=>
  show ai (pd P t (ρ l) (ρ c))
  unfold pd kr
  repeat' (first|exact ai.fp _|exact ai.pure _|exact ai.fail|exact ai.of _|apply ai.cond|(refine ai.bind ?_ fun x=>?_)|split)
 |makeMap t r=>
  show ai (qh r)
  unfold qh
  repeat' (first|exact ai.fp _|exact ai.pure _|exact ai.fail|(refine ai.bind ?_ fun x=>?_)|split)
 |makeFunc f a b=>exact ai.pure _
 |convert src dst x=>
  show ai (n6 P ρ o src dst (ρ x))
  have he:ai (qu P ρ o (ρ x)):=by unfold qu;split;exact ai.of _;exact ai.fail
  unfold n6 j8
  repeat' (first|exact he|exact ai.fail|split)
  ·unfold Cd;repeat' (first|exact ai.fp _|exact ai.pure _|exact ai.fail|apply ai.cond|(refine ai.bind ?_ fun x=>?_)|split)
  ·unfold Et zc;repeat' (first|exact ai.cellsIn _ _|exact ai.pure _|exact ai.fail|apply ai.cond|(refine ai.bind ?_ fun x=>?_)|split)
  ·unfold Fk B8;repeat' (first|exact ai.bq _|exact ai.pure _|exact ai.fail|apply ai.cond|(refine ai.bind ?_ fun x=>?_)|split)
  ·unfold Es Cc;repeat' (first|exact ai.bq _|exact ai.pure _|exact ai.fail|apply ai.cond|(refine ai.bind ?_ fun x=>?_)|split)
  ·unfold Bh;repeat' (first|exact ai.pure _|exact ai.fail|split)
 |makeInterface t x=>
  show ai (kz P t (ρ x))
  unfold kz
  repeat' (first|exact ai.pure _|exact ai.fail|split)
 |field s x f=>
  show ai (rq P s (ρ x) f)
  unfold rq
  repeat' (first|exact ai.pure _|exact ai.fail|exact ai.of _|split)
 |index t x ix=>
  show ai (rj P ρ o t x ix)
  unfold rj
  repeat' (first|exact ai.y7|exact ai.pure _|exact ai.fail|exact ai.of _|apply ai.cond|split)
 |slice t x lo hi mx=>
  show ai (p7 P ρ o t x lo hi mx)
  unfold p7 Ms
  repeat' (first|exact ai.y7|exact ai.bq _|exact ai.pure _|exact ai.fail|exact ai.of _|apply ai.cond|(refine ai.bind ?_ fun x=>?_)|split)
 |lookup t x ix ok=>
  show ai (pv P t (ρ x) (ρ ix) ok)
  unfold pv l0 found
  repeat' (first|exact ai.bq _|exact ai.pure _|exact ai.fail|exact ai.of _|apply ai.cond|(refine ai.bind ?_ fun x=>?_)|split)
 |typeAssert x t a ok=>
  show ai (nr P ρ o (ρ x) a ok)
  unfold nr
  repeat' (first|exact ai.pure _|exact ai.fail|exact ai.of _|apply ai.cond|split)
 |unOp op t x=>exact ai.y7
 |call c=>
  obtain ⟨callee,args,ts⟩:=c
  cases callee with
  |value f=>exact ai.fail
  |invoke r m=>exact ai.fail
  |builtin b=>
   show ai (sd P ρ o b args.toList ts)
   unfold sd
   split<;>first|exact ai.fail|exact ai.y7|skip
   ·unfold qo aa5
    repeat' (first|exact ai.bq _|exact ai.pure _|exact ai.fail|(refine ai.bind ?_ fun x=>?_)|split)
   ·have ha:∀ e sz bytes s new,ai (nb e sz bytes s new):=fun e sz bytes s new=>by
     unfold nb xg kr
     repeat' (first|exact ai.bq _|exact ai.fp _|exact ai.tu _|exact ai.pure _|exact ai.fail|apply ai.cond|(refine ai.bind ?_ fun x=>?_)|split)
    unfold ml
    repeat' (first|exact ha _ _ _ _ _|exact ai.cellsIn _ _|exact ai.pure _|exact ai.fail|apply ai.cond|(refine ai.bind ?_ fun x=>?_)|split)
   ·unfold E5 K0
    repeat' (first|exact ai.bq _|exact ai.eu _ _|exact ai.cellsIn _ _|exact ai.pure _|exact ai.fail|apply ai.cond|(refine ai.bind ?_ fun x=>?_)|split)
   ·unfold zi Ao
    repeat' (first|exact ai.bq _|exact ai.eu _ _|exact ai.pure _|exact ai.fail|apply ai.cond|(refine ai.bind ?_ fun x=>?_)|split)
   ·unfold z6
    repeat' (first|exact ai.pure _|exact ai.fail|split)
   ·unfold kf
    repeat' (first|exact ai.pure _|exact ai.fail|apply ai.cond|split)
   ·unfold il uf
    repeat' (first|exact ai.bq _|exact ai.eu _ _|exact ai.pure _|exact ai.fail|apply ai.cond|(refine ai.bind ?_ fun x=>?_)|split)
 |_=>exact ai.fail
structure XA where
 run:ft→(Operand→AV)→M AV
def at6 (P:Program) (o:Oper) (op:BinOp) (t:TypeId) (x y:Operand):XA:=⟨fun _ ρ=>wj P ρ o op t x y⟩
def aoq (P:Program) (o:Oper) (b:Builtin) (args:List Operand) (ts:Array TypeId):XA:=
 match b,args with
 |.len,[x]=>⟨fun _ ρ=>(qo ((ts[0]?).bind P.underlying) (ρ x))⟩
 |.append,[s,x]=>⟨fun _ ρ=>(ml P ts[0]? ((ts[1]?).bind P.underlying) (ρ s) (ρ x))⟩
 |.copy,[d,x]=>⟨fun _ ρ=>(E5 P ts[0]? (ρ d) (ρ x))⟩
 |.delete,[m,k]=>⟨fun _ ρ=>(zi P ((ts[0]?).bind P.underlying) (ρ m) (ρ k))⟩
 |.cap,[x]=>⟨fun _ ρ=>(z6 ((ts[0]?).bind P.underlying) (ρ x))⟩
 |.unsafeSliceData,[x]=>⟨fun _ ρ=>(kf (ρ x))⟩
 |.unsafeString,[x,y]=>⟨fun _ ρ=>(il P ts[0]? (ρ x) (ρ y))⟩
 |.min,l=>⟨fun _ ρ=>(gm P ρ o l)⟩
 |.max,l=>⟨fun _ ρ=>(gm P ρ o l)⟩
 |_,_=>⟨fun _ _=>.fail⟩
def k9 (P:Program) (o:Oper):XA:=
 match o.op with
 |.move x=>⟨fun _ ρ=>(.pure (ρ x))⟩
 |.assign x=>⟨fun _ ρ=>(.pure (ρ x))⟩
 |.load t a=>⟨fun _ ρ=>(i5 P t (ρ a))⟩
 |.fieldAddr s x f=>⟨fun _ ρ=>(kc P s (ρ x) f)⟩
 |.binOp op t x y _=>at6 P o op t x y
 |.pick c a b=>⟨fun _ ρ=>(tc (ρ c) (ρ a) (ρ b))⟩
 |.store t a x=>⟨fun _ ρ=>(oe P t (ρ a) (ρ x))⟩
 |.extract t ix=>⟨fun _ ρ=>(nw (ρ t) ix)⟩
 |.call { callee:=.value f,args,.. }=>⟨fun look ρ=>J4 look (ρ f) (args.toList.map ρ)⟩
 |.call { callee:=.builtin b,args,argTypes }=>aoq P o b args.toList argTypes
 |.indexAddr t x ix=>⟨fun _ ρ=>(ka P t (ρ x) (ρ ix))⟩
 |.nilCheck x=>⟨fun _ ρ=>(lr (ρ x))⟩
 |.alloc t=>⟨fun _ _=>(qb P t)⟩
 |.box t x=>⟨fun _ ρ=>(wc t (ρ x))⟩
 |.build t parts=>⟨fun _ ρ=>(pj P t (parts.toList.map fun p=>(p.1,ρ p.2)))⟩
 |.buildSlice t len parts=>⟨fun _ ρ=>(i9 P t len (parts.toList.map fun p=>(p.1,ρ p.2)))⟩
 |.makeSlice t l c=>⟨fun _ ρ=>(pd P t (ρ l) (ρ c))⟩
 |.makeMap _ r=>⟨fun _ _=>(qh r)⟩
 |.makeFunc f first captured=>⟨fun _ ρ=>(.pure (.fn f (first.toList.map ρ) (captured.toList.map ρ)))⟩
 |.convert src dst x=>⟨fun _ ρ=>(n6 P ρ o src dst (ρ x))⟩
 |.makeInterface t x=>⟨fun _ ρ=>(kz P t (ρ x))⟩
 |.field s x f=>⟨fun _ ρ=>(rq P s (ρ x) f)⟩
 |.index t x ix=>⟨fun _ ρ=>(rj P ρ o t x ix)⟩
 |.slice t x lo hi mx=>⟨fun _ ρ=>(p7 P ρ o t x lo hi mx)⟩
 |.lookup t x ix ok=>⟨fun _ ρ=>(pv P t (ρ x) (ρ ix) ok)⟩
 |.mapUpdate t m k x|.insert t m k x=>⟨fun _ ρ=>(kq P t (ρ m) (ρ k) (ρ x))⟩
 |.typeAssert x _ asserted ok=>⟨fun _ ρ=>(nr P ρ o (ρ x) asserted ok)⟩
 |.unOp _ _ x=>⟨fun _ ρ=>(gm P ρ o [x])⟩
 |_=>⟨fun _ _=>.fail⟩
theorem Gy (P:Program) (look:ft) (o:Oper) (ρ:Operand→AV):(k9 P o).run look ρ=C5 P look o ρ:=by
 have key:∀ (h:∀ f args ts,o.op ≠ .call { callee:=.value f,args,argTypes:=ts }),(k9 P o).run look ρ=Ai P o ρ:=by
  intro h
  unfold k9 Ai
  cases ho:o.op with
  |call c=>
   obtain ⟨callee,args,ts⟩:=c
   cases callee with
   |builtin b=>
    dsimp only
    unfold aoq sd
    generalize args.toList=l
    cases b<;>rcases l with _|⟨x,_|⟨y,_|⟨z,l⟩⟩⟩<;>rfl
   |value f=>exact (h f args ts ho).elim
   |_=>rfl
  |_=>rfl
 unfold C5
 split
 ·rename_i f args ts ho
  unfold k9
  rw [ho]
 ·rename_i hn
  rw [akq.mono]
  exact key hn
def Ku (look:ft):Nat→dm
 |0=>[]
 |n+1=>
  match look n with
  |some p=>(n,p.1,p.2)::Ku look n
  |none=>Ku look n
theorem Gj (look:ft) (f:Nat):∀ n,(Ku look n).find f=if f<n then look f else none
 |0=>by simp [Ku,dm.find]
 |n+1=>by
  rw [Ku]
  cases hl:look n with
  |some p=>
   simp only [dm.find]
   by_cases e:n=f
   ·subst e;simp [hl]
   ·rw [l8 e,cond_false,Gj look f n]
    by_cases h:f<n
    ·rw [if_pos h,if_pos (by omega)]
    ·rw [if_neg h,if_neg (by omega)]
  |none=>
   simp only
   rw [Gj look f n]
   by_cases h:f<n
   ·rw [if_pos h,if_pos (by omega)]
   ·rw [if_neg h]
    by_cases e:f=n
    ·subst e;rw [if_pos (by omega),hl]
    ·rw [if_neg (by omega)]
def ru (look:ft):dm:=Ku look Gq
theorem Tv (look:ft) (f:Nat):(ru look).find f=bif Nat.blt f Gq then look f else none:=by
 rw [ru,Gj]
 by_cases h:f<Gq
 ·rw [if_pos h,show Nat.blt f Gq=true from by simpa using h];rfl
 ·rw [if_neg h,show Nat.blt f Gq=false from by cases hb:Nat.blt f Gq with|false=>rfl|true=>exact (h (by simpa using hb)).elim];rfl
theorem anv (look:ft):Qk look=q9 (ru look):=by
 funext f args
 unfold Qk q9
 rw [Tv]
 cases Nat.blt f Gq with
 |false=>rfl
 |true=>cases look f<;>rfl
theorem Mq (P:Program) (look:ft):C5 P look=eg P (ru look):=by
 have h1:Bi look=I3 (ru look):=by funext g args;unfold Bi I3;rw [anv];rfl
 have h2:J4 look=sn (ru look):=by funext f args;unfold J4 sn;rw [h1];rfl
 funext o ρ
 unfold C5 eg
 rw [h2]
 rfl
def Cy (P:Program) (look:ft) (ops:Array Oper) (o:Oper) (L:SL) (st:St):Option (SL × St):=
 match wk ops L o with
 |some true=>
  match (k9 P o).run look (bo L) st with
  |some (v,st')=>some (gi o.dst v L,st')
  |none=>none
 |some false=>some (gi o.dst (.sc undef) L,st)
 |none=>none
structure XO where
 run:ft→SL→St→Option (SL × St)
def af5 (P:Program) (o:Oper) (d:Nat):XO:=
 match o.op with
 |.move x=>⟨fun _ L st=>some ((d,bo L x)::L,st)⟩
 |.assign x=>⟨fun _ L st=>some ((d,bo L x)::L,st)⟩
 |_=>⟨fun look L st=>Option.rec (motive:=fun _=>Option (SL × St)) none (fun p=>some ((d,p.1)::L,p.2)) ((k9 P o).run look (bo L) st)⟩
def yw (P:Program) (ops:Array Oper) (o:Oper):XO:=
 match o.guard with
 |none=>
  match o.dst with
  |some d=>af5 P o d
  |none=>⟨fun look L st=>Option.rec (motive:=fun _=>Option (SL × St)) none (fun p=>some (L,p.2)) ((k9 P o).run look (bo L) st)⟩
 |some _=>⟨fun look L st=>Cy P look ops o L st⟩
theorem Gc (P:Program) (look:ft) (ops:Array Oper) (o:Oper) (L:SL) (st:St):(yw P ops o).run look L st=Cy P look ops o L st:=by
 unfold yw
 cases hg:o.guard with
 |some q=>rfl
 |none=>
  have hx:Cy P look ops o L st=match (k9 P o).run look (bo L) st with
   |some (v,st')=>some (gi o.dst v L,st')
   |none=>none:=by
   unfold Cy wk
   rw [hg]
  rw [hx]
  cases hd:o.dst with
  |none=>
   show Option.rec (motive:=fun _=>Option (SL × St)) none (fun p=>some (L,p.2)) ((k9 P o).run look (bo L) st)=_
   cases (k9 P o).run look (bo L) st<;>rfl
  |some d=>
   show (af5 P o d).run look L st=_
   unfold af5
   cases ho:o.op with
   |move x=>rw [show (k9 P o).run look (bo L) st=some (bo L x,st) from by unfold k9;rw [ho];rfl];rfl
   |assign x=>rw [show (k9 P o).run look (bo L) st=some (bo L x,st) from by unfold k9;rw [ho];rfl];rfl
   |_=>
    show Option.rec (motive:=fun _=>Option (SL × St)) none (fun p=>some ((d,p.1)::L,p.2)) ((k9 P o).run look (bo L) st)=_
    cases (k9 P o).run look (bo L) st<;>rfl
theorem Xb {P look ops o L st r} (h:(yw P ops o).run look L st=some r):Cy P look ops o L st=some r:=by rw [← Gc];exact h
def rk (P:Program) (ops:Array Oper) (l:List Oper):XO:=
 List.rec (motive:=fun _=>XO) ⟨fun _ L st=>some (L,st)⟩ (fun o _ ih=>⟨fun look L st=>
  Option.rec (motive:=fun _=>Option (SL × St)) none (fun p=>ih.run look p.1 p.2) ((yw P ops o).run look L st)⟩) l
theorem D7 (P:Program) (look:ft) (ops:Array Oper) (o:Oper) (l:List Oper) (L:SL) (st:St):(rk P ops (o::l)).run look L st=(match (yw P ops o).run look L st with|some p=>(rk P ops l).run look p.1 p.2|none=>none):=by
 show Option.rec (motive:=fun _=>Option (SL × St)) none (fun p=>(rk P ops l).run look p.1 p.2) ((yw P ops o).run look L st)=_
 cases (yw P ops o).run look L st<;>rfl
theorem ak1 {P:Program} {look:ft} {ops:Array Oper} {t:Nat}:∀ (l:List Oper) (L:SL) (st:St) (p:SL × St),(rk P ops l).run look L st=some p→(∀ o ∈ l,o.dst≠some t)→lk p.1 t=lk L t:=by
 intro l
 induction l with
 |nil=>intro L st p h _;cases h;rfl
 |cons o l ih=>
  intro L st p h hn
  rw [D7] at h
  cases h1:(yw P ops o).run look L st with
  |none=>rw [h1] at h;cases h
  |some q=>
   rw [h1] at h
   rw [ih _ _ p h (fun o ho=>hn o (by simp [ho]))]
   have h2:=Xb h1
   have hq:∃ v,q.1=gi o.dst v L:=by
    unfold Cy at h2
    split at h2
    ·split at h2
     ·cases h2;exact ⟨_,rfl⟩
     ·cases h2
    ·cases h2;exact ⟨_,rfl⟩
    ·cases h2
   obtain ⟨v,hv⟩:=hq
   rw [hv,On,if_neg (hn o (by simp))]
def hasB (s t:Nat):Bool:=Nat.beq (Nat.land (Nat.shiftRight s t) 1) 1
def Jh (s t:Nat):Nat:=Nat.lor s (Nat.shiftLeft 1 t)
def pa (ks:List Nat) (L L0:SL):SL:=List.rec (motive:=fun _=>SL) L0 (fun t _ ih=>(t,lk L t)::ih) ks
theorem M3 (L L0:SL) (t:Nat):∀ ks,lk (pa ks L L0) t=if t ∈ ks then lk L t else lk L0 t
 | []=>by simp [pa]
 |k::ks=>by
  show lk ((k,lk L k)::pa ks L L0) t=_
  rw [lz,M3 L L0 t ks]
  by_cases e:k=t
  ·subst e;simp
  ·rw [if_neg e]
   simp only [List.mem_cons,Ne.symm e,false_or]
def m6 (L:SL):Nat→SL:=List.rec (motive:=fun _=>Nat→SL) (fun _=>[]) (fun p _ ih s=>Bool.rec (motive:=fun _=>SL) (p::ih (Jh s p.1)) (ih s) (hasB s p.1)) L
theorem ajn (s t u:Nat):hasB (Jh s t) u=(hasB s u || decide (t=u)):=by
 have key:∀ s u,hasB s u=s.testBit u:=by
  intro s u
  unfold hasB
  rw [Nat.testBit]
  show Nat.beq ((s >>> u) &&& 1) 1=_
  rw [Nat.and_comm]
  have : 1 &&& (s >>> u)<2:=Nat.lt_of_le_of_lt Nat.and_le_left (by omega)
  rcases (by omega : 1 &&& (s >>> u)=0∨1 &&& (s >>> u)=1) with h|h<;>rw [h]<;>rfl
 rw [key,key]
 show (s ||| (1 <<< t)).testBit u=_
 rw [Nat.testBit_or,Nat.shiftLeft_eq,Nat.one_mul,Nat.testBit_two_pow]
theorem Jr (t:Nat):∀ (L:SL) (s:Nat),lk (m6 L s) t=bif hasB s t then .bad else lk L t
 | [],s=>by cases h:hasB s t<;>rfl
 |p::L,s=>by
  obtain ⟨k,v⟩:=p
  show lk (Bool.rec (motive:=fun _=>SL) ((k,v)::m6 L (Jh s k)) (m6 L s) (hasB s k)) t=_
  rw [lz]
  cases hk:hasB s k with
  |true=>
   show lk (m6 L s) t=_
   rw [Jr t L s]
   by_cases e:k=t
   ·subst e;rw [hk];rfl
   ·rw [if_neg e]
  |false=>
   show lk ((k,v)::m6 L (Jh s k)) t=_
   rw [lz,Jr t L,ajn]
   by_cases e:k=t
   ·subst e;rw [if_pos rfl,if_pos rfl,hk];rfl
   ·rw [if_neg e,if_neg e,decide_eq_false e,Bool.or_false]
def Rr (L' L:SL):Prop:=∀ t,lk L' t=lk L t∨lk L' t = .bad
theorem di.less {g w nt L L' tmps} (h:di g w nt L tmps) (hl:Rr L' L):di g w nt L' tmps:=
 ⟨h.1,fun t=>by rcases hl t with e|e<;>rw [e];exact h.2 t;exact .bad _⟩
def ly (ex:Nat) (L:SL):Prop:=∀ t,hasB ex t=false→lk L t = .bad
def mn (ex:Nat) (ops:Array Oper):List Nat:=(ops.toList.filterMap (·.dst)).filter (hasB ex)
theorem Ac {ex:Nat} {ops:Array Oper} {L L0:SL} (hw:ly ex L0) (hlk:∀ t,(∀ o ∈ ops.toList,o.dst≠some t)→lk L t=lk L0 t):Rr (pa (mn ex ops) L L0) L∧ly ex (pa (mn ex ops) L L0):=by
 have hm:∀ t,t ∈ mn ex ops↔(∃ o ∈ ops.toList,o.dst=some t)∧hasB ex t=true:=by
  intro t;simp [mn,List.mem_filter,List.mem_filterMap]
 refine ⟨fun t=>?_,fun t ht=>?_⟩
 ·rw [M3]
  by_cases h:t ∈ mn ex ops
  ·rw [if_pos h];exact .inl rfl
  ·rw [if_neg h]
   cases hx:hasB ex t with
   |false=>exact .inr (hw t hx)
   |true=>
    refine .inl (hlk t fun o ho e=>h ((hm t).2 ⟨⟨o,ho,e⟩,hx⟩)).symm
 ·rw [M3,if_neg (fun h=>by have:=((hm t).1 h).2;rw [ht] at this;cases this)]
  exact hw t ht
def rn {α:Type} (m:M α):M (α × List Nat × List Nat):=fun st=>
 match m { h:=st.h,nx:=st.nx,rl:=[],wl:=[] } with
 |some p=>some ((p.1,p.2.rl,p.2.wl),{ h:=p.2.h,nx:=p.2.nx,rl:=p.2.rl++st.rl,wl:=p.2.wl++st.wl })
 |none=>none
def oy (P:Program) (look:ft) (ops:Array Oper) (l:List Oper):List Rec→SL→St→Option (List Rec × SL × St):=
 List.rec (motive:=fun _=>List Rec→SL→St→Option (List Rec × SL × St)) (fun recs L st=>some (recs,L,st)) (fun o _ ih recs L st=>
  match ud ops L o with
  |some true=>
   match rn ((k9 P o).run look (bh o L)) st with
   |some p=>bif Nat.ble p.2.nx be then ih (recs++[⟨p.1.2.1,p.1.2.2⟩]) (gi o.dst p.1.1 L) p.2 else none
   |none=>none
  |some false=>ih (recs++[⟨[],[]⟩]) (gi o.dst (.sc undef) L) st
  |none=>none) l
def K1 (o:Oper) (u:Nat):Bool:=o.op.operands.any fun x=>match x with|.tmp t=>Nat.beq t u|_=>false
def Qq (ops:Array Oper) (i:Nat) (o:Oper):Bool:=ops.toList.zipIdx.all fun r=>Nat.blt r.2 i || (match r.1.dst with|some d=>!(K1 o d)|none=>true)
def amm (p:Nat) (a:AV):Bool:=match a with|.mp q=>Nat.beq q p|_=>false
def Kz (P:Program) (ops:Array Oper) (L:SL) (p k0 i:Nat) (o:Oper):Option Lit:=
 match o.op,o.dst,o.guard with
 |.insert t m k x,none,none=>
  match P.underlying t with
  |some (.map kt _)=>
   match P.underlying kt,(bo L k).fh with
   |some d,some key=>
    match ev P (Instr.checkKey false 10000 kt key) with
    |some _=>bif (amm p (bo L m) && ((Region.before ops).getD i 0).testBit k0) && Qq ops i o then some ⟨i,d,(key,bo L x)⟩ else none
    |none=>none
   |_,_=>none
  |_=>none
 |_,_,_=>none
def Fy (f:Nat→Oper→Option Lit):List Oper→Nat→Option (List Lit)
 | [],_=>some []
 |o::r,i=>
  bif sm o then
   match f i o,Fy f r (i+1) with
   |some q,some l=>some (q::l)
   |_,_=>none
  else Fy f r (i+1)
def isFalse (b:Option Bool):Bool:=match b with|some false=>true|_=>false
def V8 (ops:Array Oper) (recs:List Rec) (p k0:Nat) (lits:List Lit):Bool:=
 (lits.all (fun q=>lits.all fun r=>Nat.beq q.i r.i || (m8 q.e.1 r.e.1 && isFalse (Instr.sameNow q.d q.e.1 r.e.1))) && Nat.ble p be) &&
 ((recs.zipIdx.all fun r=>Nat.beq r.2 k0 || (!(vn p r.1.R) && !(vn p r.1.W))) && (match ops[k0]? with|some o=>!(sm o)|none=>false))
def Rj (p:Nat):List Rec→Nat→Option Nat
 | [],_=>none
 |a::r,i=>bif vn p a.W then some i else Rj p r (i+1)
def Jb (l:List Oper):Option Oper:=List.rec (motive:=fun _=>Option Oper) none (fun o _ ih=>bif sm o then some o else ih) l
def ai2 (p:Nat) (lits:List Lit) (x:an):M Unit:=
 match x with
 |.map []=>eu p (.map (lits.map (·.e)))
 |_=>M.fail
def Zj (P:Program) (ops:Array Oper) (recs:List Rec) (L:SL) (p:Nat):M Unit:=
 match Rj p recs 0 with
 |some k0=>
  match Fy (Kz P ops L p k0) ops.toList 0 with
  |some lits=>bif V8 ops recs p k0 lits then (bq p).bind (ai2 p lits) else M.fail
  |none=>M.fail
 |none=>M.fail
def ow (P:Program) (ops:Array Oper) (recs:List Rec) (L:SL):M Unit:=
 match Jb ops.toList with
 |none=>M.pure ()
 |some o=>
  match o.op with
  |.insert _ m _ _=>
   match bo L m with
   |.mp p=>Zj P ops recs L p
   |_=>M.fail
  |_=>M.fail
def ae {α:Type} (m:M α):Prop:=
 ∀ st a au,qy st→m st=some (a,au) →
  st.nx≤au.nx∧∃ r w,au.rl=r++st.rl∧au.wl=w++st.wl∧(∀ o ∈ w,o<au.nx)∧(∀ o,st.nx≤o→o<au.nx→o ∈ w)∧(∀ o,o ∉ w→au.h.get o=st.h.get o) ∧
   ∀ h' rl' wl',(∀ o x,h'.get o=some x→o<st.nx)→(∀ o,o ∈ r∨o ∈ w→h'.get o=st.h.get o) →
    ∃ h1',m { h:=h',nx:=st.nx,rl:=rl',wl:=wl' }=some (a,{ h:=h1',nx:=au.nx,rl:=r++rl',wl:=w++wl' })∧∀ o,h1'.get o=if o ∈ w then au.h.get o else h'.get o
theorem ae.low {α:Type} {m:M α} (h:ae m) {st au a} (hl:qy st) (hm:m st=some (a,au)):qy au:=by
 obtain ⟨h1,r,w,_,_,h2,_,h3,_⟩:=h st a au hl hm
 intro o x hx
 by_cases ho:o ∈ w
 ·exact h2 o ho
 ·rw [h3 o ho] at hx;exact Nat.lt_of_lt_of_le (hl o x hx) h1
theorem ae.pure {α:Type} (a : α):ae (M.pure a):=fun st b au hl h=>by
 cases h
 exact ⟨Nat.le_refl _,[],[],rfl,rfl,(fun o ho=>by cases ho),(fun o h1 h2=>by omega),(fun _ _=>rfl),fun h' rl' wl' _ _=>⟨h',rfl,fun o=>by simp⟩⟩
theorem ae.fail {α:Type}:ae (M.fail:M α):=fun st b au _ h=>by cases h
theorem ae.of {α:Type} (a:Option α):ae (M.of a):=by cases a;exact ae.fail;exact ae.pure _
theorem ae.cond {α:Type} {b:Bool} {x y:M α} (hx:ae x) (hy:ae y):ae (bif b then x else y):=by cases b<;>assumption
theorem ae.bind {α β:Type} {m:M α} {f : α→M β} (hm:ae m) (hf:∀ x,ae (f x)):ae (m.bind f):=fun st b st2 hl h=>by
 obtain ⟨a,au,h1,h2⟩:=bind_some h
 have hl1:=hm.low hl h1
 obtain ⟨k1,r1,w1,k2,k3,k4,k5,k6,k7⟩:=hm st a au hl h1
 obtain ⟨q1,r2,w2,q2,q3,q4,q5,q6,q7⟩:=hf a au b st2 hl1 h2
 refine ⟨Nat.le_trans k1 q1,r2++r1,w2++w1,by rw [q2,k2,List.append_assoc],by rw [q3,k3,List.append_assoc],fun o ho=>?_,fun o h3 h4=>?_,fun o ho=>?_,fun h' rl' wl' hl' ha=>?_⟩
 ·rcases List.mem_append.1 ho with ho|ho
  ·exact q4 o ho
  ·exact Nat.lt_of_lt_of_le (k4 o ho) q1
 ·rcases Nat.lt_or_ge o au.nx with h5|h5
  ·exact List.mem_append.2 (.inr (k5 o h3 h5))
  ·exact List.mem_append.2 (.inl (q5 o h5 h4))
 ·rw [q6 o (fun h=>ho (List.mem_append.2 (.inl h))),k6 o (fun h=>ho (List.mem_append.2 (.inr h)))]
 ·obtain ⟨h1',e1,e2⟩:=k7 h' rl' wl' hl' (fun o ho=>ha o (ho.imp (fun h=>List.mem_append.2 (.inr h)) (fun h=>List.mem_append.2 (.inr h))))
  have hlo1:∀ o x,h1'.get o=some x→o<au.nx:=fun o x hx=>by
   rw [e2] at hx
   by_cases ho:o ∈ w1
   ·exact k4 o ho
   ·rw [if_neg ho] at hx;exact Nat.lt_of_lt_of_le (hl' o x hx) k1
  obtain ⟨h2',e3,e4⟩:=q7 h1' (r1++rl') (w1++wl') hlo1 (fun o ho=>by
   rw [e2]
   by_cases hw:o ∈ w1
   ·rw [if_pos hw]
   ·rw [if_neg hw,k6 o hw]
    exact ha o (ho.imp (fun h=>List.mem_append.2 (.inl h)) (fun h=>List.mem_append.2 (.inl h))))
  refine ⟨h2',?_,fun o=>?_⟩
  ·show M.bind m f _=_
   unfold M.bind
   rw [e1]
   simp only
   rw [e3,List.append_assoc,List.append_assoc]
  ·rw [e4]
   by_cases h5:o ∈ w2
   ·rw [if_pos h5,if_pos (List.mem_append.2 (.inl h5))]
   ·rw [if_neg h5,e2]
    by_cases h6:o ∈ w1
    ·rw [if_pos h6,if_pos (List.mem_append.2 (.inr h6)),q6 o h5]
    ·rw [if_neg h6,if_neg (fun h=>by rcases List.mem_append.1 h with h|h;exact h5 h;exact h6 h)]
theorem ae.mono {α:Type} {m:M α} (h:ae m):ae (Vm.mono m):=fun st a au hl hm=>by
 obtain ⟨h1,h2⟩:=xe hm
 obtain ⟨k1,r,w,k2,k3,k4,k5,k6,k7⟩:=h st a au hl h1
 refine ⟨k1,r,w,k2,k3,k4,k5,k6,fun h' rl' wl' hl' ha=>?_⟩
 obtain ⟨h1',e1,e2⟩:=k7 h' rl' wl' hl' ha
 refine ⟨h1',?_,e2⟩
 unfold Vm.mono
 rw [e1]
 simp only
 rw [show Nat.ble st.nx au.nx=true from Nat.ble_eq_true_of_le k1]
 rfl
theorem ae.bq (id:Nat):ae (Vm.bq id):=fun st a au hl h=>by
 unfold Vm.bq at h
 cases hx:st.h.get id with
 |none=>rw [hx] at h;cases h
 |some x=>
  rw [hx] at h
  cases h
  refine ⟨Nat.le_refl _,[id],[],rfl,rfl,(fun o ho=>by cases ho),(fun o h1 h2=>by simp at h2;omega),(fun _ _=>rfl),fun h' rl' wl' _ ha=>⟨h',?_,fun o=>by simp⟩⟩
  unfold Vm.bq
  simp only [ha id (.inl (by simp)),hx]
  rfl
theorem ae.eu (id:Nat) (x:an):ae (Vm.eu id x):=fun st a au hl h=>by
 unfold Vm.eu at h
 cases hx:st.h.get id with
 |none=>rw [hx] at h;cases h
 |some y=>
  rw [hx] at h
  cases hb:Nat.ble id be with
  |false=>rw [hb] at h;cases h
  |true=>
   rw [hb] at h
   cases h
   have hlt:=Nat.le_of_ble_eq_true hb
   refine ⟨Nat.le_refl _,[],[id],rfl,rfl,(fun o ho=>by simp at ho;subst ho;exact hl _ y hx),(fun o h1 h2=>by simp at h2;omega),(fun o ho=>by simp at ho;simp only;rw [db _ _ _ _ hlt,if_neg ho]),fun h' rl' wl' _ ha=>⟨h'.set depth id (some x),?_,fun o=>?_⟩⟩
   ·unfold Vm.eu
    simp only [ha id (.inr (by simp)),hx,hb,cond_true]
    rfl
   ·simp only [db _ _ _ _ hlt,List.mem_singleton]
    by_cases e:o=id
    ·rw [if_pos e,if_pos e,if_pos e]
    ·rw [if_neg e,if_neg e]
theorem ae.tu (id:Nat):ae (Vm.tu id):=fun st a au hl h=>by
 unfold Vm.tu at h
 cases hx:st.h.get id with
 |none=>rw [hx] at h;cases h
 |some y=>
  rw [hx] at h
  cases hb:Nat.ble id be with
  |false=>rw [hb] at h;cases h
  |true=>
   rw [hb] at h
   cases h
   have hlt:=Nat.le_of_ble_eq_true hb
   refine ⟨Nat.le_refl _,[],[id],rfl,rfl,(fun o ho=>by simp at ho;subst ho;exact hl _ y hx),(fun o h1 h2=>by simp at h2;omega),(fun o ho=>by simp at ho;simp only;rw [db _ _ _ _ hlt,if_neg ho]),fun h' rl' wl' _ ha=>⟨h'.set depth id none,?_,fun o=>?_⟩⟩
   ·unfold Vm.tu
    simp only [ha id (.inr (by simp)),hx,hb,cond_true]
    rfl
   ·simp only [db _ _ _ _ hlt,List.mem_singleton]
    by_cases e:o=id
    ·rw [if_pos e,if_pos e,if_pos e]
    ·rw [if_neg e,if_neg e]
theorem ae.fp (x:an):ae (Vm.fp x):=fun st a au hl h=>by
 unfold Vm.fp at h
 cases hb:Nat.ble st.nx be with
 |false=>rw [hb] at h;cases h
 |true=>
  rw [hb] at h
  cases h
  have hlt:=Nat.le_of_ble_eq_true hb
  refine ⟨Nat.le_succ _,[],[st.nx],rfl,rfl,(fun o ho=>by simp at ho;subst ho;exact Nat.lt_succ_self _),(fun o h1 h2=>by simp at h2 ⊢;omega),(fun o ho=>by simp at ho;simp only;rw [db _ _ _ _ hlt,if_neg ho]),fun h' rl' wl' _ ha=>⟨h'.set depth st.nx (some x),?_,fun o=>?_⟩⟩
  ·unfold Vm.fp
   simp only [hb,cond_true]
   rfl
  ·simp only [db _ _ _ _ hlt,List.mem_singleton]
   by_cases e:o=st.nx
   ·rw [if_pos e,if_pos e,if_pos e]
   ·rw [if_neg e,if_neg e]
theorem ae.rn {α:Type} {m:M α} (h:ae m):ae (Vm.rn m):=fun st a au hl hm=>by
 unfold Vm.rn at hm
 cases h1:m { h:=st.h,nx:=st.nx,rl:=[],wl:=[] } with
 |none=>rw [h1] at hm;cases hm
 |some p=>
  rw [h1] at hm
  cases hm
  obtain ⟨k1,r,w,k2,k3,k4,k5,k6,k7⟩:=h { h:=st.h,nx:=st.nx,rl:=[],wl:=[] } p.1 p.2 hl h1
  rw [List.append_nil] at k2 k3
  refine ⟨k1,r,w,by simp only [k2],by simp only [k3],k4,k5,k6,fun h' rl' wl' hl' ha=>?_⟩
  obtain ⟨h1',e1,e2⟩:=k7 h' [] [] hl' ha
  refine ⟨h1',?_,e2⟩
  unfold Vm.rn
  simp only at e1 ⊢
  rw [e1]
  simp only [List.append_nil,k2,k3]
theorem ae.cellsIn (sz:Nat) (v:AV):ae (Vm.cellsIn sz v):=by
 unfold Vm.cellsIn wo
 repeat' (first|exact ae.pure _|exact ae.fail|exact ae.bq _|apply ae.cond|(refine ae.bind ?_ fun x=>?_)|split)
theorem ae.y7 {P:Program} {ρ:Operand→AV} {o:Oper} {l:List Operand}:ae (gm P ρ o l):=by unfold gm;exact ae.cond (ae.of _) ae.fail
theorem ae.bx {t:TypeId} {x:AV}:ae (wc t x):=by
 unfold wc
 repeat' (first|exact ae.pure _|exact ae.fail|exact ae.fp _|apply ae.cond|(refine ae.bind ?_ fun x=>?_)|split)
theorem afp {P:Program} {o:Oper} {ρ:Operand→AV}:ae (Ai P o ρ):=by
 unfold Ai
 cases ho:o.op with
 |move x=>exact ae.pure _
 |assign x=>exact ae.pure _
 |load t a=>
  show ae (i5 P t (ρ a))
  unfold i5 ik
  repeat' (first|exact ae.pure _|exact ae.fail|exact ae.of _|exact ae.bq _|(refine ae.bind ?_ fun x=>?_)|split)
 |fieldAddr s x f=>
  show ae (kc P s (ρ x) f)
  unfold kc
  repeat' (first|exact ae.pure _|exact ae.fail|exact ae.of _|apply ae.cond|split)
 |binOp op t x y u=>
  show ae (wj P ρ o op t x y)
  have he:∀ a b,ae (kh P ρ o op t a b):=fun a b=>by
   unfold kh yv A5 Bm V7 V5 Ot Jy mb
   repeat' (first|exact ae.pure _|exact ae.fail|exact ae.of _|exact ae.bq _|apply ae.cond|(refine ae.bind ?_ fun x=>?_)|split)
  unfold wj Bk Jj
  repeat' (first|exact he _ _|exact ae.pure _|exact ae.fail|exact ae.of _|apply ae.cond|split)
 |pick c a b=>
  show ae (tc (ρ c) (ρ a) (ρ b))
  unfold tc
  repeat' (first|exact ae.pure _|exact ae.fail|split)
 |store t a x=>
  show ae (oe P t (ρ a) (ρ x))
  unfold oe jh
  repeat' (first|exact ae.pure _|exact ae.fail|exact ae.bq _|exact ae.eu _ _|apply ae.cond|(refine ae.bind ?_ fun x=>?_)|split)
 |mapUpdate t m k x=>
  show ae (kq P t (ρ m) (ρ k) (ρ x))
  unfold kq n5
  repeat' (first|exact ae.pure _|exact ae.fail|exact ae.bq _|exact ae.eu _ _|apply ae.cond|(refine ae.bind ?_ fun x=>?_)|split)
 |insert t m k x=>
  show ae (kq P t (ρ m) (ρ k) (ρ x))
  unfold kq n5
  repeat' (first|exact ae.pure _|exact ae.fail|exact ae.bq _|exact ae.eu _ _|apply ae.cond|(refine ae.bind ?_ fun x=>?_)|split)
 |extract t ix=>
  show ae (nw (ρ t) ix)
  unfold nw
  repeat' (first|exact ae.pure _|exact ae.fail|exact ae.of _|split)
 |indexAddr t x ix=>
  show ae (ka P t (ρ x) (ρ ix))
  unfold ka tp
  repeat' (first|exact ae.pure _|exact ae.fail|exact ae.of _|apply ae.cond|split)
 |nilCheck x=>
  show ae (lr (ρ x))
  unfold lr
  repeat' (first|exact ae.pure _|exact ae.fail|split)
 |alloc t=>
  show ae (qb P t)
  unfold qb
  split
  ·exact ae.fail
  ·exact ae.bx
 |box t x=>exact ae.bx
 |build t ps=>
  show ae (pj P t _)
  unfold pj
  repeat' (first|exact ae.pure _|exact ae.fail|exact ae.of _|split)
 |buildSlice t len ps=>
  show ae (i9 P t len _)
  unfold i9 kr
  repeat' (first|exact ae.fp _|exact ae.pure _|exact ae.fail|exact ae.of _|apply ae.cond|(refine ae.bind ?_ fun x=>?_)|split)
 |makeSlice t l c=>
  show ae (pd P t (ρ l) (ρ c))
  unfold pd kr
  repeat' (first|exact ae.fp _|exact ae.pure _|exact ae.fail|exact ae.of _|apply ae.cond|(refine ae.bind ?_ fun x=>?_)|split)
 |makeMap t r=>
  show ae (qh r)
  unfold qh
  repeat' (first|exact ae.fp _|exact ae.pure _|exact ae.fail|(refine ae.bind ?_ fun x=>?_)|split)
 |makeFunc f a b=>exact ae.pure _
 |convert src dst x=>
  show ae (n6 P ρ o src dst (ρ x))
  have he:ae (qu P ρ o (ρ x)):=by unfold qu;split;exact ae.of _;exact ae.fail
  unfold n6 j8
  repeat' (first|exact he|exact ae.fail|split)
  ·unfold Cd;repeat' (first|exact ae.fp _|exact ae.pure _|exact ae.fail|apply ae.cond|(refine ae.bind ?_ fun x=>?_)|split)
  ·unfold Et zc;repeat' (first|exact ae.cellsIn _ _|exact ae.pure _|exact ae.fail|apply ae.cond|(refine ae.bind ?_ fun x=>?_)|split)
  ·unfold Fk B8;repeat' (first|exact ae.bq _|exact ae.pure _|exact ae.fail|apply ae.cond|(refine ae.bind ?_ fun x=>?_)|split)
  ·unfold Es Cc;repeat' (first|exact ae.bq _|exact ae.pure _|exact ae.fail|apply ae.cond|(refine ae.bind ?_ fun x=>?_)|split)
  ·unfold Bh;repeat' (first|exact ae.pure _|exact ae.fail|split)
 |makeInterface t x=>
  show ae (kz P t (ρ x))
  unfold kz
  repeat' (first|exact ae.pure _|exact ae.fail|split)
 |field s x f=>
  show ae (rq P s (ρ x) f)
  unfold rq
  repeat' (first|exact ae.pure _|exact ae.fail|exact ae.of _|split)
 |index t x ix=>
  show ae (rj P ρ o t x ix)
  unfold rj
  repeat' (first|exact ae.y7|exact ae.pure _|exact ae.fail|exact ae.of _|apply ae.cond|split)
 |slice t x lo hi mx=>
  show ae (p7 P ρ o t x lo hi mx)
  unfold p7 Ms
  repeat' (first|exact ae.y7|exact ae.bq _|exact ae.pure _|exact ae.fail|exact ae.of _|apply ae.cond|(refine ae.bind ?_ fun x=>?_)|split)
 |lookup t x ix ok=>
  show ae (pv P t (ρ x) (ρ ix) ok)
  unfold pv l0 found
  repeat' (first|exact ae.bq _|exact ae.pure _|exact ae.fail|exact ae.of _|apply ae.cond|(refine ae.bind ?_ fun x=>?_)|split)
 |typeAssert x t a ok=>
  show ae (nr P ρ o (ρ x) a ok)
  unfold nr
  repeat' (first|exact ae.pure _|exact ae.fail|exact ae.of _|apply ae.cond|split)
 |unOp op t x=>exact ae.y7
 |call c=>
  obtain ⟨callee,args,ts⟩:=c
  cases callee with
  |value f=>exact ae.fail
  |invoke r m=>exact ae.fail
  |builtin b=>
   show ae (sd P ρ o b args.toList ts)
   unfold sd
   split<;>first|exact ae.fail|exact ae.y7|skip
   ·unfold qo aa5
    repeat' (first|exact ae.bq _|exact ae.pure _|exact ae.fail|(refine ae.bind ?_ fun x=>?_)|split)
   ·have ha:∀ e sz bytes s new,ae (nb e sz bytes s new):=fun e sz bytes s new=>by
     unfold nb xg kr
     repeat' (first|exact ae.bq _|exact ae.fp _|exact ae.tu _|exact ae.pure _|exact ae.fail|apply ae.cond|(refine ae.bind ?_ fun x=>?_)|split)
    unfold ml
    repeat' (first|exact ha _ _ _ _ _|exact ae.cellsIn _ _|exact ae.pure _|exact ae.fail|apply ae.cond|(refine ae.bind ?_ fun x=>?_)|split)
   ·unfold E5 K0
    repeat' (first|exact ae.bq _|exact ae.eu _ _|exact ae.cellsIn _ _|exact ae.pure _|exact ae.fail|apply ae.cond|(refine ae.bind ?_ fun x=>?_)|split)
   ·unfold zi Ao
    repeat' (first|exact ae.bq _|exact ae.eu _ _|exact ae.pure _|exact ae.fail|apply ae.cond|(refine ae.bind ?_ fun x=>?_)|split)
   ·unfold z6
    repeat' (first|exact ae.pure _|exact ae.fail|split)
   ·unfold kf
    repeat' (first|exact ae.pure _|exact ae.fail|apply ae.cond|split)
   ·unfold il uf
    repeat' (first|exact ae.bq _|exact ae.eu _ _|exact ae.pure _|exact ae.fail|apply ae.cond|(refine ae.bind ?_ fun x=>?_)|split)
 |_=>exact ae.fail
def ju (look:ft):Prop:=∀ f p,look f=some p→∀ args,ae (p.2 args)
theorem yr {P:Program} {look:ft} {o:Oper} {ρ:Operand→AV} (h:ae (C5 P look o ρ)):ae ((k9 P o).run look ρ):=by rw [Gy];exact h
theorem yj {P:Program} {look:ft} (hl:ju look) {o:Oper} {ρ:Operand→AV}:ae (C5 P look o ρ):=by
 have hcall:∀ g args,ae (Qk look g args):=by
  intro g args
  unfold Qk
  refine ae.cond ?_ ae.fail
  split
  ·rename_i p hp;exact (hl g p hp args).mono
  ·exact ae.fail
 have hfn:∀ g args,ae (Bi look g args):=by
  intro g args
  unfold Bi
  split
  ·exact hcall _ _
  ·exact ae.fail
 unfold C5
 split
 ·unfold J4
  split
  ·exact hfn _ _
  ·split
   ·exact hfn _ _
   ·exact ae.fail
  ·exact ae.fail
 ·exact afp.mono
theorem ae.congr {α:Type} {m m':M α} (h:ae m) (e:∀ st,m' st=m st):ae m':=by
 rw [show m'=m from funext e];exact h
theorem Cq {P:Program} {look:ft} (hl:ju look) (ops:Array Oper) (o:Oper) (L:SL):ae (α:=SL) ((yw P ops o).run look L):=by
 cases hg:wk ops L o with
 |none=>exact ae.fail.congr (fun st=>by rw [Gc];unfold Cy;rw [hg];rfl)
 |some b=>
  cases b with
  |false=>exact (ae.pure (gi o.dst (.sc undef) L)).congr (fun st=>by rw [Gc];unfold Cy;rw [hg];rfl)
  |true=>
   refine (ae.bind (yr (yj (P:=P) hl (o:=o) (ρ:=bo L))) (fun v=>ae.pure (gi o.dst v L))).congr (fun st=>?_)
   rw [Gc]
   show Cy P look ops o L st=M.bind _ _ st
   unfold Cy M.bind
   rw [hg]
   simp only
   cases (k9 P o).run look (bo L) st<;>rfl
theorem Hk {P:Program} {look:ft} (hl:ju look) (ops:Array Oper):∀ (l:List Oper) (L:SL),ae (α:=SL) ((rk P ops l).run look L):=by
 intro l
 induction l with
 |nil=>intro L;exact ae.pure L
 |cons o l ih=>
  intro L
  refine (ae.bind (Cq (P:=P) hl ops o L) (fun L'=>ih L')).congr (fun st=>?_)
  rw [D7]
  unfold M.bind
  cases (yw P ops o).run look L st<;>rfl
theorem aff {P:Program} {look:ft} (hT:m5 P (ru look)) (hl:ju look) {ops:Array Oper} {ro:Option Nat} {N:Nat} {B:c9} {nt:Nat} {Q:Exit→Act→World→Prop} (hg:oq nt ops=true) (hd:ti nt ops=true) {p:SL × St}
 (rest:List Nat) (hK:∀ g w (a:Act),er B g p.2 w→di g w nt p.1 a.tmps→Marks B.n0 p.2.h g w a.defers→wpOpsIn (ee ro) N P ops Q rest a w) :
 ∀ (l:List Oper) (is:List Nat),(∀ o ∈ l,o ∈ ops)→is.map (fun i=>ops[i]?)=l.map some→∀ L st g w a,(rk P ops l).run look L st=some p→qy st→B.tv st.nx p.2.nx→er B g st w→di g w nt L a.tmps→Marks B.n0 st.h g w a.defers→wpOpsIn (ee ro) N P ops Q (is++rest) a w:=by
 intro l
 induction l with
 |nil=>
  intro is _ his L st g w a h hlo hn hc hr hdf
  cases is with
  |nil=>cases h;exact hK g w a hc hr hdf
  |cons i is=>cases his
 |cons o l ih=>
  intro is hmem his L st g w a h hlo hn hc hr hdf
  cases is with
  |nil=>cases his
  |cons i is=>
   simp only [List.map_cons,List.cons.injEq] at his
   obtain ⟨hi,his⟩:=his
   have ho:=hmem o (by simp)
   rw [D7] at h
   cases h1:(yw P ops o).run look L st with
   |none=>rw [h1] at h;cases h
   |some q=>
   have hlo':qy q.2:=(Cq (P:=P) hl ops o L).low hlo h1
   have hle1:st.nx≤q.2.nx:=(Cq hl ops o L st q.1 q.2 hlo h1).1
   rw [h1] at h
   simp only at h
   have hle2:q.2.nx≤p.2.nx:=(Hk hl ops l q.1 q.2 p.1 p.2 hlo' h).1
   have h2:=Xb h1
   unfold Cy at h2
   simp only [List.cons_append,wpOpsIn,hi]
   cases hb:wk ops L o with
   |none=>rw [hb] at h2;cases h2
   |some b=>
   rw [hb] at h2
   have hw:Region.wanted o (yielded ops a.tmps)=b:=Gf hr.1 (Bx hg ho) (fun j c _=>hr.2 _) hb
   rw [hw]
   cases b with
   |true=>
    rw [if_pos rfl]
    simp only at h2
    rw [Gy,Mq] at h2
    cases hop:eg P (ru look) o (bo L) st with
    |none=>rw [hop] at h2;cases h2
    |some r=>
     obtain ⟨v,st'⟩:=r
     rw [hop] at h2
     cases h2
     refine C7 hT hc.ok (hc.free (hn.sub (Nat.le_refl _) hle2)) hlo hr.eval hop ro N _ _ ?_
     rintro u w' ⟨g',q1,q2,q3⟩
     exact ih is (fun o ho=>hmem o (by simp [ho])) his _ st' g' w' _ h hlo' (hn.sub hle1 (Nat.le_refl _)) (hc.step (hn.sub (Nat.le_refl _) hle2) ⟨wm hop,q1⟩ q2) ((hr.ext q1.ext).put q3 (s6 hd ho)) (by rw [put_defers];exact hdf.step q1)
   |false=>
    simp only at h2
    cases h2
    rw [if_neg (by simp)]
    refine ⟨lj ro P o a w,?_⟩
    exact ih is (fun o ho=>hmem o (by simp [ho])) his _ st g w _ h hlo hn hc (hr.put (.sc _) (s6 hd ho)) (by rw [put_defers];exact hdf)
theorem ak3 {P:Program} {look:ft} (hT:m5 P (ru look)) (hl:ju look) {ops:Array Oper} {ro:Option Nat} {N:Nat} {B:c9} {nt:Nat} {Q:Exit→Act→World→Prop} (hg:oq nt ops=true) (hd:ti nt ops=true) {p:SL × St}
 (hK:∀ g w (a:Act),er B g p.2 w→di g w nt p.1 a.tmps→Marks B.n0 p.2.h g w a.defers→Q .normal a w) :
 ∀ (l:List Oper) (is:List Nat),(∀ o ∈ l,o ∈ ops)→is.map (fun i=>ops[i]?)=l.map some→∀ L st g w a,(rk P ops l).run look L st=some p→qy st→B.tv st.nx p.2.nx→er B g st w→di g w nt L a.tmps→Marks B.n0 st.h g w a.defers→wpOpsIn (ee ro) N P ops Q is a w:=by
 intro l is h1 h2 L st g w a h3 h4 h5 h6 h7 h8
 rw [show is=is++[] from (List.append_nil is).symm]
 exact aff hT hl hg hd [] (fun g w a h1 h2 h3=>hK g w a h1 h2 h3) l is h1 h2 L st g w a h3 h4 h5 h6 h7 h8
def kl {α β:Type} (X:St→Option (α × β × St)):M (α × β):=fun st=>
 match X st with
 |some q=>some ((q.1,q.2.1),q.2.2)
 |none=>none
theorem z3 {α β:Type} {X:St→Option (α × β × St)} {st:St} {q : α × β × St} (h:X st=some q):kl X st=some ((q.1,q.2.1),q.2.2):=by unfold kl;rw [h]
def Bq {α:Type} (m:M α):M α:=fun st=>bif Nat.ble st.nx be then m st else none
theorem ae.Bq {α:Type} {m:M α} (h:ae m):ae (Vm.Bq m):=fun st a au hl hm=>by
 unfold Vm.Bq at hm
 cases hb:Nat.ble st.nx be with
 |false=>rw [hb] at hm;cases hm
 |true=>
  rw [hb] at hm
  obtain ⟨k1,r,w,k2,k3,k4,k5,k6,k7⟩:=h st a au hl hm
  refine ⟨k1,r,w,k2,k3,k4,k5,k6,fun h' rl' wl' hl' ha=>?_⟩
  obtain ⟨h1',e1,e2⟩:=k7 h' rl' wl' hl' ha
  exact ⟨h1',by unfold Vm.Bq;simp only [hb,cond_true];exact e1,e2⟩
theorem Ie {P:Program} {look:ft} (hl:ju look) (ops:Array Oper):∀ (l:List Oper) (recs:List Rec) (L:SL),ae (kl (oy P look ops l recs L)):=by
 intro l
 induction l with
 |nil=>intro recs L;exact ae.pure (recs,L)
 |cons o l ih=>
  intro recs L
  have e:∀ st,oy P look ops (o::l) recs L st=(match ud ops L o with
   |some true=>
    match rn ((k9 P o).run look (bh o L)) st with
    |some p=>bif Nat.ble p.2.nx be then oy P look ops l (recs++[⟨p.1.2.1,p.1.2.2⟩]) (gi o.dst p.1.1 L) p.2 else none
    |none=>none
   |some false=>oy P look ops l (recs++[⟨[],[]⟩]) (gi o.dst (.sc undef) L) st
   |none=>none):=fun st=>rfl
  cases hg:ud ops L o with
  |none=>exact ae.fail.congr (fun st=>by unfold kl;rw [e,hg];rfl)
  |some b=>
   cases b with
   |false=>exact (ih (recs++[⟨[],[]⟩]) (gi o.dst (.sc undef) L)).congr (fun st=>by unfold kl;rw [e,hg])
   |true=>
    refine (ae.bind (yr (yj (P:=P) hl (o:=o) (ρ:=bh o L))).rn (fun p=>(ih (recs++[⟨p.2.1,p.2.2⟩]) (gi o.dst p.1 L)).Bq)).congr (fun st=>?_)
    unfold kl M.bind
    rw [e,hg]
    simp only
    cases rn ((k9 P o).run look (bh o L)) st with
    |none=>rfl
    |some p=>
     simp only [Bq]
     cases Nat.ble p.2.nx be<;>rfl
theorem amg {P:Program} {look:ft} {ops:Array Oper} {t:Nat}:∀ (l:List Oper) (recs:List Rec) (L:SL) (st:St) (r:List Rec × SL × St),oy P look ops l recs L st=some r→(∀ o ∈ l,o.dst≠some t)→lk r.2.1 t=lk L t:=by
 intro l
 induction l with
 |nil=>intro recs L st r h _;cases h;rfl
 |cons o l ih=>
  intro recs L st r h hn
  change (match ud ops L o with
   |some true=>
    match rn ((k9 P o).run look (bh o L)) st with
    |some p=>bif Nat.ble p.2.nx be then oy P look ops l (recs++[⟨p.1.2.1,p.1.2.2⟩]) (gi o.dst p.1.1 L) p.2 else none
    |none=>none
   |some false=>oy P look ops l (recs++[⟨[],[]⟩]) (gi o.dst (.sc undef) L) st
   |none=>none)=some r at h
  have step:∀ v recs au,oy P look ops l recs (gi o.dst v L) au=some r→lk r.2.1 t=lk L t:=by
   intro v recs au h'
   rw [ih _ _ _ r h' (fun o ho=>hn o (by simp [ho])),On,if_neg (hn o (by simp))]
  split at h
  ·split at h
   ·rename_i p _
    cases hb:Nat.ble p.2.nx be with
    |true=>rw [hb] at h;exact step _ _ _ h
    |false=>rw [hb] at h;cases h
   ·cases h
  ·exact step _ _ _ h
  ·cases h
theorem aj2 {a b a' b':List Nat} (h:lg a b=true) (ha:∀ o ∈ a',o ∈ a) (hb:∀ o ∈ b',o ∈ b):lg a' b'=true:=
 (Be _ _).2 fun o h1 h2=>ui h (ha o h1) (hb o h2)
def vt (a a':Rec):Prop:=(∀ o ∈ a'.W,o ∈ a.W)∧∀ o ∈ a'.R,o ∈ a.R∨o ∈ a.W
theorem ai9 {a b c x y:List Nat} (h1:lg a b=true) (h2:lg a c=true) (hx:∀ o ∈ x,o ∈ a) (hy:∀ o ∈ y,o ∈ b∨o ∈ c):lg x y=true:=
 (Be _ _).2 fun o k1 k2=>(hy o k2).elim (ui h1 (hx o k1)) (ui h2 (hx o k1))
theorem afz {a b c x y:List Nat} (h1:lg b a=true) (h2:lg c a=true) (hx:∀ o ∈ x,o ∈ b∨o ∈ c) (hy:∀ o ∈ y,o ∈ a):lg x y=true:=
 (Be _ _).2 fun o k1 k2=>(hx o k1).elim (fun h=>ui h1 h (hy o k2)) (fun h=>ui h2 h (hy o k2))
theorem Yb {before:Array Nat} {i j:Nat} {a b a' b':Rec} (ha:vt a a') (hb:vt b b') (h:ux before i j a b=true):ux before i j a' b'=true:=by
 unfold ux at h ⊢
 simp only [Bool.or_eq_true,Bool.and_eq_true] at h ⊢
 rcases h with ⟨⟨h1,h2⟩,h3⟩|h
 ·exact .inl ⟨⟨ai9 h1 h2 ha.1 hb.2,aj2 h2 ha.1 hb.1⟩,afz h3 h2 ha.2 hb.1⟩
 ·exact .inr h
theorem Lh {before:Array Nat} {i:Nat} {a a':Rec} (ha:vt a a'):∀ (l l':List Rec) (j:Nat),l.length=l'.length→(∀ (k:Nat) x y,l[k]? = some x→l'[k]? = some y→vt x y)→z0 before i a j l=true→z0 before i a' j l'=true
 | [],[],_,_,_,_=>rfl
 | [],_::_,_,h,_,_=>by simp at h
 |_::_,[],_,h,_,_=>by simp at h
 |x::l,y::l',j,hl,hs,h=>by
  simp only [z0,Bool.and_eq_true] at h ⊢
  exact ⟨Yb ha (hs 0 x y rfl rfl) h.1,Lh ha l l' (j+1) (by simpa using hl) (fun k u v hu hv=>hs (k+1) u v (by simpa using hu) (by simpa using hv)) h.2⟩
theorem Ls {before:Array Nat}:∀ (l l':List Rec) (j:Nat),l.length=l'.length→(∀ (k:Nat) x y,l[k]? = some x→l'[k]? = some y→vt x y)→de before j l=true→de before j l'=true
 | [],[],_,_,_,_=>rfl
 | [],_::_,_,h,_,_=>by simp at h
 |_::_,[],_,h,_,_=>by simp at h
 |x::l,y::l',j,hl,hs,h=>by
  simp only [de,Bool.and_eq_true] at h ⊢
  exact ⟨Lh (hs 0 x y rfl rfl) l l' (j+1) (by simpa using hl) (fun k u v hu hv=>hs (k+1) u v (by simpa using hu) (by simpa using hv)) h.1,Ls l l' (j+1) (by simpa using hl) (fun k u v hu hv=>hs (k+1) u v (by simpa using hu) (by simpa using hv)) h.2⟩
theorem aoc {P:Program} {look:ft} (hl:ju look) {ops:Array Oper} {E:List Rec→Prop} {K:SL→St→Prop}:∀ (l:List Oper) (recs recs':List Rec) (L:SL) (st st':St) (r:List Rec × SL × St),oy P look ops l recs L st=some r→qy st→(∀ o,st'.h.get o=st.h.get o)→st'.nx=st.nx →
 recs.length=recs'.length→(∀ (k:Nat) x y,recs[k]? = some x→recs'[k]? = some y→vt x y)→(∀ l',r.1.length=l'.length→(∀ (k:Nat) x y,r.1[k]? = some x→l'[k]? = some y→vt x y)→E l')→(∀ st2,(∀ o,st2.h.get o=r.2.2.h.get o)→st2.nx=r.2.2.nx→K r.2.1 st2) →
 agq P (ru look) ops E l K recs' L st':=by
 intro l
 induction l with
 |nil=>
  intro recs recs' L st st' r h hlo hh hnx hlen hsub hc hk
  cases h
  exact ⟨hc _ hlen hsub,hk st' hh hnx⟩
 |cons o l ih=>
  intro recs recs' L st st' r h hlo hh hnx hlen hsub hc hk
  change (match ud ops L o with
   |some true=>
    match rn ((k9 P o).run look (bh o L)) st with
    |some p=>bif Nat.ble p.2.nx be then oy P look ops l (recs++[⟨p.1.2.1,p.1.2.2⟩]) (gi o.dst p.1.1 L) p.2 else none
    |none=>none
   |some false=>oy P look ops l (recs++[⟨[],[]⟩]) (gi o.dst (.sc undef) L) st
   |none=>none)=some r at h
  have hsnoc:∀ (a a':Rec),vt a a'→∀ (k:Nat) x y,(recs++[a])[k]? = some x→(recs'++[a'])[k]? = some y→vt x y:=by
   intro a a' ha k x y hx hy
   rcases Nat.lt_trichotomy k recs.length with hk'|hk'|hk'
   ·rw [List.getElem?_append_left hk'] at hx
    rw [List.getElem?_append_left (by omega)] at hy
    exact hsub k x y hx hy
   ·subst hk'
    rw [List.getElem?_append_right (Nat.le_refl _),Nat.sub_self] at hx
    rw [List.getElem?_append_right (by omega),hlen,Nat.sub_self] at hy
    cases hx;cases hy
    exact ha
   ·rw [List.getElem?_eq_none (by simp;omega)] at hx;cases hx
  cases hb:ud ops L o with
  |none=>rw [hb] at h;cases h
  |some b=>
   rw [hb] at h
   cases b with
   |true=>
    refine .inl ⟨hb,?_⟩
    simp only at h
    cases h1:rn ((k9 P o).run look (bh o L)) st with
    |none=>rw [h1] at h;cases h
    |some p=>
    rw [h1] at h
    simp only at h
    rw [Gy] at h1
    have hfr:=(yj (P:=P) hl (o:=o) (ρ:=bh o L))
    have hlo1:qy p.2:=hfr.rn.low hlo h1
    unfold rn at h1
    cases h2:C5 P look o (bh o L) { h:=st.h,nx:=st.nx,rl:=[],wl:=[] } with
    |none=>rw [h2] at h1;cases h1
    |some q=>
    rw [h2] at h1
    cases h1
    obtain ⟨v,au⟩:=q
    simp only at h
    cases hlim:Nat.ble au.nx be with
    |false=>rw [hlim] at h;cases h
    |true=>
    rw [hlim,cond_true] at h
    have hlim:=Nat.le_of_ble_eq_true hlim
    obtain ⟨k1,rr,ww,k2,k3,k4,k5,k6,k7⟩:=hfr { h:=st.h,nx:=st.nx,rl:=[],wl:=[] } v au hlo h2
    rw [List.append_nil] at k2 k3
    simp only at k1 k5 k6 k7
    obtain ⟨F,hF⟩:∃ F,F=(rr++ww).filter (fun o=>decide (o<st.nx)):=⟨_,rfl⟩
    obtain ⟨W,hW⟩:∃ W,W=ww.filter (fun o=>decide (o<st.nx)):=⟨_,rfl⟩
    have mF:∀ o,o ∈ F↔(o ∈ rr∨o ∈ ww)∧o<st.nx:=fun o=>by rw [hF,List.mem_filter,List.mem_append,decide_eq_true_eq]
    have mW:∀ o,o ∈ W↔o ∈ ww∧o<st.nx:=fun o=>by rw [hW];simp
    have hFl:∀ q ∈ F,q≤be:=fun q hq=>by have:=((mF q).1 hq).2;omega
    have hmask:∀ o,(jy st'.h F).get o=if o ∈ F then st'.h.get o else none:=fun o=>pf _ _ _ hFl
    obtain ⟨h1',e1,e2⟩:=k7 (jy st'.h F) [] [] (fun o x hx=>by
     rw [hmask] at hx
     by_cases ho:o ∈ F
     ·exact ((mF o).1 ho).2
     ·rw [if_neg ho] at hx;cases hx) (fun o ho=>by
     rw [hmask]
     by_cases hlt:o<st.nx
     ·rw [if_pos ((mF o).2 ⟨ho,hlt⟩)];exact hh o
     ·rw [if_neg (fun h=>hlt ((mF o).1 h).2)]
      cases hx:st.h.get o with
      |none=>rfl
      |some x=>exact absurd (hlo o x hx) hlt)
    rw [List.append_nil,List.append_nil] at e1
    refine ⟨F,W,v,{ h:=h1',nx:=au.nx,rl:=rr,wl:=ww },?_,fun q hq=>(mF q).2 ⟨.inr ((mW q).1 hq).1,((mW q).1 hq).2⟩,fun q hq hqn=>?_,fun q hq=>by rw [hnx];exact ((mF q).1 hq).2,hlim,?_⟩
    ·rw [← Mq,hnx];exact e1
    ·simp only
     rw [e2,if_neg (fun h=>hqn ((mW q).2 ⟨h,((mF q).1 hq).2⟩))]
    ·have fp:∀ q ∈ F++cr st'.nx (au.nx - st'.nx),q≤be:=fun q hq=>by
      rcases List.mem_append.1 hq with hq|hq
      ·exact hFl q hq
      ·rw [g7] at hq;omega
     refine ih _ _ _ _ _ r h hlo1 (fun q=>?_) rfl (by simp [hlen]) (hsnoc _ _ ⟨fun q hq=>?_,fun q hq=>?_⟩) hc hk
     ·simp only
      rw [nk _ _ _ _ fp]
      by_cases hq:q ∈ F++cr st'.nx (au.nx - st'.nx)
      ·rw [if_pos hq,e2]
       by_cases hw:q ∈ ww
       ·rw [if_pos hw]
       ·rw [if_neg hw,hmask]
        have hqF:q ∈ F:=by
         rcases List.mem_append.1 hq with hq|hq
         ·exact hq
         ·rw [g7] at hq
          exact absurd (k5 q (by omega) (by omega)) hw
        rw [if_pos hqF,hh q]
        exact (k6 q hw).symm
      ·rw [if_neg hq]
       have hw:q ∉ ww:=fun hw=>hq (by
        rcases Nat.lt_or_ge q st.nx with h9|h9
        ·exact List.mem_append.2 (.inl ((mF q).2 ⟨.inr hw,h9⟩))
        ·refine List.mem_append.2 (.inr ?_)
         rw [g7]
         have:=k4 q hw
         omega)
       rw [hh q]
       exact (k6 q hw).symm
     ·simp only [k3]
      rcases List.mem_append.1 hq with hq|hq
      ·exact ((mW q).1 hq).1
      ·rw [g7] at hq
       simp only at hq
       exact k5 q (by omega) (by omega)
     ·simp only [k2,k3]
      exact ((mF q).1 hq).1
   |false=>
    refine .inr ⟨hb,?_⟩
    simp only at h
    exact ih _ _ _ _ _ r h hlo hh hnx (by simp [hlen]) (hsnoc _ _ ⟨fun o ho=>ho,fun o ho=>.inl ho⟩) hc hk
abbrev XR:=Ex × SL × St
structure XC where
 run:ft→Nat→SL→St→Option XR
def z8 (P:Program) (ex:Nat) (ops:Array Oper) (draw:Bool):XC:=
 match draw with
 |false=>⟨fun look _ L st=>
  match (rk P ops ops.toList).run look L st with
  |some p=>some (.normal,pa (mn ex ops) p.1 L,p.2)
  |none=>none⟩
 |true=>⟨fun look _ L st=>
  bif l5 ops then
   match oy P look ops ops.toList [] L st with
   |some r=>bif de (Region.before ops) 0 r.1 then (match ow P ops r.1 r.2.1 r.2.2 with|some u=>some (.normal,pa (mn ex ops) r.2.1 L,u.2)|none=>none) else none
   |none=>none
  else none⟩
def D1 (B:SL→St→Option XR) (r:Option XR):Option XR:=
 match r with
 |some p=>
  match p.1 with
  |.normal=>B p.2.1 p.2.2
  |e=>some (e,p.2.1,p.2.2)
 |none=>none
def A2 (id:Nat) (e:Ex):Ex:=
 match e with
 |.exit j=>bif Nat.beq j id then .normal else .exit j
 |e=>e
def N2 (B:SL→St→Option XR) (n:Nat):SL→St→Option XR:=
 Nat.rec (motive:=fun _=>SL→St→Option XR) (fun _ _=>none) (fun _ ih L st=>D1 ih (B (m6 L 0) st)) n
abbrev ue:=Ex × Option Ex × SL × St
abbrev RX:=List AV→St→Option (Ex × St)
def Jl (y:Nat) (o:Oper) (L:SL):Option (Array Operand):=
 match o.op with
 |.call { callee:=.value f,args,.. }=>
  match bo L f with
  |.yl k=>bif Nat.beq k y then some args else none
  |_=>none
 |_=>none
def so (P:Program) (look:ft) (ops:Array Oper) (y:Nat) (R:RX) (o:Oper) (pe:Option Ex) (L:SL) (st:St):Option (Option Ex × SL × St):=
 match wk ops L o with
 |some true=>
  match Jl y o L with
  |some args=>
   match pe with
   |none=>
    match R (args.toList.map (bo L)) st with
    |some q=>some (Kn q.1,gi o.dst (.sc (.bool (uz q.1))) L,q.2)
    |none=>none
   |some _=>none
  |none=>
   match (k9 P o).run look (bo L) st with
   |some (v,st')=>some (pe,gi o.dst v L,st')
   |none=>none
 |some false=>some (pe,gi o.dst (.sc undef) L,st)
 |none=>none
structure XIO where
 run:ft→Nat→RX→Option Ex→SL→St→Option (Option Ex × SL × St)
def qc (P:Program) (ops:Array Oper) (l:List Oper):XIO:=
 List.rec (motive:=fun _=>XIO) ⟨fun _ _ _ pe L st=>some (pe,L,st)⟩ (fun o _ ih=>⟨fun look y R pe L st=>
  match so P look ops y R o pe L st with
  |some p=>ih.run look y R p.1 p.2.1 p.2.2
  |none=>none⟩) l
structure XIC where
 run:ft→Nat→Nat→RX→Option Ex→SL→St→Option ue
def asx (P:Program) (ex:Nat) (ops:Array Oper) (draw:Bool):XIC:=
 match draw with
 |false=>⟨fun look _ y R pe L st=>
  match (qc P ops ops.toList).run look y R pe L st with
  |some p=>some (.normal,p.1,pa (mn ex ops) p.2.1 L,p.2.2)
  |none=>none⟩
 |true=>⟨fun look n _ _ pe L st=>
  match (z8 P ex ops true).run look n L st with
  |some q=>some (q.1,pe,q.2.1,q.2.2)
  |none=>none⟩
def Dm (B:Option Ex→SL→St→Option ue) (r:Option ue):Option ue:=
 match r with
 |some p=>
  match p.1 with
  |.normal=>B p.2.1 p.2.2.1 p.2.2.2
  |e=>some (e,p.2)
 |none=>none
def N8 (B:Option Ex→SL→St→Option ue) (n:Nat):Option Ex→SL→St→Option ue:=
 Nat.rec (motive:=fun _=>Option Ex→SL→St→Option ue) (fun _ _ _=>none) (fun _ ih pe L st=>Dm ih (B pe (m6 L 0) st)) n
def lq (P:Program) (ex:Nat) (c:Code):XIC:=
 Code.rec (motive:=fun _=>XIC)
  ⟨fun _ _ _ _ pe L st=>some (.normal,pe,L,st)⟩
  (fun _ ops draw=>asx P ex ops draw)
  (fun _ _ A B=>⟨fun look n y R pe L st=>Dm (B.run look n y R) (A.run look n y R pe L st)⟩)
  (fun c _ _ A B=>⟨fun look n y R pe L st=>
   match (bo L c).bool with
   |some b=>bif b then A.run look n y R pe L st else B.run look n y R pe L st
   |none=>none⟩)
  (fun id _ B=>⟨fun look n y R pe L st=>
   match B.run look n y R pe L st with
   |some p=>some (A2 id p.1,p.2)
   |none=>none⟩)
  (fun _ B=>⟨fun look n y R pe L st=>N8 (B.run look n y R) n pe L st⟩)
  (fun _ _ _ _ _ _=>⟨fun _ _ _ _ _ _ _=>none⟩)
  (fun id=>⟨fun _ _ _ _ pe L st=>some (.exit id,pe,L,st)⟩)
  (fun _ _=>⟨fun _ _ _ _ _ _ _=>none⟩)
  (fun _=>⟨fun _ _ _ _ pe L st=>some (.normal,pe,L,st)⟩)
  (fun _=>⟨fun _ _ _ _ _ _ _=>none⟩)
  ⟨fun _ _ _ _ pe L st=>some (.ret,pe,L,st)⟩
  (fun _=>⟨fun _ _ _ _ _ _ _=>none⟩)
  c
def apt (ops:Array Oper) (o:Oper):List Nat:=
 (o.op.operands.toList.filterMap fun x=>match x with|.tmp u=>some u|_=>none)++(match o.guard with|some (j,_)=>[tw ops j]|none=>[])
def am6 (seen:Nat) (l:List Nat) (s:Nat):Nat:=List.rec (motive:=fun _=>Nat→Nat) (fun s=>s) (fun t _ ih s=>ih (bif hasB seen t then s else Jh s t)) l s
def aod (ops:Array Oper) (l:List Oper) (seen s:Nat):Nat:=
 List.rec (motive:=fun _=>Nat→Nat→Nat) (fun _ s=>s) (fun o _ ih seen s=>ih (match o.dst with|some d=>Jh seen d|none=>seen) (am6 seen (apt ops o) s)) l seen s
def ard (c:Operand) (s:Nat):Nat:=match c with|.tmp t=>Jh s t|_=>s
def nv (c:Code):Nat→Nat:=
 Code.rec (motive:=fun _=>Nat→Nat) (fun s=>s) (fun _ ops _ s=>aod ops ops.toList 0 s) (fun _ _ A B s=>B (A s))
  (fun c _ _ A B s=>B (A (ard c s))) (fun _ _ B=>B) (fun _ B=>B) (fun f _ _ _ A B s=>B (A (ard f s))) (fun _ s=>s) (fun _ B=>B) (fun _ s=>s) (fun _ s=>s) (fun s=>s) (fun _ s=>s) c
def at0 (l:List ResultVar) (s:Nat):Nat:=List.rec (motive:=fun _=>Nat→Nat) (fun s=>s) (fun r _ ih s=>ih (Jh s (match r with|.tmp t=>t|.cell a _=>a))) l s
def su (ex:Nat) (L:SL):SL:=List.rec (motive:=fun _=>SL) [] (fun p _ ih=>bif hasB ex p.1 then p::ih else ih) L
def Rw (ex:Nat) (ps:List Tmp):List AV→SL→SL:=
 List.rec (motive:=fun _=>List AV→SL→SL) (fun _ L=>L) (fun t _ ih vs L=>
  match vs with
  |v::vs=>ih vs (bif hasB ex t then (t,v)::L else L)
  | []=>L) ps
structure XIF where
 ok:Bool
 nt:Nat
 run:ft→Nat→Nat→RX→List AV→St→Option ue
def yh (P:Program) (g:Nat):XIF:=
 match z5 P g with
 |some q=>⟨true,q.1,fun look n y R args st=>(lq P (nv q.2 0) q.2).run look n y R none (su (nv q.2 0) (cq 0 args)) st⟩
 |none=>⟨false,0,fun _ _ _ _ _ _=>none⟩
def te (ex:Nat) (A B:SL→St→Option XR) (ps:List Tmp) (L:SL):RX:=fun args st=>
 bif Nat.beq args.length ps.length then
  match A (Rw ex ps args L) st with
  |some p=>
   match p.1 with
   |.normal=>
    match B p.2.1 p.2.2 with
    |some q=>some (q.1,q.2.2)
    |none=>none
   |_=>none
  |none=>none
 else none
def au2 (L:SL) (r:Option ue):Option XR:=
 match r with
 |some q=>
  match q.1 with
  |.exit _=>none
  |_=>
   match q.2.1 with
   |none=>some (.normal,L,q.2.2.2)
   |some e=>some (e,L,q.2.2.2)
 |none=>none
def ad7:M Nat:=fun st=>some (st.nx,{ h:=st.h,nx:=st.nx+1,rl:=st.rl,wl:=st.nx::st.wl })
def sy (P:Program) (ex:Nat) (look:ft) (n:Nat) (f:Operand) (ps:List Tmp) (A B:SL→St→Option XR) (L:SL) (st:St):Option XR:=
 match wa (bo L f) with
 |some q=>
  bif (yh P q.1).ok && Nat.ble (q.2.length+1) (yh P q.1).nt then
   au2 L ((yh P q.1).run look n st.nx (te ex A B ps L) (.yl st.nx::q.2) { h:=st.h,nx:=st.nx+1,rl:=st.rl,wl:=st.nx::st.wl })
  else none
 |none=>none
def oz (P:Program) (ex:Nat) (c:Code):XC:=
 Code.rec (motive:=fun _=>XC)
  ⟨fun _ _ L st=>some (.normal,L,st)⟩
  (fun _ ops draw=>z8 P ex ops draw)
  (fun _ _ A B=>⟨fun look n L st=>D1 (B.run look n) (A.run look n L st)⟩)
  (fun c _ _ A B=>⟨fun look n L st=>
   match (bo L c).bool with
   |some b=>bif b then A.run look n L st else B.run look n L st
   |none=>none⟩)
  (fun id _ B=>⟨fun look n L st=>
   match B.run look n L st with
   |some p=>some (A2 id p.1,p.2.1,p.2.2)
   |none=>none⟩)
  (fun _ B=>⟨fun look n L st=>N2 (B.run look n) n L st⟩)
  (fun f ps _ _ A B=>⟨fun look n L st=>sy P ex look n f ps.toList (A.run look n) (B.run look n) L st⟩)
  (fun id=>⟨fun _ _ L st=>some (.exit id,L,st)⟩)
  (fun _ B=>B)
  (fun _=>⟨fun _ _ L st=>some (.normal,L,st)⟩)
  (fun _=>⟨fun _ _ _ _=>none⟩)
  ⟨fun _ _ L st=>some (.ret,L,st)⟩
  (fun _=>⟨fun _ _ _ _=>none⟩)
  c
theorem Ba {B:SL→St→Option XR} {r:Option XR} {q:XR} (h:D1 B r=some q):(∃ L st,r=some (.normal,L,st)∧B L st=some q)∨(r=some q∧q.1 ≠ .normal):=by
 unfold D1 at h
 cases r with
 |none=>cases h
 |some p=>
  obtain ⟨e,L,st⟩:=p
  simp only at h
  cases e with
  |normal=>exact .inl ⟨L,st,rfl,h⟩
  |exit id=>cases h;exact .inr ⟨rfl,fun h=>by cases h⟩
  |ret=>cases h;exact .inr ⟨rfl,fun h=>by cases h⟩
def w7 (X:St→Option XR):M (Ex × SL):=kl X
theorem Ic {X:St→Option XR} {B:SL→St→Option XR} (hX:ae (w7 X)) (hB:∀ L,ae (w7 (B L))):ae (w7 fun st=>D1 B (X st)):=by
 refine (ae.bind hX (fun p:Ex × SL=>(?_:ae (match p.1 with|.normal=>w7 (B p.2)|e=>M.pure (e,p.2))))).congr (fun st=>?_)
 ·split
  ·exact hB _
  ·exact ae.pure _
 ·unfold w7 kl M.bind D1
  dsimp only
  cases X st with
  |none=>rfl
  |some q=>
   obtain ⟨e,L,au⟩:=q
   cases e<;>rfl
theorem Vh {P:Program} (ops:Array Oper) (recs:List Rec) (L:SL):ae (ow P ops recs L):=by
 unfold ow Zj ai2
 repeat' (first|exact ae.pure _|exact ae.fail|exact ae.bq _|exact ae.eu _ _|apply ae.cond|(refine ae.bind ?_ fun x=>?_)|split)
theorem J9 {P:Program} {look:ft} (hl:ju look) (ex:Nat) (ops:Array Oper) (draw:Bool) (n:Nat) (L:SL):ae (w7 ((z8 P ex ops draw).run look n L)):=by
 cases draw with
 |false=>
  refine (ae.bind (Hk (P:=P) hl ops ops.toList L) (fun L'=>ae.pure (Ex.normal,pa (mn ex ops) L' L))).congr (fun st=>?_)
  show kl (fun st=>match (rk P ops ops.toList).run look L st with
  |some p=>some (Ex.normal,pa (mn ex ops) p.1 L,p.2)
  |none=>none) st=_
  unfold kl M.bind
  simp only
  cases (rk P ops ops.toList).run look L st<;>rfl
 |true=>
  cases h0:l5 ops with
  |false=>
   refine ae.fail.congr (fun st=>?_)
   show kl (fun st=>bif l5 ops then _ else none) st=_
   unfold kl
   rw [h0];rfl
  |true=>
   refine (ae.bind (Ie (P:=P) hl ops ops.toList [] L) (fun p=>(?_:ae (bif de (Region.before ops) 0 p.1 then (ow P ops p.1 p.2).bind (fun _=>M.pure (Ex.normal,pa (mn ex ops) p.2 L)) else M.fail)))).congr (fun st=>?_)
   ·exact ae.cond (ae.bind (Vh _ _ _) (fun _=>ae.pure _)) ae.fail
   ·show kl (fun st=>bif l5 ops then
     match oy P look ops ops.toList [] L st with
     |some r=>bif de (Region.before ops) 0 r.1 then (match ow P ops r.1 r.2.1 r.2.2 with|some u=>some (Ex.normal,pa (mn ex ops) r.2.1 L,u.2)|none=>none) else none
     |none=>none
    else none) st=_
    unfold kl M.bind
    rw [h0]
    simp only [cond_true]
    cases oy P look ops ops.toList [] L st with
    |none=>rfl
    |some r=>
     simp only
     cases de (Region.before ops) 0 r.1 with
     |false=>rfl
     |true=>
      show _=M.bind (ow P ops r.1 r.2.1) (fun _=>M.pure (Ex.normal,pa (mn ex ops) r.2.1 L)) r.2.2
      unfold M.bind
      simp only [cond_true]
      cases ow P ops r.1 r.2.1 r.2.2<;>rfl
theorem Cj {X:SL→St→Option XR} (h:∀ L,ae (w7 (X L))):∀ (n:Nat) (L:SL),ae (w7 (N2 X n L))
 |0,_L=>ae.fail.congr (fun _st=>rfl)
 |n+1,L=>(Ic (h (m6 L 0)) (Cj h n)).congr (fun _st=>rfl)
theorem xz {P:Program} {ex:Nat} {ops:Array Oper} {draw:Bool} {look:ft} {n:Nat} {L:SL} {st:St} {q:XR} (h:(z8 P ex ops draw).run look n L st=some q) (hw:ly ex L) :
 q.1 = .normal∧ly ex q.2.1∧∃ L1,Rr q.2.1 L1∧match draw with
  |false=>(rk P ops ops.toList).run look L st=some (L1,q.2.2)
  |true=>l5 ops=true∧∃ recs st2 u,oy P look ops ops.toList [] L st=some (recs,L1,st2)∧ow P ops recs L1 st2=some (u,q.2.2)∧de (Region.before ops) 0 recs=true:=by
 cases draw with
 |false=>
  change (match (rk P ops ops.toList).run look L st with
  |some p=>some (Ex.normal,pa (mn ex ops) p.1 L,p.2)
  |none=>none)=some q at h
  cases h1:(rk P ops ops.toList).run look L st with
  |none=>rw [h1] at h;cases h
  |some p=>
   rw [h1] at h
   cases h
   have:=Ac hw (fun t ht=>ak1 (t:=t) _ _ _ _ h1 ht)
   exact ⟨rfl,this.2,p.1,this.1,rfl⟩
 |true=>
  change (bif l5 ops then
   match oy P look ops ops.toList [] L st with
   |some r=>bif de (Region.before ops) 0 r.1 then (match ow P ops r.1 r.2.1 r.2.2 with|some u=>some (Ex.normal,pa (mn ex ops) r.2.1 L,u.2)|none=>none) else none
   |none=>none
  else none)=some q at h
  cases h0:l5 ops with
  |false=>rw [h0] at h;cases h
  |true=>
   rw [h0,cond_true] at h
   cases h1:oy P look ops ops.toList [] L st with
   |none=>rw [h1] at h;cases h
   |some r=>
    rw [h1] at h
    simp only at h
    cases h2:de (Region.before ops) 0 r.1 with
    |false=>rw [h2] at h;cases h
    |true=>
     rw [h2,cond_true] at h
     cases h3:ow P ops r.1 r.2.1 r.2.2 with
     |none=>rw [h3] at h;cases h
     |some u=>
     rw [h3] at h
     cases h
     have:=Ac hw (fun t ht=>amg (t:=t) _ _ _ _ _ h1 ht)
     exact ⟨rfl,this.2,r.2.1,this.1,rfl,r.1,r.2.2,u.1,rfl,h3,h2⟩
theorem Me:∀ {l:List Oper},Jb l=none→∀ o ∈ l,sm o=false
 | [],_,o,ho=>by cases ho
 |a::l,h,o,ho=>by
  change (bif sm a then some a else Jb l)=none at h
  cases ha:sm a with
  |true=>rw [ha] at h;cases h
  |false=>
   rw [ha,cond_false] at h
   rcases List.mem_cons.1 ho with rfl|ho
   ·exact ha
   ·exact Me h o ho
theorem Gm {f:Nat→Oper→Option Lit} (hf:∀ i o q,f i o=some q→q.i=i):∀ (l:List Oper) (n:Nat) (lits:List Lit),Fy f l n=some lits →
 (∀ q ∈ lits,∃ j o,l[j]? = some o∧q.i=n+j∧f q.i o=some q)∧(∀ j o,l[j]? = some o→sm o=true→∃ q ∈ lits,q.i=n+j)∧(lits.map (·.i)).Nodup
 | [],n,lits,h=>by cases h;exact ⟨fun q hq=>(by cases hq),fun j o hj=>(by simp at hj),List.nodup_nil⟩
 |a::l,n,lits,h=>by
  unfold Fy at h
  cases ha:sm a with
  |true=>
   rw [ha,cond_true] at h
   split at h
   ·rename_i q l' hq hl'
    cases h
    obtain ⟨h1,h2,h3⟩:=Gm hf l (n+1) l' hl'
    have hqi:=hf _ _ _ hq
    refine ⟨fun r hr=>?_,fun j o hj ho=>?_,?_⟩
    ·rcases List.mem_cons.1 hr with rfl|hr
     ·exact ⟨0,a,rfl,by omega,by rw [hqi];exact hq⟩
     ·obtain ⟨j,o,q1,q2,q3⟩:=h1 r hr
      exact ⟨j+1,o,by simpa using q1,by omega,q3⟩
    ·cases j with
     |zero=>exact ⟨q,by simp,by omega⟩
     |succ j=>
      obtain ⟨r,r1,r2⟩:=h2 j o (by simpa using hj) ho
      exact ⟨r,by simp [r1],by omega⟩
    ·rw [List.map_cons,List.nodup_cons]
     refine ⟨fun hm=>?_,h3⟩
     obtain ⟨r,r1,r2⟩:=List.mem_map.1 hm
     obtain ⟨j,o,q1,q2,q3⟩:=h1 r r1
     omega
   ·cases h
  |false=>
   rw [ha,cond_false] at h
   obtain ⟨h1,h2,h3⟩:=Gm hf l (n+1) lits h
   refine ⟨fun r hr=>?_,fun j o hj ho=>?_,h3⟩
   ·obtain ⟨j,o,q1,q2,q3⟩:=h1 r hr
    exact ⟨j+1,o,by simpa using q1,by omega,q3⟩
   ·cases j with
    |zero=>simp at hj;subst hj;rw [ha] at ho;cases ho
    |succ j=>
     obtain ⟨r,r1,r2⟩:=h2 j o (by simpa using hj) ho
     exact ⟨r,r1,by omega⟩
theorem N6 {P:Program} {ops:Array Oper} {L:SL} {p k0 i:Nat} {o:Oper} {q:Lit} (h:Kz P ops L p k0 i o=some q) :
 ∃ t m k x kt et,o.op = .insert t m k x∧o.dst=none∧o.guard=none∧P.underlying t=some (.map kt et)∧P.underlying kt=some q.d∧bo L m = .mp p∧(bo L k).fh=some q.e.1∧ev P (Instr.checkKey false 10000 kt q.e.1)=some ()∧bo L x=q.e.2∧q.i=i∧((Region.before ops).getD i 0).testBit k0=true∧Qq ops i o=true:=by
 unfold Kz at h
 split at h
 ·rename_i t m k x h1 h2 h3
  split at h
  ·rename_i kt et h4
   split at h
   ·rename_i d key h5 h6
    split at h
    ·rename_i u h7
     cases hb:((amm p (bo L m) && ((Region.before ops).getD i 0).testBit k0) && Qq ops i o) with
     |false=>rw [hb] at h;cases h
     |true=>
      rw [hb] at h
      cases h
      simp only [Bool.and_eq_true] at hb
      have hmp:bo L m = .mp p:=by
       have:=hb.1.1
       unfold amm at this
       split at this
       ·rename_i r he;rw [he,Nat.eq_of_beq_eq_true this]
       ·cases this
      exact ⟨t,m,k,x,kt,et,h1,h2,h3,h4,h5,hmp,h6,h7,rfl,rfl,hb.1.2,hb.2⟩
    ·cases h
   ·cases h
  ·cases h
 ·cases h
theorem Uy {ds:List DS} {L0:SL} {D:Nat→Bool} {i t:Nat}:∀ m,i≤m→(∀ k e,i≤k→ds[k]? = some e→e.o.dst≠some t)→jv ds L0 D m t=jv ds L0 D i t
 |0,h,_=>by rw [show i=0 from by omega]
 |m+1,h,hn=>by
  by_cases e:i=m+1
  ·rw [e]
  ·have ih:=Uy (L0:=L0) (D:=D) m (by omega) hn
   rw [jv]
   cases hd:ds[m]? with
   |none=>exact ih
   |some d=>
    simp only
    rw [if_neg (fun q=>hn m d (by omega) hd q.2),ih]
theorem Mz {P:Program} {T:dm} {ops:Array Oper} {ds:List DS} {L0:SL} {st0:St} {L':SL} {st':St} (R:sr P T ops ds L0 st0 L' st') {i:Nat} {d:DS} (hi:ds[i]? = some d) (hl:Qq ops i d.o=true) {y:Operand} (hy:y ∈ d.o.op.operands):bh d.o d.L y=bo L' y:=by
 cases y with
 |tmp t=>
  have hany:K1 d.o t=true:=by
   unfold K1
   rw [Array.any_eq_true']
   exact ⟨_,hy,by simp⟩
  show (bif K1 d.o t then lk d.L t else .bad)=lk L' t
  rw [hany,cond_true,(R.s8 i d hi).1 t,R.fin.1 t,Uy (i:=i) ds.length (Nat.le_of_lt (List.getElem?_eq_some_iff.1 hi).1) (fun k e hik hk he=>?_)]
  have hz:(e.o,k) ∈ ops.toList.zipIdx:=by rw [List.mem_zipIdx_iff_getElem?,← R.os];simp [hk]
  have:=List.all_eq_true.1 hl _ hz
  simp only [he,hany,Bool.not_true,Bool.or_false,Nat.blt_eq] at this
  omega
 |const v=>rfl
 |global g=>rfl
 |func f=>rfl
theorem adh {p:Nat}:∀ {l:List Rec} {i k:Nat},Rj p l i=some k→i≤k∧k<i+l.length
 | [],_,_,h=>by cases h
 |a::l,i,k,h=>by
  unfold Rj at h
  cases hb:vn p a.W with
  |true=>rw [hb] at h;cases h;simp
  |false=>
   rw [hb,cond_false] at h
   have:=adh h
   simp only [List.length_cons]
   omega
theorem abu {P:Program} {ops:Array Oper} {recs:List Rec} {L:SL} {st2 stF:St} {u:Unit} (h:ow P ops recs L st2=some (u,stF)):(Jb ops.toList=none∧stF=st2) ∨
 ∃ p k0 lits,Rj p recs 0=some k0∧Fy (Kz P ops L p k0) ops.toList 0=some lits∧V8 ops recs p k0 lits=true∧st2.h.get p=some (.map [])∧stF.h=st2.h.set depth p (some (.map (lits.map (·.e))))∧stF.nx=st2.nx:=by
 cases hins:Jb ops.toList with
 |none=>
  simp only [ow,hins] at h
  cases h
  exact .inl ⟨rfl,rfl⟩
 |some o=>
  refine .inr ?_
  cases hop:o.op with
  |insert t m k x=>
   cases hmp:bo L m with
   |mp p=>
    simp only [ow,hins,hop,hmp,Zj] at h
    cases hk:Rj p recs 0 with
    |none=>rw [hk] at h;cases h
    |some k0=>
    rw [hk] at h
    simp only at h
    cases hq:Fy (Kz P ops L p k0) ops.toList 0 with
    |none=>rw [hq] at h;cases h
    |some lits=>
    rw [hq] at h
    simp only at h
    cases hb:V8 ops recs p k0 lits with
    |false=>rw [hb] at h;cases h
    |true=>
    rw [hb,cond_true] at h
    obtain ⟨x,s1,g1,g2⟩:=bind_some h
    obtain ⟨hx,hs1,hn1⟩:=fq g1
    cases x with
    |map es=>
     cases es with
     |nil=>
      change eu p (.map (lits.map (·.e))) s1=some (u,stF) at g2
      obtain ⟨_,_,hF,hnF⟩:=ug g2
      exact ⟨p,k0,lits,hk,hq,hb,hx,by rw [hF,hs1],by rw [hnF,hn1]⟩
     |cons e es=>cases g2
    |row cells k st et=>cases g2
    |loop=>cases g2
   |_=>simp only [ow,hins,hop,hmp] at h;cases h
  |_=>simp only [ow,hins,hop] at h;cases h
theorem aq8 {P:Program} {look:ft} (hT:m5 P (ru look)) (hl:ju look) (hm:P.follows .mixedOrders=true) {id:Nat} {ops:Array Oper} {ro:Option Nat} {N:Nat} {B:c9} {nt:Nat} (hg:oq nt ops=true) (hdst:ti nt ops=true) (h0:l5 ops=true) {L L1:SL} {st st2 stF:St} {u:Unit} {recs:List Rec} {g:Gh} {w:World} {a:Act} {Q:Exit→Act→World→Prop}
 (h1:oy P look ops ops.toList [] L st=some (recs,L1,st2)) (h3:ow P ops recs L1 st2=some (u,stF)) (h2:de (Region.before ops) 0 recs=true) (hlo:qy st) (hn:B.tv st.nx stF.nx) (hc:er B g st w) (hr:di g w nt L a.tmps) (hd:Marks B.n0 st.h g w a.defers)
 (hK:∀ g w a',er B g stF w→di g w nt L1 a'.tmps→Marks B.n0 stF.h g w a'.defers→a'.defers=a.defers→Q .normal a' w):(Code.region id ops true).wpIn (ee ro) N P Q a w:=by
 have hy:=aoc (E:=fun l'=>de (Region.before ops) 0 l'=true∧recs.length=l'.length∧∀ (k:Nat) x y,recs[k]? = some x→l'[k]? = some y→vt x y) (K:=fun L2 s=>L2=L1∧(∀ o,s.h.get o=st2.h.get o)∧s.nx=st2.nx) hl ops.toList [] [] L st st (recs,L1,st2) h1 hlo (fun _=>rfl) rfl rfl (fun k x y hx=>by simp at hx) (fun l' hl hs=>⟨Ls _ _ 0 hl hs h2,hl,hs⟩) (fun s k1 k2=>⟨rfl,k1,k2⟩)
 obtain ⟨ds,L',st',e1,e2,e3,⟨e4,e5,e6⟩,rfl,e8,e9⟩:=ams _ _ _ _ hy
 rw [List.nil_append] at e4 e5 e6
 have R:=amo h0 e1 (fun d hd=>(e2 d hd).1) e3
 have C:=aq2 e4
 have hgY:∀ d ∈ ds,ud ops d.L d.o=some d.want:=fun d hd=>(e2 d hd).2
 have hlo2:qy st2:=(Ie (P:=P) hl ops ops.toList [] L).low hlo (show kl (oy P look ops ops.toList [] L) st=some ((recs,L'),st2) from by unfold kl;rw [h1])
 rcases abu h3 with ⟨hins,rfl⟩|⟨p,k0,lits,hk0,hlits,hb,hx,hF,hnF⟩
 ·refine Th hm (H:=fun D o=>jg ds st.h D ds.length o) (stF:=stF) R (fun o=>Ds _) (fun D hD o=>by rw [F7 _ hD,← R.fin.2.1 o,e8]) e9.symm (fun w0 D a' w' i d Q K hi hD hrd A hK=>?_) (by rw [e9];exact hn) hc hr hd hK
  have hmem:=List.mem_of_getElem? hi
  have hni:sm d.o=false:=Me hins d.o (by rw [← e1];exact List.mem_map_of_mem hmem)
  have hgv:=hgY d hmem
  unfold ud at hgv
  rw [hni] at hgv
  exact At.step hT R hg hdst hi hgv (Bt R C hi hD A.closed hrd).1 (Bt R C hi hD A.closed hrd).2 hD hrd A hK
 ·obtain ⟨s1',s2',s3'⟩:=Gm (f:=Kz P ops L' p k0) (fun i o q h=>by
   obtain ⟨_,_,_,_,_,_,_,_,_,_,_,_,_,_,_,h,_⟩:=N6 h
   exact h) _ _ _ hlits
  simp only [V8,Bool.and_eq_true,List.all_eq_true] at hb
  obtain ⟨⟨b1,b2⟩,b3,b4⟩:=hb
  have hplim:p≤be:=Nat.le_of_ble_eq_true b2
  have hlen:ds.length=recs.length:=by rw [e5];simp
  have hk0l:=adh hk0
  obtain ⟨d0,hd0⟩:∃ d0,ds[k0]? = some d0:=⟨ds[k0]'(by omega),by simp⟩
  refine alp hT hm hg hdst R C hgY (p:=p) (k0:=k0) (lits:=lits) ⟨s3',fun q hq r hr hne=>?_⟩ (fun q hq=>?_) (fun i d hi hins=>?_) hd0 ?_ (fun k e hk hne=>?_) (by rw [e8];exact hx) (by rw [e9];exact hlo2 p _ hx) hplim (fun o=>?_) (by rw [hnF,e9]) (by rw [e9,← hnF];exact hn) hc hr hd hK
  ·have:=b1 q hq r hr
   simp only [Bool.or_eq_true,Bool.and_eq_true] at this
   rcases this with h|h
   ·exact absurd (Nat.eq_of_beq_eq_true h) hne
   ·refine ⟨h.1,?_⟩
    have:=h.2
    unfold isFalse at this
    split at this
    ·assumption
    ·cases this
  ·obtain ⟨j,o,q1,q2,q3⟩:=s1' q hq
   rw [Nat.zero_add] at q2
   subst q2
   obtain ⟨t,m,k,x,kt,et,a1,a2,a3,a4,a5,a6,a7,a8,a9,_,a11,a12⟩:=N6 q3
   obtain ⟨d,hd⟩:∃ d,ds[q.i]? = some d:=⟨ds[q.i]'(by rw [R.len];simpa using (List.getElem?_eq_some_iff.1 q1).1),by simp⟩
   have hdo:d.o=o:=by
    have:=R.get hd
    rw [← Array.getElem?_toList,q1] at this
    cases this;rfl
   subst hdo
   have hin:∀ y,y=m∨y=k∨y=x→y ∈ d.o.op.operands:=fun y hy=>by
    rw [a1]
    rcases hy with rfl|rfl|rfl<;>simp [Op.operands]
   exact ⟨⟨d,hd,t,m,k,x,kt,et,a1,a2,a3,a4,a5,by rw [Mz R hd a12 (hin m (.inl rfl))];exact a6,by rw [Mz R hd a12 (hin k (.inr (.inl rfl)))];exact a7,a8,by rw [Mz R hd a12 (hin x (.inr (.inr rfl)))];exact a9⟩,a11⟩
  ·obtain ⟨q,hq,h⟩:=s2' i d.o (by rw [← e1];simp [hi]) hins
   exact ⟨q,hq,by omega⟩
  ·rw [R.get hd0] at b4
   simpa using b4
  ·have hrk:∃ r,recs[k]? = some r:=⟨recs[k]'(by have:=(List.getElem?_eq_some_iff.1 hk).1;omega),by simp⟩
   obtain ⟨r,hrk⟩:=hrk
   have h5:=b3 (r,k) (by rw [List.mem_zipIdx_iff_getElem?];simpa using hrk)
   simp only [Bool.or_eq_true,Bool.and_eq_true,Bool.not_eq_true'] at h5
   rcases h5 with h5|h5
   ·exact absurd (Nat.eq_of_beq_eq_true h5) hne
   ·have hsr:=e6 k r ⟨e.R,e.W⟩ hrk (by simp [hk])
    have n1:p ∉ r.R:=fun h=>by rw [(sh p r.R).2 h] at h5;cases h5.1
    have n2:p ∉ r.W:=fun h=>by rw [(sh p r.W).2 h] at h5;cases h5.2
    exact ⟨fun h=>(hsr.2 p h).elim n1 n2,fun h=>n2 (hsr.1 p h)⟩
  ·rw [hF,db _ _ _ _ hplim,e8]
theorem W5 {P:Program} {look:ft} (hT:m5 P (ru look)) (hl:ju look) (hm:P.follows .mixedOrders=true) {ex n id:Nat} {ops:Array Oper} {draw:Bool} {ro:Option Nat} {N:Nat} {B:c9} {nt:Nat} (hs:dg nt (.region id ops draw)=true) {L:SL} {st:St} {q:XR} {g:Gh} {w:World} {a:Act} {Q:Exit→Act→World→Prop}
 (h:(z8 P ex ops draw).run look n L st=some q) (hw:ly ex L) (hlo:qy st) (hn:B.tv st.nx q.2.2.nx) (hc:er B g st w) (hr:di g w nt L a.tmps) (hd:Marks B.n0 st.h g w a.defers)
 (hQ:∀ g w a',er B g q.2.2 w→di g w nt q.2.1 a'.tmps→Marks B.n0 q.2.2.h g w a'.defers→(draw=true→a'.defers=a.defers)→Q .normal a' w):(Code.region id ops draw).wpIn (ee ro) N P Q a w:=by
 obtain ⟨e1,_,L1,e2,e3⟩:=xz h hw
 simp only [dg,Bool.and_eq_true] at hs
 cases draw with
 |false=>
  simp only at e3
  exact wpIn_region (ak3 hT hl hs.2 hs.1 (p:=(L1,q.2.2)) (fun g w a' hc hr hd=>hQ g w a' hc (hr.less e2) hd (fun h=>by cases h)) ops.toList _ (by simp) (D0 ops) L st g w a e3 hlo hn hc hr hd)
 |true=>
  obtain ⟨h0,recs,st2,u,h1,h3,h2⟩:=e3
  exact aq8 hT hl hm hs.2 hs.1 h0 h1 h3 h2 hlo hn hc hr hd (fun g w a' hc hr hd hdd=>hQ g w a' hc (hr.less e2) hd (fun _=>hdd))
structure Hn (P:Program) (ex:Nat) (c:Code) (X:SL→St→Option XR):Prop where
 within:∀ (L:SL) (st:St) (q:XR),X L st=some q→ly ex L→ly ex q.2.1
 jt:∀ L,ae (w7 (X L))
 wp:∀ (ro:Option Nat) (N:Nat) (B:c9) (nt:Nat),B.n0≤B.w.heap.size→(ro=none∨c.ov=true)→dg nt c=true→∀ (L:SL) (st:St) (q:XR) (g:Gh) (w:World) (a:Act),X L st=some q→ly ex L→qy st→B.tv st.nx q.2.2.nx→er B g st w→di g w nt L a.tmps→Marks B.n0 st.h g w a.defers →
  c.wpIn (ee ro) N P (Fin B nt (fun e L st=>(e,L,st)=q)) a w
theorem A8 (L:SL) (t:Nat):lk (m6 L 0) t=lk L t:=by
 rw [Jr,show hasB 0 t=false from by unfold hasB;rw [show Nat.shiftRight 0 t=0 from Nat.zero_shiftRight t];rfl];rfl
theorem Hn.le {P:Program} {ex:Nat} {c:Code} {X:SL→St→Option XR} (h:Hn P ex c X) {L:SL} {st:St} {q:XR} (hx:X L st=some q) (hl:qy st):st.nx≤q.2.2.nx:=(h.jt L st _ _ hl (z3 hx)).1
theorem Hn.low {P:Program} {ex:Nat} {c:Code} {X:SL→St→Option XR} (h:Hn P ex c X) {L:SL} {st:St} {q:XR} (hx:X L st=some q) (hl:qy st):qy q.2.2:=(h.jt L).low hl (z3 hx)
theorem anw {P:Program} {ex:Nat} {c:Code} {X:SL→St→Option XR} (h:Hn P ex c X) (n:Nat):Hn P ex (.loop c) (N2 X n):=by
 have hw':∀ L,ly ex L→ly ex (m6 L 0):=fun L hw t ht=>by rw [A8];exact hw t ht
 refine ⟨?_,Cj h.jt n,?_⟩
 ·induction n with
  |zero=>intro L st q hx;cases hx
  |succ n ih=>
   intro L st q hx hw
   change D1 (N2 X n) (X (m6 L 0) st)=some q at hx
   rcases Ba hx with ⟨L1,au,h1,h2⟩|⟨h1,_⟩
   ·exact ih _ _ _ h2 (h.within _ _ _ h1 (hw' L hw))
   ·exact h.within _ _ _ h1 (hw' L hw)
 ·intro ro N B nt hn0 hpl hs L st q g w a hx hw hlo hnr hc hr hd
  refine qq fun Y hY=>?_
  induction n generalizing L st g w a with
  |zero=>cases hx
  |succ n ih=>
   change D1 (N2 X n) (X (m6 L 0) st)=some q at hx
   have hr':di g w nt (m6 L 0) a.tmps:=⟨hr.1,fun t=>by rw [A8];exact hr.2 t⟩
   rcases Ba hx with ⟨L1,au,h1,h2⟩|⟨h1,h2⟩
   ·have hlo1:=h.low h1 hlo
    have hle1:=h.le h1 hlo
    have hle2:au.nx≤q.2.2.nx:=(Cj h.jt n L1 au _ _ hlo1 (z3 h2)).1
    refine hY a w (wpIn_mono (h.wp ro N B nt hn0 hpl hs _ _ _ g w a h1 (hw' L hw) hlo (hnr.sub (Nat.le_refl _) hle2) hc hr' hd) ?_)
    rintro exx a1 w1 ⟨e1,L1',st1',g1,rfl,he,hc1,hr1,hd1⟩
    cases he
    exact ih L1 au g1 w1 a1 h2 (h.within _ _ _ h1 (hw' L hw)) hlo1 (hnr.sub hle1 (Nat.le_refl _)) hc1 hr1 hd1
   ·refine hY a w (wpIn_mono (h.wp ro N B nt hn0 hpl hs _ _ _ g w a h1 (hw' L hw) hlo hnr hc hr' hd) ?_)
    rintro exx a1 w1 ⟨e1,L1,au,g1,rfl,he,hc1,hr1,hd1⟩
    subst he
    cases e1 with
    |normal=>exact (h2 rfl).elim
    |exit id=>exact ⟨.exit id,L1,au,g1,rfl,rfl,hc1,hr1,hd1⟩
    |ret=>exact ⟨.ret,L1,au,g1,rfl,rfl,hc1,hr1,hd1⟩
end
end Go.Vm
namespace Go.Vm
noncomputable section
theorem F4 (ex:Nat) (t:Nat):∀ L:SL,lk (su ex L) t=bif hasB ex t then lk L t else .bad
 | []=>by cases h:hasB ex t<;>rfl
 |p::L=>by
  obtain ⟨k,v⟩:=p
  show lk (bif hasB ex k then (k,v)::su ex L else su ex L) t=_
  rw [lz]
  cases hk:hasB ex k with
  |true=>
   rw [cond_true,lz,F4 ex t L]
   by_cases e:k=t
   ·subst e;rw [if_pos rfl,if_pos rfl,hk];rfl
   ·rw [if_neg e,if_neg e]
  |false=>
   rw [cond_false,F4 ex t L]
   by_cases e:k=t
   ·subst e;rw [hk];rfl
   ·rw [if_neg e]
theorem Oo (ex:Nat) (L:SL):Rr (su ex L) L∧ly ex (su ex L):=
 ⟨fun t=>by rw [F4];cases hasB ex t<;>simp,fun t ht=>by rw [F4,ht];rfl⟩
theorem Tc (ex:Nat):∀ (ps:List Tmp) (vs:List AV) (L L0:SL),ly ex L→Rr L L0→Rr (Rw ex ps vs L) (wy ps vs L0)∧ly ex (Rw ex ps vs L)
 | [],vs,L,L0,hw,hl=>⟨hl,hw⟩
 |t::ps,[],L,L0,hw,hl=>⟨hl,hw⟩
 |t::ps,v::vs,L,L0,hw,hl=>by
  refine Tc ex ps vs (bif hasB ex t then (t,v)::L else L) ((t,v)::L0) ?_ ?_
  ·intro u hu
   cases ht:hasB ex t with
   |false=>exact hw u hu
   |true=>
    rw [cond_true,lz]
    by_cases e:t=u
    ·subst e;rw [ht] at hu;cases hu
    ·rw [if_neg e];exact hw u hu
  ·intro u
   cases ht:hasB ex t with
   |false=>
    rw [cond_false,lz]
    by_cases e:t=u
    ·subst e;exact .inr (hw t ht)
    ·rw [if_neg e];exact hl u
   |true=>
    rw [cond_true,lz,lz]
    by_cases e:t=u
    ·subst e;rw [if_pos rfl,if_pos rfl];exact .inl rfl
    ·rw [if_neg e,if_neg e];exact hl u
def agd (P:Program) (l:Nat) (rec:l6) (R:RX) (B1:c9):Prop:=
 ∀ (N:Nat) (args:List AV) (q:Ex × St) (g:Gh) (st:St) (w:World) (vs:List Value),qy st→B1.tv st.nx q.2.nx→er B1 g st w→bc g w args vs →
  w.heap[l]? = some (.loop (rec.at none))→dr g st.h l→R args st=some q →
  ∃ f tmps asg body,(Instr.yield l vs.toArray).run P w = .ok (.round l f tmps asg body) w∧RoundIn (ee none) N P l f tmps asg body w (fun e w'=>∃ g',e = .returned (.bool (uz q.1))∧er (ew g st.h w st.nx (· = l) B1.far) g' q.2 w' ∧
   w'.heap[l]? = some (.loop (rec.at (Kn q.1)))∧dr g' q.2.h l)
theorem V2 {ex:Nat} {A B:SL→St→Option XR} (hA:∀ L,ae (w7 (A L))) (hB:∀ L,ae (w7 (B L))) (ps:List Tmp) (L:SL) (args:List AV):ae (α:=Ex) (te ex A B ps L args):=by
 cases hlen:Nat.beq args.length ps.length with
 |false=>exact ae.fail.congr (fun st=>by unfold te;rw [hlen];rfl)
 |true=>
  refine (ae.bind (hA (Rw ex ps args L)) (fun p:Ex × SL=>(?_:ae (match p.1 with|.normal=>(w7 (B p.2)).bind (fun q=>M.pure q.1)|_=>M.fail)))).congr (fun st=>?_)
  ·split
   ·exact ae.bind (hB _) (fun q=>ae.pure _)
   ·exact ae.fail
  ·unfold te
   rw [hlen,cond_true]
   unfold w7 kl M.bind
   dsimp only
   cases A (Rw ex ps args L) st with
   |none=>rfl
   |some p=>
    obtain ⟨e,L1,au⟩:=p
    cases e with
    |normal=>
     dsimp only
     cases B L1 au<;>rfl
    |_=>rfl
theorem ajx {P:Program} {ex:Nat} {A B:SL→St→Option XR} {B1:c9} {l nt:Nat} {rec:l6} {L0:SL} (hA:Hn P ex rec.assign A) (hB:Hn P ex rec.body B) (hps:rec.params.toList.all (fun t=>Nat.blt t nt)=true)
 (hs1:dg nt rec.assign=true) (hs2:dg nt rec.body=true) (hp1:rec.assign.ov=true) (hp2:rec.body.ov=true) (hw0:ly ex L0) (hL0:∀ g h w,oh B1 g h w→di g w nt L0 rec.tmps) :
 agd P l rec (te ex A B rec.params.toList L0) B1:=by
 intro N args q g st w vs hlo hnr hc hargs hl hu hR
 unfold te at hR
 cases hlen:Nat.beq args.length rec.params.toList.length with
 |false=>rw [hlen] at hR;cases hR
 |true=>
 rw [hlen,cond_true] at hR
 have hlen:=Nat.eq_of_beq_eq_true hlen
 have hvl:vs.length=args.length:=hargs.1
 have hsz:args.length=rec.params.size:=hlen.trans (Array.length_toList ..)
 have hy:=run_yield (P:=P) (args:=vs.toArray) hl (by show vs.toArray.size=rec.params.size;rw [List.size_toArray,hvl,hsz])
 refine ⟨_,_,_,_,hy,roundIn_of_wpIn trivial ?_⟩
 have hB2:=hc.s8 st.nx (fun _=>False) (Nat.le_refl _) (far:=B1.far) (fun _ h=>h)
 have hrel:=Ef rec.params.toList args vs L0 rec.tmps hps hlen hargs (hL0 _ _ _ hc.base)
 have hput:=Tc ex rec.params.toList args L0 L0 hw0 (fun t=>.inl rfl)
 have hfold:(((rec.at none).params.zip vs.toArray).foldl (fun tmps (x:Tmp × Value)=>tmps.setIfInBounds x.1 x.2) (rec.at none).tmps)=((rec.params.toList.zip vs).foldl (fun t (x:Tmp × Value)=>t.setIfInBounds x.1 x.2) rec.tmps):=by
  rw [← Array.foldl_toList]
  simp [l6.at]
 cases hrA:A (Rw ex rec.params.toList args L0) st with
 |none=>rw [hrA] at hR;cases hR
 |some p=>
 obtain ⟨e1,L1,au⟩:=p
 rw [hrA] at hR
 simp only at hR
 have hlo1:=hA.low hrA hlo
 have hle1:=hA.le hrA hlo
 have hle2:(e1,L1,au).2.2.nx≤q.2.nx:=by
  cases e1 with
  |normal=>
   simp only at hR
   cases hrB:B L1 au with
   |none=>rw [hrB] at hR;cases hR
   |some p=>rw [hrB] at hR;cases hR;exact hB.le hrB hlo1
  |_=>cases hR
 have h1:=hA.wp (some l) N (ew g st.h w st.nx (fun _=>False) B1.far) nt (Nat.zero_le _) (.inr hp1) hs1 _ _ _ g w { tmps:=((rec.at none).params.zip vs.toArray).foldl (fun tmps (x:Tmp × Value)=>tmps.setIfInBounds x.1 x.2) (rec.at none).tmps,defers:=[] } hrA hput.2 hlo (hnr.sub (Nat.le_refl _) hle2) hB2
  (by show di g w nt _ (((rec.at none).params.zip vs.toArray).foldl (fun tmps (x:Tmp × Value)=>tmps.setIfInBounds x.1 x.2) (rec.at none).tmps);rw [hfold];exact hrel.less hput.1) (Marks.nil _ _ _ _)
 refine wpIn_mono h1 ?_
 rintro exx a1 w1 ⟨e,L1',st1',g1,rfl,hq,hc1,hr1,hd1⟩
 cases hq
 cases e1 with
 |exit id=>cases hR
 |ret=>cases hR
 |normal=>
  simp only at hR
  cases hrB:B L1 au with
  |none=>rw [hrB] at hR;cases hR
  |some p=>
  obtain ⟨e3,L3,st3⟩:=p
  rw [hrB] at hR
  cases hR
  have hun:=hc1.base.zl (bn hl) hu (fun h=>h)
  have hl1:=hun.2.trans hl
  refine ⟨_,run_beginRound hl1 rfl,?_⟩
  have hw1:er (ew g st.h w st.nx (· = l) B1.far) g1 au w1:=⟨hc1.ok,hc1.fresh,hc1.base.aov (fun _ h=>h.elim),hc1.aj⟩
  have hp2':=nh (r':={ rec.at none with state:=.busy }) hw1 hl1 hun.1 (.inl rfl)
  have hB3:=hp2'.1.s8 st.nx (fun _=>False) hc1.aj (far:=B1.far) (fun _ h=>h)
  have hwi:ly ex L1:=hA.within _ _ _ hrA hput.2
  have h2:=hB.wp (some l) N (ew g1 au.h (fo w1 l (.loop { rec.at none with state:=.busy })) st.nx (fun _=>False) B1.far) nt (Nat.zero_le _) (.inr hp2) hs2 _ _ _ g1 _ a1 hrB hwi hlo1 (hnr.sub hle1 (Nat.le_refl _)) hB3 (hr1.ext hp2'.2) (hd1.nh hl1)
  refine wpIn_mono h2 ?_
  rintro exx a3 w3 ⟨e,L3',st3',g3,rfl,hq3,hc3,hr3,hd3⟩
  cases hq3
  have hl2:(fo w1 l (.loop { rec.at none with state:=.busy })).heap[l]? = some (.loop { rec.at none with state:=.busy }):=fg _ (bn hl1)
  have hun3:=hc3.base.zl (bn hl2) hun.1 (fun h=>h)
  have hl3:=hun3.2.trans hl2
  have hc3':er (ew g st.h w st.nx (· = l) B1.far) g3 st3 w3:=⟨hc3.ok,hc3.fresh,hp2'.1.base.comp hc3.base (Nat.le_refl _) (fun _ h=>h) (fun _ h=>h.elim),hc3.aj⟩
  cases e3 with
  |normal=>
   refine ⟨_,_,run_endRound none hl3,g3,rfl,(nh (r':=rec.at none) hc3' hl3 hun3.1 (.inl rfl)).1,fg _ (bn hl3),hun3.1⟩
  |ret=>
   refine ⟨_,_,run_endRound (some .ret) hl3,g3,rfl,(nh (r':=rec.at (some .ret)) hc3' hl3 hun3.1 (.inl rfl)).1,fg _ (bn hl3),hun3.1⟩
  |exit id=>
   refine ⟨_,_,run_endRound (some (.exit id)) hl3,g3,rfl,(nh (r':=rec.at (some (.exit id))) hc3' hl3 hun3.1 (.inl rfl)).1,fg _ (bn hl3),hun3.1⟩
def uc (X:St→Option ue):M (Ex × Option Ex × SL):=fun st=>
 match X st with
 |some q=>some ((q.1,q.2.1,q.2.2.1),q.2.2.2)
 |none=>none
theorem F3 {X:St→Option ue} {st:St} {q:ue} (h:X st=some q):uc X st=some ((q.1,q.2.1,q.2.2.1),q.2.2.2):=by unfold uc;rw [h]
structure M4 (P:Program) (ex l:Nat) (rec:l6) (B:c9) (c:Code) (X:Option Ex→SL→St→Option ue):Prop where
 within:∀ pe L st q,X pe L st=some q→ly ex L→ly ex q.2.2.1
 jt:∀ pe L,ae (uc (X pe L))
 wp:∀ (N nt:Nat),dg nt c=true→∀ pe L st q g w a,X pe L st=some q→ly ex L→qy st→B.tv st.nx q.2.2.2.nx→er B g st w→di g w nt L a.tmps→a.defers=[]→w.heap[l]? = some (.loop (rec.at pe))→dr g st.h l →
  c.wpIn (ee none) N P (vo B nt l rec (fun e pe L st=>(e,pe,L,st)=q)) a w
theorem ac5 {y:Nat} {o:Oper} {L:SL} {args:Array Operand} (h:Jl y o L=some args):∃ f ts,o.op = .call { callee:=.value f,args,argTypes:=ts }∧bo L f = .yl y:=by
 unfold Jl at h
 split at h
 ·rename_i f args' ts he
  split at h
  ·rename_i k hk
   by_cases e:k=y
   ·subst e
    rw [Nat.beq_refl,cond_true] at h
    cases h
    exact ⟨f,ts,he,hk⟩
   ·rw [l8 e] at h;cases h
  ·cases h
 ·cases h
theorem ar9 {g w y v l} (h:Rel g w (.yl y) v) (hy:g.inj y=some (l,0)):v = .func (.yield l) #[] #[]:=by
 cases h with
 |yl o b base hi=>rw [hy] at hi;cases hi;rfl
theorem O1 {P:Program} {look:ft} {ops:Array Oper} {y:Nat} {R:RX} {t:Nat}:∀ (l:List Oper) (pe:Option Ex) (L:SL) (st:St) (p:Option Ex × SL × St),(qc P ops l).run look y R pe L st=some p→(∀ o ∈ l,o.dst≠some t)→lk p.2.1 t=lk L t:=by
 intro l
 induction l with
 |nil=>intro pe L st p h _;cases h;rfl
 |cons o l ih=>
  intro pe L st p h hn
  change (match so P look ops y R o pe L st with|some p=>(qc P ops l).run look y R p.1 p.2.1 p.2.2|none=>none)=some p at h
  cases h1:so P look ops y R o pe L st with
  |none=>rw [h1] at h;cases h
  |some q=>
   rw [h1] at h
   rw [ih _ _ _ p h (fun o ho=>hn o (by simp [ho]))]
   have hq:∃ v,q.2.1=gi o.dst v L:=by
    unfold so at h1
    split at h1
    ·split at h1
     ·split at h1
      ·split at h1
       ·cases h1;exact ⟨_,rfl⟩
       ·cases h1
      ·cases h1
     ·split at h1
      ·cases h1;exact ⟨_,rfl⟩
      ·cases h1
    ·cases h1;exact ⟨_,rfl⟩
    ·cases h1
   obtain ⟨v,hv⟩:=hq
   rw [hv,On,if_neg (hn o (by simp))]
section iter
variable {P : Program} {look : ft} {ex l y : Nat} {rec : l6} {B : c9} {R : RX}
theorem By (hl:ju look) (hRf:∀ args,ae (α:=Ex) (R args)) (ops:Array Oper) (o:Oper) (pe:Option Ex) (L:SL):ae (kl (so P look ops y R o pe L)):=by
 cases hg:wk ops L o with
 |none=>exact ae.fail.congr (fun st=>by unfold kl so;rw [hg];rfl)
 |some b=>
  cases b with
  |false=>exact (ae.pure (pe,gi o.dst (.sc undef) L)).congr (fun st=>by unfold kl so;rw [hg];rfl)
  |true=>
   cases hy:Jl y o L with
   |none=>
    refine (ae.bind (yr (yj (P:=P) hl (o:=o) (ρ:=bo L))) (fun v=>ae.pure (pe,gi o.dst v L))).congr (fun st=>?_)
    unfold kl so M.bind
    rw [hg,hy]
    dsimp only
    cases (k9 P o).run look (bo L) st<;>rfl
   |some args=>
    cases pe with
    |some e=>exact ae.fail.congr (fun st=>by unfold kl so;rw [hg,hy];rfl)
    |none=>
     refine (ae.bind (hRf (args.toList.map (bo L))) (fun e=>ae.pure (Kn e,gi o.dst (.sc (.bool (uz e))) L))).congr (fun st=>?_)
     unfold kl so M.bind
     rw [hg,hy]
     dsimp only
     cases R (args.toList.map (bo L)) st<;>rfl
theorem Er (hl:ju look) (hRf:∀ args,ae (α:=Ex) (R args)) (ops:Array Oper):∀ (l:List Oper) (pe:Option Ex) (L:SL),ae (kl ((qc P ops l).run look y R pe L)):=by
 intro l
 induction l with
 |nil=>intro pe L;exact ae.pure (pe,L)
 |cons o l ih=>
  intro pe L
  refine (ae.bind (By (P:=P) (y:=y) hl hRf ops o pe L) (fun p=>ih p.1 p.2)).congr (fun st=>?_)
  show kl (fun st=>match so P look ops y R o pe L st with
  |some p=>(qc P ops l).run look y R p.1 p.2.1 p.2.2
  |none=>none) st=_
  unfold kl M.bind
  dsimp only
  cases so P look ops y R o pe L st<;>rfl
theorem aga (hF:ju look) (hRf:∀ args,ae (α:=Ex) (R args)) (hT:m5 P (ru look)) (hR:agd P l rec R B) (hO:B.O l) (hy:y<B.aj∧B.pb y=some (l,0)) {ops:Array Oper} {N nt:Nat} {Q:Exit→Act→World→Prop} (hg:oq nt ops=true) (hd:ti nt ops=true) {q:Option Ex × SL × St}
 (hK:∀ g w (a:Act),er B g q.2.2 w→di g w nt q.2.1 a.tmps→a.defers=[]→w.heap[l]? = some (.loop (rec.at q.1))→dr g q.2.2.h l→Q .normal a w) :
 ∀ (ls:List Oper) (is:List Nat),(∀ o ∈ ls,o ∈ ops)→is.map (fun i=>ops[i]?)=ls.map some→∀ pe L st g w a,(qc P ops ls).run look y R pe L st=some q→qy st→B.tv st.nx q.2.2.nx→er B g st w→di g w nt L a.tmps→a.defers=[] →
  w.heap[l]? = some (.loop (rec.at pe))→dr g st.h l→wpOpsIn (ee none) N P ops Q is a w:=by
 intro ls
 induction ls with
 |nil=>
  intro is _ his pe L st g w a h hlo hn hc hr hdf hl hu
  cases is with
  |nil=>cases h;exact hK g w a hc hr hdf hl hu
  |cons i is=>cases his
 |cons o ls ih=>
  intro is hmem his pe L st g w a h hlo hn hc hr hdf hl hu
  cases is with
  |nil=>cases his
  |cons i is=>
   simp only [List.map_cons,List.cons.injEq] at his
   obtain ⟨hi,his⟩:=his
   have ho:=hmem o (by simp)
   have hmem':∀ o ∈ ls,o ∈ ops:=fun o ho=>hmem o (by simp [ho])
   change (match so P look ops y R o pe L st with|some p=>(qc P ops ls).run look y R p.1 p.2.1 p.2.2|none=>none)=some q at h
   cases h1:so P look ops y R o pe L st with
   |none=>rw [h1] at h;cases h
   |some p=>
   have hlo':qy p.2.2:=(By (P:=P) (y:=y) hF hRf ops o pe L).low hlo (z3 h1)
   have hle1:st.nx≤p.2.2.nx:=(By (P:=P) (y:=y) hF hRf ops o pe L st _ _ hlo (z3 h1)).1
   rw [h1] at h
   simp only at h
   have hle2:p.2.2.nx≤q.2.2.nx:=(Er (P:=P) (y:=y) hF hRf ops ls p.1 p.2.1 _ _ _ hlo' (z3 h)).1
   simp only [wpOpsIn,hi]
   unfold so at h1
   cases hb:wk ops L o with
   |none=>rw [hb] at h1;cases h1
   |some b=>
   rw [hb] at h1
   have hw:Region.wanted o (yielded ops a.tmps)=b:=Gf hr.1 (Bx hg ho) (fun j c _=>hr.2 _) hb
   rw [hw]
   cases b with
   |true=>
    rw [if_pos rfl]
    simp only at h1
    cases hyl:Jl y o L with
    |none=>
     rw [hyl] at h1
     simp only at h1
     rw [Gy,Mq] at h1
     cases hop:eg P (ru look) o (bo L) st with
     |none=>rw [hop] at h1;cases h1
     |some r=>
      obtain ⟨v,st'⟩:=r
      rw [hop] at h1
      cases h1
      refine C7 hT hc.ok (hc.free (hn.sub (Nat.le_refl _) hle2)) hlo hr.eval hop none N _ _ ?_
      rintro u w' ⟨g',q1,q2,q3⟩
      have hun:=dr.step q1 (bn hl) hu
      exact ih is hmem' his pe _ st' g' w' _ h hlo' (hn.sub hle1 (Nat.le_refl _)) (hc.step (hn.sub (Nat.le_refl _) hle2) ⟨wm hop,q1⟩ q2) ((hr.ext q1.ext).put q3 (s6 hd ho)) (by rw [put_defers];exact hdf) (hun.2.trans hl) hun.1
    |some args=>
     rw [hyl] at h1
     simp only at h1
     cases pe with
     |some e=>cases h1
     |none=>
     simp only at h1
     cases hrr:R (args.toList.map (bo L)) st with
     |none=>rw [hrr] at h1;cases h1
     |some r=>
     rw [hrr] at h1
     cases h1
     obtain ⟨f,ts,he,hev⟩:=ac5 hyl
     have hfv:a.eval f = .func (.yield l) #[] #[]:=by
      have:=hr.eval f
      rw [hev] at this
      exact ar9 this ((hc.base.pins y (.inl hy.1)).trans hy.2)
     have hargs:=hr.eval.list args.toList
     obtain ⟨fn,tmps,asg,body,hrun,hround⟩:=hR (N - 1) _ _ _ _ _ _ hlo (hn.sub (Nat.le_refl _) hle2) hc hargs hl hu hrr
     refine ⟨lj none P o a w,?_⟩
     rw [Oper.semAt_eq _ _ _ (Aw he),Us he hfv,show args.map a.eval=(args.toList.map a.eval).toArray from (by apply Array.ext';simp),hrun]
     refine ⟨(fun h=>(by cases h)),hround.mono ?_⟩
     rintro e w' ⟨g',rfl,hc',hl',hu'⟩
     have hext:=hc'.base.E9 hc.fresh
     have hcB:er B g' r.2 w':=⟨hc'.ok,hc'.fresh,hc.base.comp hc'.base hc.aj (fun _ h=>h) (fun n hn=>by subst hn;exact .inr hO),Nat.le_trans hc.aj hc'.aj⟩
     have hr':=(hr.ext hext).put (.sc (.bool (uz r.1))) (s6 hd ho)
     show wpOpsIn (ee none) N P ops Q is (a.put o.dst (.bool (uz r.1))) w'
     exact ih is hmem' his _ _ r.2 g' w' _ h hlo' (hn.sub hle1 (Nat.le_refl _)) hcB hr' (by rw [put_defers];exact hdf) hl' hu'
   |false=>
    simp only at h1
    cases h1
    rw [if_neg (by simp)]
    refine ⟨lj none P o a w,?_⟩
    exact ih is hmem' his pe _ st g w _ h hlo hn hc (hr.put (.sc _) (s6 hd ho)) (by rw [put_defers];exact hdf) hl hu
theorem Bb {B:Option Ex→SL→St→Option ue} {r:Option ue} {q:ue} (h:Dm B r=some q):(∃ pe L st,r=some (.normal,pe,L,st)∧B pe L st=some q)∨(r=some q∧q.1 ≠ .normal):=by
 unfold Dm at h
 cases r with
 |none=>cases h
 |some p=>
  obtain ⟨e,pe,L,st⟩:=p
  simp only at h
  cases e with
  |normal=>exact .inl ⟨pe,L,st,rfl,h⟩
  |exit id=>cases h;exact .inr ⟨rfl,fun h=>by cases h⟩
  |ret=>cases h;exact .inr ⟨rfl,fun h=>by cases h⟩
theorem Jw {X:St→Option ue} {B:Option Ex→SL→St→Option ue} (hX:ae (uc X)) (hB:∀ pe L,ae (uc (B pe L))):ae (uc fun st=>Dm B (X st)):=by
 refine (ae.bind hX (fun p:Ex × Option Ex × SL=>(?_:ae (match p.1 with|.normal=>uc (B p.2.1 p.2.2)|e=>M.pure (e,p.2))))).congr (fun st=>?_)
 ·split
  ·exact hB _ _
  ·exact ae.pure _
 ·unfold uc M.bind Dm
  dsimp only
  cases X st with
  |none=>rfl
  |some q=>
   obtain ⟨e,pe,L,au⟩:=q
   cases e<;>rfl
theorem Cr {X:Option Ex→SL→St→Option ue} (h:∀ pe L,ae (uc (X pe L))):∀ (n:Nat) (pe:Option Ex) (L:SL),ae (uc (N8 X n pe L))
 |0,_pe,_L=>ae.fail.congr (fun _st=>rfl)
 |n+1,pe,L=>(Jw (h pe (m6 L 0)) (Cr h n)).congr (fun _st=>rfl)
theorem M4.le {c:Code} {X:Option Ex→SL→St→Option ue} (h:M4 P ex l rec B c X) {pe:Option Ex} {L:SL} {st:St} {q:ue} (hx:X pe L st=some q) (hl:qy st):st.nx≤q.2.2.2.nx:=(h.jt pe L st _ _ hl (F3 hx)).1
theorem M4.low {c:Code} {X:Option Ex→SL→St→Option ue} (h:M4 P ex l rec B c X) {pe:Option Ex} {L:SL} {st:St} {q:ue} (hx:X pe L st=some q) (hl:qy st):qy q.2.2.2:=(h.jt pe L).low hl (F3 hx)
theorem amn {c:Code} {X:Option Ex→SL→St→Option ue} (h:M4 P ex l rec B c X) (n:Nat):M4 P ex l rec B (.loop c) (N8 X n):=by
 have hw':∀ L,ly ex L→ly ex (m6 L 0):=fun L hw t ht=>by rw [A8];exact hw t ht
 refine ⟨?_,Cr h.jt n,?_⟩
 ·induction n with
  |zero=>intro pe L st q hx;cases hx
  |succ n ih=>
   intro pe L st q hx hw
   change Dm (N8 X n) (X pe (m6 L 0) st)=some q at hx
   rcases Bb hx with ⟨pe1,L1,au,h1,h2⟩|⟨h1,_⟩
   ·exact ih _ _ _ _ h2 (h.within _ _ _ _ h1 (hw' L hw))
   ·exact h.within _ _ _ _ h1 (hw' L hw)
 ·intro N nt hs pe L st q g w a hx hw hlo hnr hc hr hd hl hu
  refine qq fun Y hY=>?_
  induction n generalizing pe L st g w a with
  |zero=>cases hx
  |succ n ih=>
   change Dm (N8 X n) (X pe (m6 L 0) st)=some q at hx
   have hr':di g w nt (m6 L 0) a.tmps:=⟨hr.1,fun t=>by rw [A8];exact hr.2 t⟩
   rcases Bb hx with ⟨pe1,L1,au,h1,h2⟩|⟨h1,h2⟩
   ·have hlo1:=h.low h1 hlo
    have hle1:=h.le h1 hlo
    have hle2:au.nx≤q.2.2.2.nx:=(Cr h.jt n pe1 L1 au _ _ hlo1 (F3 h2)).1
    refine hY a w (wpIn_mono (h.wp N nt hs _ _ _ _ g w a h1 (hw' L hw) hlo (hnr.sub (Nat.le_refl _) hle2) hc hr' hd hl hu) ?_)
    rintro exx a1 w1 ⟨e1,pe1',L1',st1',g1,rfl,he,hc1,hr1,hd1,hl1,hu1⟩
    cases he
    exact ih pe1 L1 au g1 w1 a1 h2 (h.within _ _ _ _ h1 (hw' L hw)) hlo1 (hnr.sub hle1 (Nat.le_refl _)) hc1 hr1 hd1 hl1 hu1
   ·refine hY a w (wpIn_mono (h.wp N nt hs _ _ _ _ g w a h1 (hw' L hw) hlo hnr hc hr' hd hl hu) ?_)
    rintro exx a1 w1 ⟨e1,pe1,L1,au,g1,rfl,he,hc1,hr1,hd1,hl1,hu1⟩
    subst he
    cases e1 with
    |normal=>exact (h2 rfl).elim
    |exit id=>exact ⟨.exit id,pe1,L1,au,g1,rfl,rfl,hc1,hr1,hd1,hl1,hu1⟩
    |ret=>exact ⟨.ret,pe1,L1,au,g1,rfl,rfl,hc1,hr1,hd1,hl1,hu1⟩
theorem Yu (hT:m5 P (ru look)) (hlk:ju look) (hRf:∀ args,ae (α:=Ex) (R args)) (hm:P.follows .mixedOrders=true) (hR:agd P l rec R B) (hO:B.O l) (hy:y<B.aj∧B.pb y=some (l,0)) (n:Nat):∀ c:Code,M4 P ex l rec B c ((lq P ex c).run look n y R):=by
 intro c
 induction c with
 |skip=>exact ⟨fun pe L st q h hw=>by cases h;exact hw,fun pe L=>ae.pure (Ex.normal,pe,L),fun N nt _ pe L st q g w a h hw hlo hnr hc hr hd hl hu=>by cases h;exact wpIn_skip (vo.mk' (e:=.normal) rfl hc hr hd hl hu)⟩
 |label k=>exact ⟨fun pe L st q h hw=>by cases h;exact hw,fun pe L=>ae.pure (Ex.normal,pe,L),fun N nt _ pe L st q g w a h hw hlo hnr hc hr hd hl hu=>by cases h;exact wpIn_label (vo.mk' (e:=.normal) rfl hc hr hd hl hu)⟩
 |exit id=>exact ⟨fun pe L st q h hw=>by cases h;exact hw,fun pe L=>ae.pure (Ex.exit id,pe,L),fun N nt _ pe L st q g w a h hw hlo hnr hc hr hd hl hu=>by cases h;exact wpIn_exit (vo.mk' (e:=.exit id) rfl hc hr hd hl hu)⟩
 |ret=>exact ⟨fun pe L st q h hw=>by cases h;exact hw,fun pe L=>ae.pure (Ex.ret,pe,L),fun N nt _ pe L st q g w a h hw hlo hnr hc hr hd hl hu=>by cases h;exact wpIn_ret (vo.mk' (e:=.ret) rfl hc hr hd hl hu)⟩
 |region id ops draw=>
  cases draw with
  |false=>
   have key:∀ pe L st q,(lq P ex (.region id ops false)).run look n y R pe L st=some q→∃ p,(qc P ops ops.toList).run look y R pe L st=some p∧q=(.normal,p.1,pa (mn ex ops) p.2.1 L,p.2.2):=by
    intro pe L st q h
    change (match (qc P ops ops.toList).run look y R pe L st with
     |some p=>some (Ex.normal,p.1,pa (mn ex ops) p.2.1 L,p.2.2)
     |none=>none)=some q at h
    cases h1:(qc P ops ops.toList).run look y R pe L st with
    |none=>rw [h1] at h;cases h
    |some p=>rw [h1] at h;cases h;exact ⟨p,rfl,rfl⟩
   refine ⟨fun pe L st q h hw=>?_,?_,fun N nt hs pe L st q g w a h hw hlo hnr hc hr hd hl hu=>?_⟩
   ·obtain ⟨p,h1,rfl⟩:=key pe L st q h
    exact (Ac hw (fun t ht=>O1 (t:=t) _ _ _ _ _ h1 ht)).2
   ·intro pe L
    refine (ae.bind (Er (P:=P) (y:=y) hlk hRf ops ops.toList pe L) (fun p=>ae.pure (Ex.normal,p.1,pa (mn ex ops) p.2 L))).congr (fun st=>?_)
    show uc (fun st=>match (qc P ops ops.toList).run look y R pe L st with
     |some p=>some (Ex.normal,p.1,pa (mn ex ops) p.2.1 L,p.2.2)
     |none=>none) st=_
    unfold uc kl M.bind
    dsimp only
    cases (qc P ops ops.toList).run look y R pe L st<;>rfl
   ·obtain ⟨p,h1,rfl⟩:=key pe L st q h
    have hls:=Ac hw (fun t ht=>O1 (t:=t) _ _ _ _ _ h1 ht)
    simp only [dg,Bool.and_eq_true] at hs
    exact wpIn_region (aga hlk hRf hT hR hO hy hs.2 hs.1 (fun g w a hc hr hd hl hu=>vo.mk' (e:=.normal) rfl hc (hr.less hls.1) hd hl hu) ops.toList _ (by simp) (D0 ops) pe L st g w a h1 hlo hnr hc hr hd hl hu)
  |true=>
   have key:∀ pe L st q,(lq P ex (.region id ops true)).run look n y R pe L st=some q→∃ p,(z8 P ex ops true).run look n L st=some p∧q=(p.1,pe,p.2.1,p.2.2):=by
    intro pe L st q h
    change (match (z8 P ex ops true).run look n L st with
     |some q=>some (q.1,pe,q.2.1,q.2.2)
     |none=>none)=some q at h
    cases h1:(z8 P ex ops true).run look n L st with
    |none=>rw [h1] at h;cases h
    |some p=>rw [h1] at h;cases h;exact ⟨p,rfl,rfl⟩
   refine ⟨fun pe L st q h hw=>?_,?_,fun N nt hs pe L st q g w a h hw hlo hnr hc hr hd hl hu=>?_⟩
   ·obtain ⟨p,h1,rfl⟩:=key pe L st q h
    exact (xz h1 hw).2.1
   ·intro pe L
    refine (ae.bind (J9 (P:=P) hlk ex ops true n L) (fun p=>ae.pure (p.1,pe,p.2))).congr (fun st=>?_)
    show uc (fun st=>match (z8 P ex ops true).run look n L st with
     |some q=>some (q.1,pe,q.2.1,q.2.2)
     |none=>none) st=_
    unfold uc w7 kl M.bind
    dsimp only
    cases (z8 P ex ops true).run look n L st<;>rfl
   ·obtain ⟨p,h1,rfl⟩:=key pe L st q h
    have e1:=(xz h1 hw).1
    have hc0:=hc.s8 B.aj (fun _=>False) hc.aj (far:=B.far) (fun _ h=>h)
    refine W5 hT hlk hm (B:=ew g st.h w B.aj (fun _=>False) B.far) hs h1 hw hlo hnr hc0 hr (by rw [hd];exact Marks.nil _ _ _ _) (fun g' w' a' hc' hr' _ hdd=>?_)
    have hun:=hc'.base.zl (bn hl) hu (fun h=>h)
    exact vo.mk' (e:=.normal) (by rw [e1]) ⟨hc'.ok,hc'.fresh,hc.base.comp hc'.base (Nat.le_refl _) (fun _ h=>h) (fun _ h=>h.elim),hc'.aj⟩ hr' ((hdd rfl).trans hd) (hun.2.trans hl) hun.1
 |seq x z ihx ihy=>
  refine ⟨fun pe L st q h hw=>?_,?_,fun N nt hs pe L st q g w a h hw hlo hnr hc hr hd hl hu=>?_⟩
  ·rcases Bb h with ⟨pe1,L1,au,h1,h2⟩|⟨h1,_⟩
   ·exact ihy.within _ _ _ _ h2 (ihx.within _ _ _ _ h1 hw)
   ·exact ihx.within _ _ _ _ h1 hw
  ·intro pe L;exact (Jw (ihx.jt pe L) ihy.jt).congr (fun st=>rfl)
  ·simp only [dg,Bool.and_eq_true] at hs
   refine wpIn_seq ?_
   rcases Bb h with ⟨pe1,L1,au,h1,h2⟩|⟨h1,h2⟩
   ·have hlo1:=ihx.low h1 hlo
    have hle1:=ihx.le h1 hlo
    have hle2:=ihy.le h2 hlo1
    refine wpIn_mono (ihx.wp N nt hs.1 _ _ _ _ g w a h1 hw hlo (hnr.sub (Nat.le_refl _) hle2) hc hr hd hl hu) ?_
    rintro exx a1 w1 ⟨e1,pe1',L1',st1',g1,rfl,he,hc1,hr1,hd1,hl1,hu1⟩
    cases he
    exact ihy.wp N nt hs.2 _ _ _ _ g1 w1 a1 h2 (ihx.within _ _ _ _ h1 hw) hlo1 (hnr.sub hle1 (Nat.le_refl _)) hc1 hr1 hd1 hl1 hu1
   ·refine wpIn_mono (ihx.wp N nt hs.1 _ _ _ _ g w a h1 hw hlo hnr hc hr hd hl hu) ?_
    rintro exx a1 w1 ⟨e1,pe1,L1,au,g1,rfl,he,hc1,hr1,hd1,hl1,hu1⟩
    subst he
    cases e1 with
    |normal=>exact (h2 rfl).elim
    |exit id=>exact ⟨.exit id,pe1,L1,au,g1,rfl,rfl,hc1,hr1,hd1,hl1,hu1⟩
    |ret=>exact ⟨.ret,pe1,L1,au,g1,rfl,rfl,hc1,hr1,hd1,hl1,hu1⟩
 |cond c x z ihx ihy=>
  have key:∀ pe L st q,(lq P ex (.cond c x z)).run look n y R pe L st=some q→∃ v,(bo L c).bool=some v∧(v=true→(lq P ex x).run look n y R pe L st=some q)∧(v=false→(lq P ex z).run look n y R pe L st=some q):=by
   intro pe L st q h
   change (match (bo L c).bool with
    |some b=>bif b then (lq P ex x).run look n y R pe L st else (lq P ex z).run look n y R pe L st
    |none=>none)=some q at h
   cases hb:(bo L c).bool with
   |none=>rw [hb] at h;cases h
   |some v=>
    rw [hb] at h
    exact ⟨v,rfl,fun e=>by subst e;exact h,fun e=>by subst e;exact h⟩
  refine ⟨fun pe L st q h hw=>?_,?_,fun N nt hs pe L st q g w a h hw hlo hnr hc hr hd hl hu=>?_⟩
  ·obtain ⟨v,_,h1,h2⟩:=key pe L st q h
   cases v with
   |true=>exact ihx.within _ _ _ _ (h1 rfl) hw
   |false=>exact ihy.within _ _ _ _ (h2 rfl) hw
  ·intro pe L
   cases hb:(bo L c).bool with
   |none=>
    refine ae.fail.congr (fun st=>?_)
    show uc (fun st=>match (bo L c).bool with|some b=>_|none=>none) st=_
    unfold uc;rw [hb];rfl
   |some v=>
    cases v with
    |true=>
     refine (ihx.jt pe L).congr (fun st=>?_)
     show uc (fun st=>match (bo L c).bool with
      |some b=>bif b then (lq P ex x).run look n y R pe L st else (lq P ex z).run look n y R pe L st
      |none=>none) st=_
     unfold uc;rw [hb];rfl
    |false=>
     refine (ihy.jt pe L).congr (fun st=>?_)
     show uc (fun st=>match (bo L c).bool with
      |some b=>bif b then (lq P ex x).run look n y R pe L st else (lq P ex z).run look n y R pe L st
      |none=>none) st=_
     unfold uc;rw [hb];rfl
  ·obtain ⟨v,hv,h1,h2⟩:=key pe L st q h
   simp only [dg,Bool.and_eq_true] at hs
   have hev:=Bd (hr.eval c) hv
   cases v with
   |true=>exact wpIn_cond_true hev (ihx.wp N nt hs.1 _ _ _ _ g w a (h1 rfl) hw hlo hnr hc hr hd hl hu)
   |false=>exact wpIn_cond_false hev (ihy.wp N nt hs.2 _ _ _ _ g w a (h2 rfl) hw hlo hnr hc hr hd hl hu)
 |block id x ih=>
  have key:∀ pe L st q,(lq P ex (.block id x)).run look n y R pe L st=some q→∃ p,(lq P ex x).run look n y R pe L st=some p∧q=(A2 id p.1,p.2):=by
   intro pe L st q h
   change (match (lq P ex x).run look n y R pe L st with
    |some p=>some (A2 id p.1,p.2)
    |none=>none)=some q at h
   cases h1:(lq P ex x).run look n y R pe L st with
   |none=>rw [h1] at h;cases h
   |some p=>rw [h1] at h;cases h;exact ⟨p,rfl,rfl⟩
  refine ⟨fun pe L st q h hw=>?_,?_,fun N nt hs pe L st q g w a h hw hlo hnr hc hr hd hl hu=>?_⟩
  ·obtain ⟨p,h1,rfl⟩:=key pe L st q h
   have:=ih.within pe L st p h1 hw
   exact this
  ·intro pe L
   refine (ae.bind (ih.jt pe L) (fun p=>ae.pure (A2 id p.1,p.2))).congr (fun st=>?_)
   show uc (fun st=>match (lq P ex x).run look n y R pe L st with
    |some p=>some (A2 id p.1,p.2)
    |none=>none) st=_
   unfold uc M.bind
   dsimp only
   cases (lq P ex x).run look n y R pe L st<;>rfl
  ·obtain ⟨p,h1,rfl⟩:=key pe L st q h
   refine wpIn_block (wpIn_mono (ih.wp N nt hs _ _ _ _ g w a h1 hw hlo hnr hc hr hd hl hu) ?_)
   rintro exx a1 w1 ⟨e1,pe1,L1,au,g1,rfl,he,hc1,hr1,hd1,hl1,hu1⟩
   subst he
   cases e1 with
   |normal=>exact ⟨.normal,pe1,L1,au,g1,rfl,rfl,hc1,hr1,hd1,hl1,hu1⟩
   |ret=>exact ⟨.ret,pe1,L1,au,g1,rfl,rfl,hc1,hr1,hd1,hl1,hu1⟩
   |exit j=>
    simp only [A2]
    by_cases e:j=id
    ·subst e
     simp only [Nat.beq_refl,cond_true]
     simp only [rh,Exit.inBlock,if_true]
     exact ⟨.normal,pe1,L1,au,g1,rfl,rfl,hc1,hr1,hd1,hl1,hu1⟩
    ·rw [l8 e,cond_false]
     simp only [rh,Exit.inBlock,if_neg e]
     exact ⟨.exit j,pe1,L1,au,g1,rfl,rfl,hc1,hr1,hd1,hl1,hu1⟩
 |loop x ih=>exact amn ih n
 |scope x ih=>exact ⟨fun pe L st q h=>(by cases h),fun pe L=>ae.fail,fun N nt _ pe L st q g w a h=>(by cases h)⟩
 |rangeFunc f ps asg body _ _=>exact ⟨fun pe L st q h=>(by cases h),fun pe L=>ae.fail,fun N nt _ pe L st q g w a h=>(by cases h)⟩
 |goto k=>exact ⟨fun pe L st q h=>(by cases h),fun pe L=>ae.fail,fun N nt _ pe L st q g w a h=>(by cases h)⟩
 |refuse why=>exact ⟨fun pe L st q h=>(by cases h),fun pe L=>ae.fail,fun N nt _ pe L st q g w a h=>(by cases h)⟩
end iter
theorem akw {g h w} {o b base:Nat} (hok:Ok g h w) (hid:g.inj o=none) (hno:h.get o=none):Step g h w o (o+1) (g.with o b base) h w∧Ok (g.with o b base) h w:=by
 have hne:∀ p q,g.inj p=some q→p≠o:=fun p q hp e=>by rw [e,hid] at hp;cases hp
 have hext:Ext g w (g.with o b base) w:=⟨rfl,fun p q hp=>(Gh.da (hne p q hp)).trans hp,fun _ _ h=>h,fun _ _ _=>rfl,fun c cs e fr h=>⟨cs,fr,h,rfl⟩,fun c l h=>⟨l,h⟩⟩
 have hinj:∀ p x,h.get p=some x→(g.with o b base).inj p=g.inj p:=fun p x hx=>Gh.da (fun e=>by rw [e,hno] at hx;cases hx)
 refine ⟨⟨hext,Nat.le_refl _,rfl,rfl,rfl,fun _ _ _=>rfl,fun p hp hr=>?_,fun p c bs hp hi=>?_,fun _ _ h=>.inl h⟩,⟨hok.size,fun p x hx=>?_,fun p p' x x' c bs bs' hpp hx hx' h1 h2=>?_,hok.K⟩⟩
 ·rw [Gh.da (fun e=>hr (by omega))];exact hp
 ·obtain ⟨x,hx⟩:=Option.isSome_iff_exists.1 hp
  rw [hinj p x hx] at hi
  exact .inr ⟨p,bs,hp,hi⟩
 ·refine (hok.j6 p x hx).imp (fun q=>⟨by rw [hinj p x hx];exact q.1,q.2⟩) ?_
  rintro ⟨c,bs,h1,h2,h3⟩
  exact ⟨c,bs,by rw [hinj p x hx];exact h1,h2,h3.ext hext rfl (fun _ hk=>hk)⟩
 ·rw [hinj p x hx] at h1
  rw [hinj p' x' hx'] at h2
  exact hok.sep p p' x x' c bs bs' hpp hx hx' h1 h2
theorem Rh:ae ad7:=fun st a au hl h=>by
 cases h
 refine ⟨Nat.le_succ _,[],[st.nx],rfl,rfl,(fun o ho=>by simp at ho;subst ho;exact Nat.lt_succ_self _),(fun o h1 h2=>by simp at h2 ⊢;omega),(fun _ _=>rfl),fun h' rl' wl' hl' _=>⟨h',rfl,fun o=>?_⟩⟩
 by_cases e:o ∈ [st.nx]
 ·rw [if_pos e]
  simp at e
  subst e
  cases h1:h'.get st.nx with
  |some x=>exact absurd (hl' _ x h1) (Nat.lt_irrefl _)
  |none=>
   cases h2:st.h.get st.nx with
   |some x=>exact absurd (hl _ x h2) (Nat.lt_irrefl _)
   |none=>rfl
 ·rw [if_neg e]
theorem alv {P:Program} {look:ft} (hT:m5 P (ru look)) (hlk:ju look) (hm:P.follows .mixedOrders=true) (ex n:Nat) (f:Operand) (ps:Array Tmp) (asg body:Code) {A B':SL→St→Option XR} (hA:Hn P ex asg A) (hB:Hn P ex body B') :
 Hn P ex (.rangeFunc f ps asg body) (sy P ex look n f ps.toList A B'):=by
 have key:∀ L st q,sy P ex look n f ps.toList A B' L st=some q→∃ gf caps nt code,wa (bo L f)=some (gf,caps)∧z5 P gf=some (nt,code)∧caps.length+1≤nt ∧
  ∃ e pe L1 au,(lq P (nv code 0) code).run look n st.nx (te ex A B' ps.toList L) none (su (nv code 0) (cq 0 (.yl st.nx::caps))) { h:=st.h,nx:=st.nx+1,rl:=st.rl,wl:=st.nx::st.wl }=some (e,pe,L1,au) ∧
   (∀ i,e ≠ .exit i)∧q=(match pe with|none=>(.normal,L,au)|some e=>(e,L,au)):=by
  intro L st q h
  unfold sy at h
  cases hf:wa (bo L f) with
  |none=>rw [hf] at h;cases h
  |some r=>
  obtain ⟨gf,caps⟩:=r
  rw [hf] at h
  simp only at h
  cases hb:z5 P gf with
  |none=>
   have:yh P gf=⟨false,0,fun _ _ _ _ _ _=>none⟩:=by unfold yh;rw [hb]
   rw [this] at h
   cases h
  |some r=>
  obtain ⟨nt,code⟩:=r
  have hix:yh P gf=⟨true,nt,fun look n y R args st=>(lq P (nv code 0) code).run look n y R none (su (nv code 0) (cq 0 args)) st⟩:=by unfold yh;rw [hb]
  rw [hix] at h
  simp only [Bool.true_and] at h
  cases hle:Nat.ble (caps.length+1) nt with
  |false=>rw [hle] at h;cases h
  |true=>
  rw [hle,cond_true] at h
  refine ⟨gf,caps,nt,code,rfl,hb,Nat.le_of_ble_eq_true hle,?_⟩
  cases hrun:(lq P (nv code 0) code).run look n st.nx (te ex A B' ps.toList L) none (su (nv code 0) (cq 0 (.yl st.nx::caps))) { h:=st.h,nx:=st.nx+1,rl:=st.rl,wl:=st.nx::st.wl } with
  |none=>rw [hrun] at h;cases h
  |some r=>
  obtain ⟨e,pe,L1,au⟩:=r
  rw [hrun] at h
  refine ⟨e,pe,L1,au,rfl,?_⟩
  cases e with
  |exit i=>cases h
  |normal=>
   refine ⟨(fun i hi=>by cases hi),?_⟩
   cases pe <;> · cases h;rfl
  |ret=>
   refine ⟨(fun i hi=>by cases hi),?_⟩
   cases pe <;> · cases h;rfl
 have hRf:∀ L args,ae (α:=Ex) (te ex A B' ps.toList L args):=fun L args=>V2 hA.jt hB.jt ps.toList L args
 have hpf:∀ (code:Code) (L:SL) (y:Nat) (L1:SL),ae (uc ((lq P (nv code 0) code).run look n y (te ex A B' ps.toList L) none L1)):=fun code L y L1=>by
  refine (Yu (l:=0) (rec:={ fn:=0,tmps:=#[],params:=#[],assign:=.skip,body:=.skip,defers:=0 }) (B:={ b0:=0,w:=default,K:=fun _ _=>True,O:=fun _=>True,aj:=y+1,pb:=fun _=>some (0,0),n0:=0 }) hT hlk (hRf L) hm ?_ trivial ⟨Nat.lt_succ_self _,rfl⟩ n code).jt none L1
  intro N args q g st w vs hlo hnr hc
  have:=hc.ok.K w.heap.size 0 (hc.base.K _ _ trivial)
  exact absurd this (Nat.lt_irrefl _)
 refine ⟨fun L st q h hw=>?_,fun L=>?_,fun ro N B nt hn0 hpl hs L st q g w a h hw hlo hnr hc hr hd=>?_⟩
 ·obtain ⟨_,_,_,_,_,_,_,e,pe,L1,au,_,_,rfl⟩:=key L st q h
  cases pe<;>exact hw
 ·cases hf:wa (bo L f) with
  |none=>exact ae.fail.congr (fun st=>by show kl (sy P ex look n f ps.toList A B' L) st=_;unfold kl sy;rw [hf];rfl)
  |some r=>
  obtain ⟨gf,caps⟩:=r
  cases hb:z5 P gf with
  |none=>
   have:yh P gf=⟨false,0,fun _ _ _ _ _ _=>none⟩:=by unfold yh;rw [hb]
   exact ae.fail.congr (fun st=>by show kl (sy P ex look n f ps.toList A B' L) st=_;unfold kl sy;rw [hf];dsimp only;rw [this];rfl)
  |some r=>
  obtain ⟨nt,code⟩:=r
  have hix:yh P gf=⟨true,nt,fun look n y R args st=>(lq P (nv code 0) code).run look n y R none (su (nv code 0) (cq 0 args)) st⟩:=by unfold yh;rw [hb]
  cases hle:Nat.ble (caps.length+1) nt with
  |false=>exact ae.fail.congr (fun st=>by show kl (sy P ex look n f ps.toList A B' L) st=_;unfold kl sy;rw [hf];dsimp only;rw [hix];dsimp only;rw [hle];rfl)
  |true=>
   refine (ae.bind Rh (fun y=>ae.bind (hpf code L y (su (nv code 0) (cq 0 (.yl y::caps)))) (fun p:Ex × Option Ex × SL=>(?_:ae (match p.1 with
    |.exit _=>M.fail
    |_=>match p.2.1 with
     |none=>M.pure (Ex.normal,L)
     |some e=>M.pure (e,L)))))).congr (fun st=>?_)
   ·split
    ·exact ae.fail
    ·split<;>exact ae.pure _
   ·show kl (sy P ex look n f ps.toList A B' L) st=_
    unfold kl sy
    rw [hf]
    dsimp only
    rw [hix]
    dsimp only
    rw [hle]
    unfold M.bind ad7 uc
    dsimp only [Bool.and_self,cond_true]
    cases (lq P (nv code 0) code).run look n st.nx (te ex A B' ps.toList L) none (su (nv code 0) (cq 0 (.yl st.nx::caps))) { h:=st.h,nx:=st.nx+1,rl:=st.rl,wl:=st.nx::st.wl } with
    |none=>rfl
    |some q=>
     obtain ⟨e,pe,L1,au⟩:=q
     cases e with
     |exit i=>rfl
     |normal=>cases pe<;>rfl
     |ret=>cases pe<;>rfl
 obtain ⟨gf,caps,nt',code,hfn,hib,hle,e0,pe0,L1,au,hrun,hne,hq⟩:=key L st q h
 have hro:ro=none:=by
  rcases hpl with hpl|hpl
  ·exact hpl
  ·cases hpl
 subst hro
 simp only [dg,Bool.and_eq_true] at hs
 obtain ⟨⟨⟨⟨hs1,hs2⟩,hs3⟩,hs4⟩,hs5⟩:=hs
 obtain ⟨fn,hf1,hf2,hf3,hf4,hf5,rfl⟩:=P3 hib
 obtain ⟨vb,hev,hcaps⟩:=L4 hfn (hr.eval f)
 refine wpIn_rangeFunc fun fno hfno=>?_
 obtain ⟨rec,hrec⟩:∃ rec:l6,rec = { fn:=fno,tmps:=a.tmps,params:=ps,assign:=asg,body:=body,defers:=w.heap.size }:=⟨_,rfl⟩
 obtain ⟨W1,hW1⟩:∃ W1,(w.alloc (.deferred (some []))).alloc (.loop (rec.at none))=W1:=⟨_,rfl⟩
 have hsz:W1.heap.size=w.heap.size+2:=by rw [← hW1];simp
 have hold:∀ b,b<w.heap.size→W1.heap[b]? = w.heap[b]? := fun b hb=>by
  rw [← hW1,RowKit.Below.heap_alloc _ _ _ (by simp;omega)];exact RowKit.Below.heap_alloc w _ _ hb
 have hL1:W1.heap[w.heap.size+1]? = some (.loop (rec.at none)):=by
  rw [← hW1];have:=World.alloc_heap_new (w.alloc (.deferred (some []))) (.loop (rec.at none));rwa [World.size_alloc] at this
 have hD1:W1.heap[w.heap.size]? = some (.deferred (some [])):=by
  rw [← hW1];exact (RowKit.Below.heap_alloc _ _ _ (by simp)).trans (World.alloc_heap_new w _)
 have hlo2:qy { h:=st.h,nx:=st.nx+1,rl:=st.rl,wl:=st.nx::st.wl }:=fun o x hx=>Nat.lt_succ_of_lt (hlo o x hx)
 have hle2:st.nx+1≤au.nx:=(hpf code L st.nx _ _ _ _ hlo2 (F3 hrun)).1
 have hq2:q.2.2=au:=by rw [hq];cases pe0<;>rfl
 have hnx:st.nx<q.2.2.nx:=by rw [hq2];omega
 have hgrow:=Tz (w':=W1) st.nx st.nx hc.ok (by omega) hold (by rw [← hW1];rfl) (by rw [← hW1];rfl) (by rw [← hW1];rfl)
 have hname:=akw (o:=st.nx) (b:=w.heap.size+1) (base:=0) hgrow.2 (hc.fresh _ (Nat.le_refl _) (hnr _ (Nat.le_refl _) hnx)) (by cases hq:st.h.get st.nx with|none=>rfl|some x=>exact absurd (hlo _ _ hq) (Nat.lt_irrefl _))
 have hgrow:Step g st.h w st.nx (st.nx+1) (g.with st.nx (w.heap.size+1) 0) st.h W1∧Ok (g.with st.nx (w.heap.size+1) 0) st.h W1:=⟨hgrow.1.trans hname.1 (Nat.le_refl _) (by omega),hname.2⟩
 obtain ⟨g2,hg2⟩:∃ g2,g.with st.nx (w.heap.size+1) 0=g2:=⟨_,rfl⟩
 have hinj2:g2.inj st.nx=some (w.heap.size+1,0):=by rw [← hg2];exact Gh.ig
 rw [hg2] at hgrow
 obtain ⟨st2,hst2⟩:∃ st2:St,st2 = { h:=st.h,nx:=st.nx+1,rl:=st.rl,wl:=st.nx::st.wl }:=⟨_,rfl⟩
 have h2h:st2.h=st.h:=by rw [hst2]
 have h2n:st2.nx=st.nx+1:=by rw [hst2]
 rw [← hst2] at hlo2
 rw [← hst2] at hrun
 have hcW:er B g2 st2 W1:=hc.step (hnr.sub (Nat.le_refl _) (by rw [h2n];exact hnx)) ⟨by rw [h2n];exact Nat.le_succ _,by rw [h2h,h2n];exact hgrow.1⟩ (by rw [h2h];exact hgrow.2)
 have hrW:=hr.ext hgrow.1.ext
 have hmW:=hd.step hgrow.1
 have hunew:∀ b,w.heap.size≤b→dr g2 st2.h b:=fun b hb o base ho hi=>by
  rw [h2h] at ho
  obtain ⟨x,hx⟩:=Option.isSome_iff_exists.1 ho
  rcases hc.ok.j6 o x hx with ⟨q0,_⟩|⟨c,base',q1,_,q3⟩
  ·exfalso
   have hlt:o≠st.nx:=fun e=>Nat.lt_irrefl _ (e ▸ hlo o x hx)
   rw [← hg2,Gh.da hlt,q0] at hi
   cases hi
  have:=hgrow.1.ext.inj o _ q1
  rw [hi] at this;cases this
  have:=q3.lt
  omega
 have hB1:=hcW.s8 st2.nx (· = w.heap.size+1) (Nat.le_refl _) (far:=B.far) (fun _ h=>h)
 have hlen:(#[Value.func (.yield (w.heap.size+1)) #[] #[]]++vb).size≤fn.ntmps:=by
  have:=hcaps.1
  simp at this ⊢
  omega
 refine ⟨w.heap.size+1,[mark w.heap.size],W1,{ target:=.fn (.func gf) vb,args:=#[.func (.yield (w.heap.size+1)) #[] #[]] },W1,gf,#[.func (.yield (w.heap.size+1)) #[] #[]]++vb,W1,?_,?_,fun _ _=>trivial,?_,(fun h=>(by cases h)),?_⟩
 ·rw [← hW1,hrec];exact run_enterLoop_outer _ _ _ _ _
 ·simp only [resolve,hev]
  simp [go_sem]
 ·simp [invoke,go_sem,qp hf3]
 ·refine callsIn_of_wp_marks hf1 hf2 trivial ?_
  have hR:=ajx (P:=P) (B1:=ew g2 st2.h W1 st2.nx (· = w.heap.size+1) B.far) (l:=w.heap.size+1) (nt:=nt) (rec:=rec) (L0:=L) (by rw [hrec];exact hA) (by rw [hrec];exact hB) (by rw [hrec];simpa [Array.all_toList] using hs1) (by rw [hrec];exact hs2) (by rw [hrec];exact hs3) (by rw [hrec];exact hs4) (by rw [hrec];exact hs5) hw
   (fun g' h' w' hb=>by rw [hrec];exact hrW.ext (hb.E9 hcW.fresh))
  have hR':agd P (w.heap.size+1) rec (te ex A B' ps.toList L) (ew g2 st2.h W1 st2.nx (· = w.heap.size+1) B.far):=by rw [hrec] at hR ⊢;exact hR
  have hrel:di g2 W1 fn.ntmps (cq 0 (.yl st.nx::caps)) ((#[Value.func (.yield (w.heap.size+1)) #[] #[]]++vb)++Array.replicate (fn.ntmps - (#[Value.func (.yield (w.heap.size+1)) #[] #[]]++vb).size) undef):=by
   have hrl:bc g2 W1 (.yl st.nx::caps) (.func (.yield (w.heap.size+1)) #[] #[]::vb.toList):=bc.cons (.yl _ _ _ hinj2) (hcaps.ext hgrow.1.ext)
   have:=u6 (nt:=fn.ntmps) hrl (by simpa using hle)
   have e:(Value.func (.yield (w.heap.size+1)) #[] #[]::vb.toList).toArray = #[Value.func (.yield (w.heap.size+1)) #[] #[]]++vb:=by apply Array.ext';simp
   rw [e] at this
   exact this
  have hpin:st.nx<(ew g2 st2.h W1 st2.nx (· = w.heap.size+1) B.far).aj∧(ew g2 st2.h W1 st2.nx (· = w.heap.size+1) B.far).pb st.nx=some (w.heap.size+1,0):=by
   refine ⟨by show st.nx<st2.nx;omega,?_⟩
   exact hinj2
  have hax:=Oo (nv code 0) (cq 0 (.yl st.nx::caps))
  have hw1:=(Yu (ex:=nv code 0) (B:=ew g2 st2.h W1 st2.nx (· = w.heap.size+1) B.far) hT hlk (hRf L) hm hR' (.inl rfl) hpin n code).wp (N - 1) fn.ntmps hf4 none _ st2 _ g2 W1 { tmps:=(#[Value.func (.yield (w.heap.size+1)) #[] #[]]++vb)++Array.replicate (fn.ntmps - (#[Value.func (.yield (w.heap.size+1)) #[] #[]]++vb).size) undef,defers:=[] } hrun hax.2 hlo2 (hnr.sub (by rw [h2n];exact Nat.le_succ _) (by rw [hq2];exact Nat.le_refl _)) hB1 (hrel.less hax.1) rfl hL1 (hunew _ (by omega))
  refine wpIn_mono hw1 ?_
  rintro exx a' w' ⟨e,pe,L',st',g',rfl,heq,hc',hr',hd',hl',hu'⟩
  cases heq
  have fin:bodyPostM (ee none) (N - 1) P fn (rangePost (ee none) N P (w.heap.size+1) (Fin B nt (fun e L st=>(e,L,st)=q)) { a with defers:=[mark w.heap.size]++a.defers }) .ret a' w':=by
   show LeavesInM (ee none) (N - 1) P fn a'.tmps _ a'.defers .returning w'
   rw [hd']
   have hres:(results fn a'.tmps).run P w' = .ok (.tuple #[]) w':=by simp [results,hf5]
   refine ⟨_,hres,?_⟩
   have hend:=run_endLoop (P:=P) hl' (by cases pe0<;>simp [l6.at])
   refine ⟨_,_,hend,?_⟩
   have hput:=nh (r':={ rec.at pe0 with state:=.exhausted }) hc' hl' hu' (.inl rfl)
   have hb:=hput.1.base
   have hcB:er B g' au (fo w' (w.heap.size+1) (.loop { rec.at pe0 with state:=.exhausted })):=⟨hput.1.ok,hput.1.fresh,hcW.base.comp hb hcW.aj (fun _ h=>h) (fun n hn=>by subst hn;have:=hc.base.size;exact .inl (by omega)),Nat.le_trans hcW.aj hput.1.aj⟩
   have hrB:=hrW.ext (hb.E9 hcW.fresh)
   have hmB:Marks B.n0 au.h g' (fo w' (w.heap.size+1) (.loop { rec.at pe0 with state:=.exhausted })) ([mark w.heap.size]++a.defers):=by
    have hm2:Marks B.n0 st2.h g2 W1 ([mark w.heap.size]++a.defers):=by
     rw [h2h]
     obtain ⟨bs,e1,e2,e3⟩:=hmW
     obtain ⟨bs0,e10,e20,e30⟩:=hd
     have hbs:bs=bs0:=by
      have:bs.map mark=bs0.map mark:=e1.symm.trans e10
      exact (List.map_inj_right (fun x y e=>by simpa [mark] using e)).1 this
     subst hbs
     refine ⟨w.heap.size::bs,by simp [e1],List.nodup_cons.2 ⟨fun hmem=>?_,e2⟩,fun b hb=>?_⟩
     ·have:=bn (e30 _ hmem).2.1;omega
     ·rcases List.mem_cons.1 hb with rfl|hb
      ·have:=hc.base.size
       exact ⟨by omega,hD1,by have:=hunew w.heap.size (Nat.le_refl _);rwa [h2h] at this⟩
      ·exact e3 b hb
    exact Marks.base hb hm2 (fun b hbl=>by subst hbl;exact ⟨_,hL1⟩)
   cases pe0 with
   |none=>exact Fin.mk' (e:=.normal) hq.symm hcB hrB hmB
   |some e=>
    show (X7 e).wpIn (ee none) N P (Fin B nt _) _ _
    cases e with
    |normal=>exact wpIn_skip (Fin.mk' (e:=.normal) hq.symm hcB hrB hmB)
    |ret=>exact wpIn_ret (Fin.mk' (e:=.ret) hq.symm hcB hrB hmB)
    |exit id=>exact wpIn_exit (Fin.mk' (e:=.exit id) hq.symm hcB hrB hmB)
  cases e0 with
  |normal=>exact fin
  |ret=>exact fin
  |exit id=>exact (hne id rfl).elim
end
end Go.Vm
