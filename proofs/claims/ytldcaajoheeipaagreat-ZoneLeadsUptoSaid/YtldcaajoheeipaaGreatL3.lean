/- A piece of the proof. Proved: where the arguments are together of bulk at most 1048576, the law ZoneLeads returns true (a set put in and taken out), and what it was given reads afterwards as it did before. No other conditions. -/
import Derived.WalkKit
import Derived.CallsIn
import Derived.RangeFuncIn
import Derived.RangeFuncLeaves
import Derived.Orders
import Derived.OrdersIn
import Derived.Scope
import Derived.RangeFuncOwn
import Derived.Stop.SameAnswer
import Derived.Laws.Externs
import Derived.Lib.Bytealg
import Derived.ProofKit
import Derived.OpenShut
import Derived.ReadAgain
import Derived.Deep.Slices
import Derived.ChangeSame
import Derived.Test.YtldcaajoheeipaaGreatProg
import Derived.KernelRfl
import Derived.Test.YtldcaajoheeipaaGreatRows
import Derived.Maps.RangeRun
import Derived.JoinedCond
import Derived.Test.YtldcaajoheeipaaGreatL2
set_option linter.unusedSimpArgs false
set_option linter.unusedVariables false
section
namespace Go.Proofs.YtldcaajoheeipaaGreat
open Go.Vm
set_option maxRecDepth 2000000
theorem ak6 (n:Name):(qy n).length≤b7 n:=by
 unfold qy nameBytes
 split
 ·exact Nat.zero_le _
 ·have:=Bb n;rw [List.length_append];simp only [List.length_cons,List.length_nil];omega
noncomputable def Ou (t:UInt16) (n:UInt32):List UInt8:=(Dp n).drop (4 - (n5 t).size).toNat
def u4 (t:UInt16):Nat→List ByteArray→List UInt8
 |_,[]=>[]
 |i,x::r=>(if (t.toNat:Int)=16∨i=0 then [UInt8.ofNat x.size] else [])++x.data.toList++u4 t (i+1) r
noncomputable def Af (t:UInt16) (d:bq):List UInt8:=d.nums.flatMap (Ou t)
def yp (d:bq):List UInt8:=d.names.flatMap qy
def we (t:UInt16) (d:bq):List UInt8:=u4 t 0 d.texts
noncomputable def yc (t:UInt16) (d:bq):List UInt8:=if (t.toNat:Int)=6 then yp d++Af t d else Af t d++(yp d++(we t d++d.raw))
theorem Ih (n):(Dp n).length=4:=rfl
theorem ada {α:Type} (f : α→List UInt8) (μ : α→Nat) (h:∀ x,(f x).length ≤ μ x) (l:List α):(l.flatMap f).length≤gz μ l:=by
 induction l with
 |nil=>simp
 |cons a l ih=>have:=h a;simp only [List.flatMap_cons,List.length_append,gz,List.foldr_cons] at ih ⊢;omega
theorem ahy (t:UInt16) (l:List ByteArray):∀ i,(u4 t i l).length≤gz ByteArray.size l:=by
 induction l with
 |nil=>intro i;simp [u4]
 |cons a l ih=>
  intro i
  have:=ih (i+1)
  have ha:a.data.size=a.size:=rfl
  simp only [u4,List.length_append,gz,List.foldr_cons,Array.length_toList] at this ⊢
  split<;>simp<;>omega
theorem akx (t d):(Af t d).length≤4 * d.nums.length:=by
 unfold Af
 induction d.nums with
 |nil=>simp
 |cons a l ih=>
  have:(Ou t a).length≤4:=by unfold Ou;rw [List.length_drop,Ih];omega
  simp only [List.flatMap_cons,List.length_append,List.length_cons];omega
theorem de.written {d:bq} (h:de d) (t):(Af t d).length≤67108864∧(yp d).length≤16777216∧(we t d).length≤16777216:=by
 have h1:=akx t d
 have h2:(yp d).length≤gz b7 d.names:=ada qy b7 ak6 d.names
 have h3:(we t d).length≤gz ByteArray.size d.texts:=ahy t d.texts 0
 unfold de A7 at h
 omega
theorem O9 {α:Type} {l:List α} {i:Nat} {c : α} (f : α→List UInt8) (h:l.drop i=c::l.drop (i+1)):(l.drop i).flatMap f=f c++(l.drop (i+1)).flatMap f:=by rw [h];rfl
theorem Pj (c):(Dp c).take 4=Dp c:=rfl
theorem afj (t) (c):(Dp c).drop (4 - (n5 t).size).toNat=Ou t c:=rfl
theorem akv (t:UInt16) {l:List ByteArray} {i:Nat} {c:ByteArray} (h:l.drop i=c::l.drop (i+1)):u4 t i (l.drop i)=(if (t.toNat:Int)=16∨i=0 then [UInt8.ofNat c.size] else [])++c.data.toList++u4 t (i+1) (l.drop (i+1)):=by rw [h];rfl
theorem aom (t:UInt16) (d:bq) (hd:de d):wl PP [Td,arj,ag0,aq1] 0 (Tryz.f75.body.getD .skip) (dv PP Tryz.f75.results.toList (fun r st=>(r1 (cj bu)).get true st.h r=some (yc t d))) (b9 0 [cw.val false t,aq.val false d]) (bj []):=by
 have hl:=hd.lens
 have hk:=hd.written t
 have hs:=Rh t
 unfold Tryz.f75
 simp only [ky,dy]
 simp only [↓wR,RA,simprocAttr,TF,Cv,Df]
 refine kf [0,3,6,7,8,21,22,23,5] (fun (x:Nat × List UInt8)=>[.sc (.int .u16 t.toNat),.ptr 0 0,.sc (.slice none 0 0),.sc (.slice none 0 0),.ptr 1 0,.vl false 1 (d.nums.map (c0.val false)),.sc (.int .i64 (d.nums.length)),.sc (.int .i64 (x.1)),.sl 2 0 x.2.length 1]) (fun x=>[some (.row [.vl false 1 (d.names.map (aw.val false)),.vl false 1 (d.nums.map (c0.val false)),.vl false 1 (d.texts.map (ak.val false)),.vl false 1 (d.raw.map (bu.val false))] 0 2 71),some (.row [.sc (.int .i64 (n5 t).names),.sc (.int .i64 (n5 t).nums),.sc (.int .i64 (n5 t).size),.sc (.int .i64 (n5 t).texts),.sc (.int .i64 (n5 t).raw)] 0 2 118),some (.row (x.2.map (bu.val false)) 0 0 5)]) (fun x=>x.1≤d.nums.length∧x.2++(d.nums.drop x.1).flatMap (Ou t)=Af t d) (fun x=>d.nums.length - x.1) (0,[]) ⟨Nat.zero_le _,rfl⟩ (by simp only [↓wR,RA,simprocAttr,TF];(refine sd.lax [] (by first|exact Nat.le_of_ble_eq_true rfl|(simp [b8];omega)) ?_ ?_<;>repeat' first|exact i5.nil|exact dg.nil|exact jd.same _|exact jd.nil _ _ _|exact jd.vv _ _|exact dg.refl _ _|apply i5.cons|apply dg.ghost|apply dg.same|apply dg.row)) ?_
 rintro ⟨i,x⟩ ⟨hi,hx⟩
 simp only at hi hx
 simp only [↓wR,RA,simprocAttr,TF]
 rw [bc];refine ⟨fun h=>?_,fun h=>?_⟩
 ·obtain ⟨c,hc,hd1,hlt⟩:=ek (decide_eq_true h)
  rw [O9 _ hd1] at hx
  have hxl:x.length+(Ou t c).length≤(Af t d).length:=by rw [← hx];simp
  simp only [↓wR,RA,simprocAttr,TF,h,hc,Lo,Ih,Pj,afj];repeat (simp (disch:=omega) only [ah,be,bf,bd,bg];try simp only [↓wR,RA,simprocAttr,TF,h,hc,Lo,Ih,Pj,afj])
  exact ⟨(i+1,x++Ou t c),⟨hlt,by rw [List.append_assoc];exact hx⟩,by simp;omega,by (first|rfl|trivial|omega|((try (simp (disch:=omega) only [ah]));(try (simp only [FB]));first|done|rfl|omega)),by (first|rfl|trivial|omega|((try (simp (disch:=omega) only [ah]));(try (simp only [FB]));first|done|rfl|omega))⟩
 rw [ig (decide_eq_false h)] at hx
 obtain rfl:x=Af t d:=by simpa using hx
 clear hx
 simp only [↓wR,RA,simprocAttr,TF,h]
 obtain ⟨nu,hnu⟩:∃ nu,Af t d=nu:=⟨_,rfl⟩
 rw [hnu] at hk ⊢
 refine kf [0,3,7,38,39,40,5,6] (fun (x:Nat × List UInt8)=>[.sc (.int .u16 t.toNat),.ptr 0 0,.sc (.slice none 0 0),.vl false 1 (d.names.map (aw.val false)),.sc (.int .i64 (d.names.length)),.sc (.int .i64 (x.1)),.sl 1 0 nu.length 1,.sl 2 0 x.2.length 1]) (fun x=>[some (.row [.vl false 1 (d.names.map (aw.val false)),.vl false 1 (d.nums.map (c0.val false)),.vl false 1 (d.texts.map (ak.val false)),.vl false 1 (d.raw.map (bu.val false))] 0 2 71),some (.row (nu.map (bu.val false)) 0 0 5),some (.row (x.2.map (bu.val false)) 0 0 5)]) (fun x=>x.1≤d.names.length∧x.2++(d.names.drop x.1).flatMap qy=yp d) (fun x=>d.names.length - x.1) (0,[]) ⟨Nat.zero_le _,rfl⟩ (by simp only [↓wR,RA,simprocAttr,TF];(refine sd.lax [] (by first|exact Nat.le_of_ble_eq_true rfl|(simp [b8];omega)) ?_ ?_<;>repeat' first|exact i5.nil|exact dg.nil|exact jd.same _|exact jd.nil _ _ _|exact jd.vv _ _|exact dg.refl _ _|apply i5.cons|apply dg.ghost|apply dg.same|apply dg.row)) ?_
 clear h
 rintro ⟨i,x⟩ ⟨hi,hx⟩
 simp only at hi hx
 simp only [↓wR,RA,simprocAttr,TF]
 rw [bc];refine ⟨fun h=>?_,fun h=>?_⟩
 ·obtain ⟨c,hc,hd1,hlt⟩:=ek (decide_eq_true h)
  rw [O9 _ hd1] at hx
  have hxl:x.length+(qy c).length≤(yp d).length:=by rw [← hx];simp
  simp only [↓wR,RA,simprocAttr,TF,h,hc,tp,hd.name c (List.mem_of_getElem? hc)];repeat (simp (disch:=omega) only [ah,be,bf,bd,bg];try simp only [↓wR,RA,simprocAttr,TF,h,hc,tp,hd.name c (List.mem_of_getElem? hc)])
  exact ⟨(i+1,x++qy c),⟨hlt,by rw [List.append_assoc];exact hx⟩,by simp;omega,by (first|rfl|trivial|omega|((try (simp (disch:=omega) only [ah]));(try (simp only [FB]));first|done|rfl|omega)),by (first|rfl|trivial|omega|((try (simp (disch:=omega) only [ah]));(try (simp only [FB]));first|done|rfl|omega))⟩
 rw [ig (decide_eq_false h)] at hx
 obtain rfl:x=yp d:=by simpa using hx
 clear hx
 simp only [↓wR,RA,simprocAttr,TF,h]
 obtain ⟨na,hna⟩:∃ na,yp d=na:=⟨_,rfl⟩
 rw [hna] at hk ⊢
 refine kf [0,3,54,55,56,5,6,7] (fun (x:Nat × List UInt8)=>[.sc (.int .u16 t.toNat),.ptr 0 0,.vl false 1 (d.texts.map (ak.val false)),.sc (.int .i64 (d.texts.length)),.sc (.int .i64 (x.1)),.sl 1 0 nu.length 1,.sl 2 0 na.length 1,.sl 3 0 x.2.length 1]) (fun x=>[some (.row [.vl false 1 (d.names.map (aw.val false)),.vl false 1 (d.nums.map (c0.val false)),.vl false 1 (d.texts.map (ak.val false)),.vl false 1 (d.raw.map (bu.val false))] 0 2 71),some (.row (nu.map (bu.val false)) 0 0 5),some (.row (na.map (bu.val false)) 0 0 5),some (.row (x.2.map (bu.val false)) 0 0 5)]) (fun x=>x.1≤d.texts.length∧x.2++u4 t x.1 (d.texts.drop x.1)=we t d) (fun x=>d.texts.length - x.1) (0,[]) ⟨Nat.zero_le _,rfl⟩ (by simp only [↓wR,RA,simprocAttr,TF];(refine sd.lax [] (by first|exact Nat.le_of_ble_eq_true rfl|(simp [b8];omega)) ?_ ?_<;>repeat' first|exact i5.nil|exact dg.nil|exact jd.same _|exact jd.nil _ _ _|exact jd.vv _ _|exact dg.refl _ _|apply i5.cons|apply dg.ghost|apply dg.same|apply dg.row)) ?_
 clear h
 rintro ⟨i,x⟩ ⟨hi,hx⟩
 simp only at hi hx
 simp only [↓wR,RA,simprocAttr,TF]
 rw [bc];refine ⟨fun h=>?_,fun h=>?_⟩
 ·obtain ⟨c,hc,hd1,hlt⟩:=ek (decide_eq_true h)
  rw [akv _ hd1] at hx
  have hxl:x.length+((if (t.toNat:Int)=16∨i=0 then [UInt8.ofNat c.size] else []).length+c.size)≤(we t d).length:=by rw [← hx];simp
  have hcs:c.data.toList.length=c.size:=by simp
  simp only [↓wR,RA,simprocAttr,TF,h,hc];repeat (simp (disch:=omega) only [ah,be,bf,bd,bg];try simp only [↓wR,RA,simprocAttr,TF,h,hc])
  have fin:∀ b:List UInt8,x++(b++c.data.toList++u4 t (i+1) (d.texts.drop (i+1)))=we t d→x++b++c.data.toList++u4 t (i+1) (d.texts.drop (i+1))=we t d:=fun b hb=>by rw [← hb];simp
  rw [di];refine ⟨fun ⟨h16,e16⟩=>?_,fun ⟨h16,e16⟩=>?_⟩
  ·rw [if_pos (.inl e16)] at hx hxl
   simp only [List.length_cons,List.length_nil] at hxl
   simp only [↓wR,RA,simprocAttr,TF,h16];repeat (simp (disch:=omega) only [ah,be,bf,bd,bg];try simp only [↓wR,RA,simprocAttr,TF,h16])
   exact ⟨(i+1,x++[UInt8.ofNat c.size]++c.data.toList),⟨hlt,fin _ hx⟩,by simp;omega,by (first|rfl|trivial|omega|((try (simp (disch:=omega) only [ah]));(try (simp only [FB]));first|done|rfl|omega)),by (first|rfl|trivial|omega|((try (simp (disch:=omega) only [ah]));(try (simp only [FB]));first|done|rfl|omega))⟩
  ·simp only [↓wR,RA,simprocAttr,TF,h16];repeat (simp (disch:=omega) only [ah,be,bf,bd,bg];try simp only [↓wR,RA,simprocAttr,TF,h16])
   rw [di];refine ⟨fun ⟨h0,e0⟩=>?_,fun ⟨h0,e0⟩=>?_⟩
   ·rw [if_pos (.inr (by omega))] at hx hxl
    simp only [List.length_cons,List.length_nil] at hxl
    simp only [↓wR,RA,simprocAttr,TF,h0];repeat (simp (disch:=omega) only [ah,be,bf,bd,bg];try simp only [↓wR,RA,simprocAttr,TF,h0])
    exact ⟨(i+1,x++[UInt8.ofNat c.size]++c.data.toList),⟨hlt,fin _ hx⟩,by simp;omega,by (first|rfl|trivial|omega|((try (simp (disch:=omega) only [ah]));(try (simp only [FB]));first|done|rfl|omega)),by (first|rfl|trivial|omega|((try (simp (disch:=omega) only [ah]));(try (simp only [FB]));first|done|rfl|omega))⟩
   ·rw [if_neg (by omega)] at hx hxl
    simp only [List.length_nil] at hxl
    simp only [↓wR,RA,simprocAttr,TF,h0];repeat (simp (disch:=omega) only [ah,be,bf,bd,bg];try simp only [↓wR,RA,simprocAttr,TF,h0])
    exact ⟨(i+1,x++c.data.toList),⟨hlt,by have:=fin _ hx;simpa using this⟩,by simp;omega,by (first|rfl|trivial|omega|((try (simp (disch:=omega) only [ah]));(try (simp only [FB]));first|done|rfl|omega)),by (first|rfl|trivial|omega|((try (simp (disch:=omega) only [ah]));(try (simp only [FB]));first|done|rfl|omega))⟩
 rw [ig (decide_eq_false h)] at hx
 obtain rfl:x=we t d:=by simpa [u4] using hx
 clear hx
 simp only [↓wR,RA,simprocAttr,TF,h];repeat (simp (disch:=omega) only [ah,be,bf,bd,bg];try simp only [↓wR,RA,simprocAttr,TF,h])
 unfold yc
 rw [hnu,hna]
 rw [di];refine ⟨fun ⟨h6,e6⟩=>?_,fun ⟨h6,e6⟩=>?_⟩
 ·rw [if_pos e6]
  simp only [↓wR,RA,simprocAttr,TF,h6];repeat (simp (disch:=omega) only [ah,be,bf,bd,bg];try simp only [↓wR,RA,simprocAttr,TF,h6])
 ·rw [if_neg e6]
  have hcat:nu.length+(na.length+((we t d).length+d.raw.length))≤134217728:=by omega
  simp only [↓wR,RA,simprocAttr,TF,h6,zx,hcat];repeat (simp (disch:=omega) only [ah,be,bf,bd,bg];try simp only [↓wR,RA,simprocAttr,TF,h6,zx,hcat])
  rw [← List.map_append,← List.map_append,← List.map_append]
  exact rtT (cj bu) _ _
noncomputable def tu (x:UInt16 × bq × Unit):Option AV:=if de x.2.1 then some ((r1 (cj bu)).E true (yc x.1 x.2.1)) else none
set_option maxRecDepth 2000000 in
theorem D7 (x:UInt16 × bq × Unit) (r:AV) (h:tu x=some r):br PP 75 ((aC cw (aC aq a0)).E x) r:=by
 by_cases hc:de x.2.1
 case neg=>simp only [tu,if_neg hc] at h;cases h
 simp only [tu,if_pos hc] at h
 cases h
 exact bb (an.cons (ar Cm) (an.cons (ar aef) (an.cons (ar Rq) (an.cons (ar aa8) (an.nil PP))))) Tryz.func75 (by kernel_rfl) (by kernel_rfl) (by kernel_rfl) (Nat.le_of_ble_eq_true (by kernel_rfl)) (r1 (cj bu)) true (yc x.1 x.2.1) (aom x.1 x.2.1 hc)
noncomputable abbrev Pg:Nat × Bool × (List AV→M AV):=(75,true,dh (aC cw (aC aq a0)) tu)
theorem adk (d:bq) (hd:de d):wl PP [abr,ab0,agd,zn] 0 (Tryz.f44.body.getD .skip) (dv PP Tryz.f44.results.toList (fun r st=>(r1 aq).get true st.h r=some d)) (b9 0 [aq.val false d]) (bj []):=by
 have hl:=hd.lens
 have l2:=hl.2.1
 have l3:=hl.2.2.1
 have l4:=hl.2.2.2
 unfold Tryz.f44
 simp only [ky,dy]
 simp only [↓wR,RA,simprocAttr,TF]
 refine ⟨by kernel_rfl,.inl ?_⟩
 simp only [↓wR,RA,simprocAttr,TF,w9,xe,za,l2,l3,l4]
 refine ⟨by kernel_rfl,?_⟩
 refine kf [2,17,18,19,3] (fun (x:List Name)=>[.ptr 0 0,.vl false 1 (d.names.map (aw.val false)),.sc (.int .i64 (d.names.length)),.sc (.int .i64 (x.length)),.ptr 1 0]) (fun x=>[some (.row [.sc (.slice none 0 0),.sc (.slice none 0 0),.sc (.slice none 0 0),.sc (.slice none 0 0)] 0 2 71),some (.row [.sl 2 0 x.length 1,.vl true 1 (d.nums.map (c0.val false)),.vl true 1 (d.texts.map (ak.val false)),.vl true 1 (d.raw.map (bu.val false))] 0 2 71),some (.row (x.map (aw.val true)) 0 0 23)]) (fun x=>x.length≤d.names.length∧x++d.names.drop x.length=d.names) (fun x=>d.names.length - x.length) [] ⟨Nat.zero_le _,rfl⟩ (by simp only [↓wR,RA,simprocAttr,TF];(refine sd.lax [] (by first|exact Nat.le_of_ble_eq_true rfl|(simp [b8];omega)) ?_ ?_<;>repeat' first|exact i5.nil|exact dg.nil|exact jd.same _|exact jd.nil _ _ _|exact jd.vv _ _|exact dg.refl _ _|apply i5.cons|apply dg.ghost|apply dg.same|apply dg.row)) ?_
 rintro x ⟨hi,hx⟩
 simp only [↓wR,RA,simprocAttr,TF]
 rw [bc];refine ⟨fun h=>?_,fun h=>?_⟩
 ·obtain ⟨c,hc,hd1,hlt⟩:=ek (decide_eq_true h)
  rw [hd1] at hx
  have hlim:(x.length+1) * 24≤140737488355328:=by omega
  simp only [↓wR,RA,simprocAttr,TF,h,hc]
  refine ⟨by kernel_rfl,.inl ?_⟩
  simp only [↓wR,RA,simprocAttr,TF,pn,hd.name c (List.mem_of_getElem? hc),hlim]
  refine ⟨by kernel_rfl,?_⟩
  exact ⟨x++[c],⟨by simp;omega,by simpa using hx⟩,by simp;omega,by (first|rfl|trivial|omega|((try (simp (disch:=omega) only [ah]));(try (simp only [FB]));first|done|rfl|omega)),by (first|rfl|trivial|omega|((try (simp (disch:=omega) only [ah]));(try (simp only [FB]));first|done|rfl|omega))⟩
 ·rw [ig (decide_eq_false h)] at hx
  rw [List.append_nil] at hx
  subst hx
  simp only [↓wR,RA,simprocAttr,TF,h]
noncomputable def xl (x:bq × Unit):Option AV:=if de x.1 then some ((r1 aq).E true (x.1)) else none
set_option maxRecDepth 2000000 in
theorem Ho (x:bq × Unit) (r:AV) (h:xl x=some r):br PP 44 ((aC aq a0).E x) r:=by
 by_cases hc:de x.1
 case neg=>simp only [xl,if_neg hc] at h;cases h
 simp only [xl,if_pos hc] at h
 cases h
 exact bb (an.cons (ar H0) (an.cons (ar Hx) (an.cons (ar Ic) (an.cons (ar qh) (an.nil PP))))) Tryz.func44 (by kernel_rfl) (by kernel_rfl) (by kernel_rfl) (Nat.le_of_ble_eq_true (by kernel_rfl)) (r1 aq) true (x.1) (adk x.1 hc)
noncomputable abbrev Yd:Nat × Bool × (List AV→M AV):=(44,true,dh (aC aq a0) xl)
def p9 {α:Type} (f : α → α) (l:List α) (i:Nat):List α:=(l.take i).map f++l.drop i
theorem ahm {α:Type} (f : α → α) (l:List α) (i:Nat):(p9 f l i).length=l.length:=by simp [p9];omega
theorem ag1 {α:Type} (f : α → α) {l:List α} {i:Nat} {c : α} (h:l[i]? = some c):(p9 f l i)[i]? = some c:=by
 obtain ⟨hi,rfl⟩:=List.getElem?_eq_some_iff.1 h
 have hl:((l.take i).map f).length=i:=by simp;omega
 rw [p9,List.getElem?_append_right (by omega),hl,Nat.sub_self,List.getElem?_drop];simp [h]
theorem ah2 {α:Type} (f : α → α) {l:List α} {i:Nat} {c : α} (h:l[i]? = some c):(p9 f l i).take i++[f c]++(p9 f l i).drop (i+1)=p9 f l (i+1):=by
 obtain ⟨hi,rfl⟩:=List.getElem?_eq_some_iff.1 h
 have h1:((l.take i).map f).length=i:=by simp;omega
 have h2:(p9 f l i).take i=(l.take i).map f:=by rw [p9,List.take_append_of_le_length (by omega),List.take_of_length_le (by omega)]
 have h3:(p9 f l i).drop (i+1)=l.drop (i+1):=by
  rw [p9,List.drop_append,List.drop_eq_nil_of_le (by omega),h1]
  simp
 rw [h2,h3,p9,List.take_succ_eq_append_getElem hi,List.map_append]
 rfl
theorem agr {α:Type} (f : α → α) (l:List α):p9 f l l.length=l.map f:=by simp [p9]
noncomputable def jx (t:UInt16) (d:bq):bq:=if 0<(n5 t).names then { d with names:=d.names.map g6 } else d
theorem aec (t:UInt16) (d:bq) (hd:de d):wl PP [Td,anv] 0 (Tryz.f61.body.getD .skip) (dv PP Tryz.f61.results.toList (fun r st=>(r1 aq).get true st.h r=some (jx t d))) (b9 0 [cw.val false t,aq.val false d]) (bj []):=by
 have hl:=hd.lens
 have l2:=hl.2.1
 have l3:=hl.2.2.1
 have l4:=hl.2.2.2
 unfold Tryz.f61
 simp only [ky,dy]
 simp only [↓wR,RA,simprocAttr,TF]
 refine bn (T:=[abr,ab0,agd,zn]) (an.cons (ar H0) (an.cons (ar Hx) (an.cons (ar Ic) (an.cons (ar qh) (an.nil PP))))) mixed Tryz.func44 rfl (by kernel_rfl) (by kernel_rfl) (by kernel_rfl) (by kernel_rfl) ?_;unfold Tryz.f44
 simp only [↓wR,RA,simprocAttr,TF]
 refine ⟨by kernel_rfl,.inl ?_⟩
 simp only [↓wR,RA,simprocAttr,TF,w9,xe,za,l2,l3,l4]
 refine ⟨by kernel_rfl,?_⟩
 refine kf [2,17,18,19,3] (fun (x:List Name)=>[.ptr 2 0,.vl false 1 (d.names.map (aw.val false)),.sc (.int .i64 (d.names.length)),.sc (.int .i64 (x.length)),.ptr 3 0]) (fun x=>[some (.row [.vl false 1 (d.names.map (aw.val false)),.vl false 1 (d.nums.map (c0.val false)),.vl false 1 (d.texts.map (ak.val false)),.vl false 1 (d.raw.map (bu.val false))] 0 2 71),some (.row [.sc (.slice none 0 0),.sc (.slice none 0 0),.sc (.slice none 0 0),.sc (.slice none 0 0)] 0 2 71),some (.row [.sc (.slice none 0 0),.sc (.slice none 0 0),.sc (.slice none 0 0),.sc (.slice none 0 0)] 0 2 71),some (.row [.sl 4 0 x.length 1,.vl true 1 (d.nums.map (c0.val false)),.vl true 1 (d.texts.map (ak.val false)),.vl true 1 (d.raw.map (bu.val false))] 0 2 71),some (.row (x.map (aw.val true)) 0 0 23)]) (fun x=>x.length≤d.names.length∧x++d.names.drop x.length=d.names) (fun x=>d.names.length - x.length) [] ⟨Nat.zero_le _,rfl⟩ (by simp only [↓wR,RA,simprocAttr,TF];(refine sd.lax [] (by first|exact Nat.le_of_ble_eq_true rfl|(simp [b8];omega)) ?_ ?_<;>repeat' first|exact i5.nil|exact dg.nil|exact jd.same _|exact jd.nil _ _ _|exact jd.vv _ _|exact dg.refl _ _|apply i5.cons|apply dg.ghost|apply dg.same|apply dg.row)) ?_
 rintro x ⟨hi,hx⟩
 simp only [↓wR,RA,simprocAttr,TF]
 rw [bc];refine ⟨fun h=>?_,fun h=>?_⟩
 ·obtain ⟨c,hc,hd1,hlt⟩:=ek (decide_eq_true h)
  rw [hd1] at hx
  have hlim:(x.length+1) * 24≤140737488355328:=by omega
  simp only [↓wR,RA,simprocAttr,TF,h,hc]
  refine ⟨by kernel_rfl,.inl ?_⟩
  simp only [↓wR,RA,simprocAttr,TF,pn,hd.name c (List.mem_of_getElem? hc),hlim]
  refine ⟨by kernel_rfl,?_⟩
  exact ⟨x++[c],⟨by simp;omega,by simpa using hx⟩,by simp;omega,by (first|rfl|trivial|omega|((try (simp (disch:=omega) only [ah]));(try (simp only [FB]));first|done|rfl|omega)),by (first|rfl|trivial|omega|((try (simp (disch:=omega) only [ah]));(try (simp only [FB]));first|done|rfl|omega))⟩
 rw [ig (decide_eq_false h)] at hx
 rw [List.append_nil] at hx
 subst hx
 simp only [↓wR,RA,simprocAttr,TF,h,Cv,Df]
 unfold jx
 clear hi h
 rw [bc];refine ⟨fun h0=>?_,fun h0=>?_⟩
 ·rw [if_pos h0]
  simp only [↓wR,RA,simprocAttr,TF,h0]
  refine cq [4,5,15,16,17] (fun (i:Nat)=>[.ptr 0 0,.ptr 1 0,.sl 2 0 d.names.length 1,.sc (.int .i64 (d.names.length)),.sc (.int .i64 (i))]) (fun i=>[some (.row [.sc (.slice none 0 0),.sc (.slice none 0 0),.sc (.slice none 0 0),.sc (.slice none 0 0)] 0 2 71),some (.row [.sl 2 0 d.names.length 1,.vl true 1 (d.nums.map (c0.val false)),.vl true 1 (d.texts.map (ak.val false)),.vl true 1 (d.raw.map (bu.val false))] 0 2 71),some (.row ((p9 g6 d.names i).map (aw.val true)) 0 0 23)]) (fun i=>i≤d.names.length) (fun i=>d.names.length - i) 0 (Nat.zero_le _) (by simp only [↓wR,RA,simprocAttr,TF]<;>rfl) (by simp only [↓wR,RA,simprocAttr,TF]<;>rfl) ?_
  intro i hi
  simp only [↓wR,RA,simprocAttr,TF]
  rw [bc];refine ⟨fun h=>?_,fun h=>?_⟩
  ·obtain ⟨c,hc,hd1,hlt⟩:=ek (decide_eq_true h)
   have hs:=ag1 g6 hc
   have hlen:=ahm g6 d.names i
   have hlt':i+1≤d.names.length:=hlt
   simp only [↓wR,RA,simprocAttr,TF,h,hs,hlt]
   refine ⟨by kernel_rfl,.inl ?_⟩
   simp only [↓wR,RA,simprocAttr,TF,h,hlt,hlt',hlen,Ar,hd.name c (List.mem_of_getElem? hc)]
   refine ⟨by kernel_rfl,i+1,hlt,by omega,by (first|rfl|trivial|omega|((try (simp (disch:=omega) only [ah]));(try (simp only [FB]));first|done|rfl|omega)),?_⟩
   rw [← ah2 g6 hc];simp only [List.map_append,List.map_cons,List.map_nil]
  ·have hin:i=d.names.length:=by omega
   subst hin
   rw [agr]
   have hml:(d.names.map g6).length=d.names.length:=List.length_map _
   generalize d.names.map g6=m at hml ⊢
   simp only [↓wR,RA,simprocAttr,TF,h,hml]
   rfl
 ·rw [if_neg h0]
  simp only [↓wR,RA,simprocAttr,TF,h0]
noncomputable def Av (x:UInt16 × bq × Unit):Option AV:=if de x.2.1 then some ((r1 aq).E true (jx x.1 x.2.1)) else none
set_option maxRecDepth 2000000 in
theorem W6 (x:UInt16 × bq × Unit) (r:AV) (h:Av x=some r):br PP 61 ((aC cw (aC aq a0)).E x) r:=by
 by_cases hc:de x.2.1
 case neg=>simp only [Av,if_neg hc] at h;cases h
 simp only [Av,if_pos hc] at h
 cases h
 exact bb (an.cons (ar Cm) (an.cons (ar Xe) (an.nil PP))) Tryz.func61 (by kernel_rfl) (by kernel_rfl) (by kernel_rfl) (Nat.le_of_ble_eq_true (by kernel_rfl)) (r1 aq) true (jx x.1 x.2.1) (aec x.1 x.2.1 hc)
noncomputable abbrev an9:Nat × Bool × (List AV→M AV):=(61,true,dh (aC cw (aC aq a0)) Av)
def ou:List Name→Int
 | []=>0
 |n::r=>if eh n≠0 then eh n else ou r
noncomputable def ef (t:UInt16) (d:bq):Int:=
 if Fj t=true then 6 else if z7 (n5 t) t d=false then 7 else if ou d.names≠0 then ou d.names else if 65535<(yc t d).length then 3 else 0
theorem adr {l:List Name} {i:Nat} {c:Name} (h:l.drop i=c::l.drop (i+1)):ou (l.drop i)=if eh c≠0 then eh c else ou (l.drop (i+1)):=by rw [h];rfl
theorem aca (t:UInt16) (d:bq) (hd:de d):wl PP [aru,Td,atf,ed,Pg] 0 (Tryz.f49.body.getD .skip) (dv PP Tryz.f49.results.toList (fun r st=>(r1 (bk .i64)).get true st.h r=some (ef t d))) (b9 0 [cw.val false t,aq.val false d]) (bj []):=by
 have hs:=Rh t
 have hl:=hd.lens
 unfold Tryz.f49
 simp only [ky,dy]
 simp only [↓wR,RA,simprocAttr,TF,S9]
 unfold ef
 rw [dc];refine ⟨fun hb=>?_,fun hb=>?_⟩
 ·rw [if_pos hb]
  simp only [↓wR,RA,simprocAttr,TF,hb]
 rw [if_neg (by rw [hb];decide)]
 simp only [↓wR,RA,simprocAttr,TF,hb]
 refine ⟨by kernel_rfl,.inl ?_⟩
 simp only [↓wR,RA,simprocAttr,TF,Cv,J0,hs,hd]
 refine ⟨by kernel_rfl,?_⟩
 rw [dc];refine ⟨fun hf=>?_,fun hf=>?_⟩
 ·rw [if_pos (by simpa using hf)]
  simp only [↓wR,RA,simprocAttr,TF,hf]
 have hf':z7 (n5 t) t d=true:=by simpa using hf
 rw [if_neg (by rw [hf'];decide)]
 simp only [↓wR,RA,simprocAttr,TF,hf]
 refine cq [0,3,17,18,19] (fun (i:Nat)=>[.sc (.int .u16 t.toNat),.ptr 0 0,.vl false 1 (d.names.map (aw.val false)),.sc (.int .i64 (d.names.length)),.sc (.int .i64 (i))]) (fun _=>[some (.row [.vl false 1 (d.names.map (aw.val false)),.vl false 1 (d.nums.map (c0.val false)),.vl false 1 (d.texts.map (ak.val false)),.vl false 1 (d.raw.map (bu.val false))] 0 2 71)]) (fun i=>i≤d.names.length∧ou d.names=ou (d.names.drop i)) (fun i=>d.names.length - i) 0 ⟨Nat.zero_le _,rfl⟩ (by simp only [↓wR,RA,simprocAttr,TF]<;>rfl) (by simp only [↓wR,RA,simprocAttr,TF]<;>rfl) ?_
 rintro i ⟨hi,hx⟩
 simp only [↓wR,RA,simprocAttr,TF]
 rw [bc];refine ⟨fun h=>?_,fun h=>?_⟩
 ·obtain ⟨c,hc,hd1,hlt⟩:=ek (decide_eq_true h)
  rw [adr hd1] at hx
  simp only [↓wR,RA,simprocAttr,TF,h,hc,qs,(hd.name c (List.mem_of_getElem? hc)).fit]
  rw [dc];refine ⟨fun h1=>?_,fun h1=>?_⟩
  ·have he:eh c≠0:=by simpa using h1
   rw [if_pos he] at hx
   rw [if_pos (by rw [hx];exact he),hx]
   simp only [↓wR,RA,simprocAttr,TF,h1]
  ·have he:eh c=0:=by simpa using h1
   rw [if_neg (by omega)] at hx
   simp only [↓wR,RA,simprocAttr,TF,h1];repeat (simp (disch:=omega) only [ah,be,bf,bd,bg];try simp only [↓wR,RA,simprocAttr,TF,h1])
   exact ⟨i+1,⟨hlt,hx⟩,by omega,by (first|rfl|trivial|omega|((try (simp (disch:=omega) only [ah]));(try (simp only [FB]));first|done|rfl|omega))⟩
 rw [ig (decide_eq_false h)] at hx
 rw [if_neg (by rw [hx];decide)]
 simp only [↓wR,RA,simprocAttr,TF,h,tu,hd]
 rw [bc];refine ⟨fun h2=>?_,fun h2=>?_⟩
 ·rw [if_pos (by omega)]
  simp only [↓wR,RA,simprocAttr,TF,h2]
 ·rw [if_neg (by omega)]
  simp only [↓wR,RA,simprocAttr,TF,h2]
noncomputable def pa (x:UInt16 × bq × Unit):Option AV:=if de x.2.1 then some ((r1 (bk .i64)).E true (ef x.1 x.2.1)) else none
set_option maxRecDepth 2000000 in
theorem vc (x:UInt16 × bq × Unit) (r:AV) (h:pa x=some r):br PP 49 ((aC cw (aC aq a0)).E x) r:=by
 by_cases hc:de x.2.1
 case neg=>simp only [pa,if_neg hc] at h;cases h
 simp only [pa,if_pos hc] at h
 cases h
 exact bb (an.cons (ar ade) (an.cons (ar Cm) (an.cons (ar ag2) (an.cons (ar rq) (an.cons (ar D7) (an.nil PP)))))) Tryz.func49 (by kernel_rfl) (by kernel_rfl) (by kernel_rfl) (Nat.le_of_ble_eq_true (by kernel_rfl)) (r1 (bk .i64)) true (ef x.1 x.2.1) (aca x.1 x.2.1 hc)
noncomputable abbrev Dw:Nat × Bool × (List AV→M AV):=(49,true,dh (aC cw (aC aq a0)) pa)
noncomputable def nc (t:UInt16) (d:bq):List UInt8:=if ef t d≠0 then [] else yc t d
theorem abi (t:UInt16) (d:bq) (hd:de d):wl PP [Dw,Pg] 0 (Tryz.f60.body.getD .skip) (dv PP Tryz.f60.results.toList (fun r st=>(r2 (cj bu) (bk .i64)).get true st.h r=some (nc t d,ef t d))) (b9 0 [cw.val false t,aq.val false d]) (bj []):=by
 unfold Tryz.f60
 simp only [ky,dy]
 simp only [↓wR,RA,simprocAttr,TF,pa,hd]
 unfold nc
 rw [dc];refine ⟨fun h=>?_,fun h=>?_⟩
 ·have he:ef t d≠0:=by simpa using h
  rw [if_pos he]
  simp only [↓wR,RA,simprocAttr,TF,h]
 ·have he:ef t d=0:=by simpa using h
  rw [if_neg (by omega)]
  simp only [↓wR,RA,simprocAttr,TF,h,tu,hd,he]
noncomputable def xq (x:UInt16 × bq × Unit):Option AV:=if de x.2.1 then some ((r2 (cj bu) (bk .i64)).E true ((nc x.1 x.2.1,ef x.1 x.2.1))) else none
set_option maxRecDepth 2000000 in
theorem Tc (x:UInt16 × bq × Unit) (r:AV) (h:xq x=some r):br PP 60 ((aC cw (aC aq a0)).E x) r:=by
 by_cases hc:de x.2.1
 case neg=>simp only [xq,if_neg hc] at h;cases h
 simp only [xq,if_pos hc] at h
 cases h
 exact bb (an.cons (ar vc) (an.cons (ar D7) (an.nil PP))) Tryz.func60 (by kernel_rfl) (by kernel_rfl) (by kernel_rfl) (Nat.le_of_ble_eq_true (by kernel_rfl)) (r2 (cj bu) (bk .i64)) true ((nc x.1 x.2.1,ef x.1 x.2.1)) (abi x.1 x.2.1 hc)
noncomputable abbrev ajo:Nat × Bool × (List AV→M AV):=(60,true,dh (aC cw (aC aq a0)) xq)
theorem akj (args:List AV):Aa PP 87 args (Cx.i6 args):=
 Cx.ya (fn:=(PP.funcs[87]?).getD default) (by kernel_rfl) (by kernel_rfl) (by kernel_rfl) (by kernel_rfl) (by kernel_rfl) args
noncomputable abbrev ast:Nat × Bool × (List AV→M AV):=(87,true,Cx.i6)
theorem aqb:an PP [ast]:=an.cons akj (an.nil PP)
noncomputable def Jq (a b:List UInt8):Int:=Lib.compareBytes a b
theorem Qm (a b:List UInt8):wl PP [ast] 0 (Tryz.f62.body.getD .skip) (dv PP Tryz.f62.results.toList (fun r st=>(r1 (bk .i64)).get true st.h r=some (Jq a b))) (b9 0 [(cj bu).val false a,(cj bu).val false b]) (bj []):=by
 unfold Tryz.f62
 simp only [pz]
 simp only [↓wR,RA,simprocAttr,TF,Jq]
noncomputable def wm (x:List UInt8 × List UInt8 × Unit):Option AV:=some ((r1 (bk .i64)).E true (Jq x.1 x.2.1))
theorem Lv (x:List UInt8 × List UInt8 × Unit) (r:AV) (h:wm x=some r):br PP 62 ((aC (cj bu) (aC (cj bu) a0)).E x) r:=by
 cases h
 exact bb aqb Tryz.func62 (by kernel_rfl) (by kernel_rfl) (by kernel_rfl) (Nat.le_of_ble_eq_true (by kernel_rfl)) (r1 (bk .i64)) true (Jq x.1 x.2.1) (Qm x.1 x.2.1)
noncomputable abbrev abp:Nat × Bool × (List AV→M AV):=(62,true,dh (aC (cj bu) (aC (cj bu) a0)) wm)
theorem Vo (s:ByteArray):(fold s).size=s.size:=by
 show (s.data.toList.map low).toArray.size=s.data.size
 simp
theorem z0 (n:Name):b7 (g6 n)=b7 n:=by
 unfold b7 g6
 rw [List.foldl_map]
 simp only [Vo]
theorem ajd (l:List Name):gz b7 (l.map g6)=gz b7 l:=by
 induction l with
 |nil=>rfl
 |cons a l ih=>simp only [gz,List.map_cons,List.foldr_cons,z0] at ih ⊢;rw [ih]
theorem de.fold {d:bq} (h:de d) (t:UInt16):de (jx t d):=by
 unfold jx
 split
 ·unfold de A7 at *
  simp only [ajd];exact h
 ·exact h
noncomputable def zv (t:UInt16) (a b:bq):Int:=if ef t (jx t a)≠0∨ef t (jx t b)≠0 then 0 else Jq (nc t (jx t a)) (nc t (jx t b))
noncomputable def K3 (t:UInt16) (a b:bq):Bool:=decide (ef t a=0) && decide (ef t b=0) && decide (zv t a b=0)
theorem S1 (t:UInt16) (a b:bq) (ha:de a) (hb:de b):wl PP [an9,ajo,abp] 0 (Tryz.f42.body.getD .skip) (dv PP Tryz.f42.results.toList (fun r st=>(r1 (bk .i64)).get true st.h r=some (zv t a b))) (b9 0 [cw.val false t,aq.val false a,aq.val false b]) (bj []):=by
 have fa:=ha.fold t
 have fb:=hb.fold t
 unfold Tryz.f42
 simp only [ky,dy]
 simp only [↓wR,RA,simprocAttr,TF,Av,xq,wm,ha,hb,fa,fb]
 unfold zv
 rw [dc];refine ⟨fun h=>?_,fun h=>?_⟩
 ·have he:ef t (jx t a)≠0:=by simpa using h
  rw [if_pos (.inl he)]
  simp only [↓wR,RA,simprocAttr,TF,h]
 have he:ef t (jx t a)=0:=by simpa using h
 simp only [↓wR,RA,simprocAttr,TF,h]
 rw [dc];refine ⟨fun h2=>?_,fun h2=>?_⟩
 ·have he2:ef t (jx t b)≠0:=by simpa using h2
  rw [if_pos (.inr he2)]
  simp only [↓wR,RA,simprocAttr,TF,h2]
 ·have he2:ef t (jx t b)=0:=by simpa using h2
  rw [if_neg (by omega)]
  simp only [↓wR,RA,simprocAttr,TF,h2,wm]
noncomputable def kz (x:UInt16 × bq × bq × Unit):Option AV:=if de x.2.1∧de x.2.2.1 then some ((r1 (bk .i64)).E true (zv x.1 x.2.1 x.2.2.1)) else none
set_option maxRecDepth 2000000 in
theorem wz (x:UInt16 × bq × bq × Unit) (r:AV) (h:kz x=some r):br PP 42 ((aC cw (aC aq (aC aq a0))).E x) r:=by
 by_cases hc:de x.2.1∧de x.2.2.1
 case neg=>simp only [kz,if_neg hc] at h;cases h
 simp only [kz,if_pos hc] at h
 cases h
 exact bb (an.cons (ar W6) (an.cons (ar Tc) (an.cons (ar Lv) (an.nil PP)))) Tryz.func42 (by kernel_rfl) (by kernel_rfl) (by kernel_rfl) (Nat.le_of_ble_eq_true (by kernel_rfl)) (r1 (bk .i64)) true (zv x.1 x.2.1 x.2.2.1) (S1 x.1 x.2.1 x.2.2.1 hc.1 hc.2)
noncomputable abbrev Ac:Nat × Bool × (List AV→M AV):=(42,true,dh (aC cw (aC aq (aC aq a0))) kz)
theorem adm (t:UInt16) (a b:bq) (ha:de a) (hb:de b):wl PP [Dw,Ac] 0 (Tryz.f82.body.getD .skip) (dv PP Tryz.f82.results.toList (fun r st=>(r1 bo).get true st.h r=some (K3 t a b))) (b9 0 [cw.val false t,aq.val false a,aq.val false b]) (bj []):=by
 unfold Tryz.f82
 simp only [ky,dy]
 simp only [↓wR,RA,simprocAttr,TF,pa,ha,hb]
 unfold K3
 rw [di];refine ⟨fun ⟨h,e⟩=>?_,fun ⟨h,e⟩=>?_⟩
 ·rw [decide_eq_true e]
  simp only [↓wR,RA,simprocAttr,TF,h,pa,ha,hb]
  rw [di];refine ⟨fun ⟨h2,e2⟩=>?_,fun ⟨h2,e2⟩=>?_⟩
  ·rw [decide_eq_true e2]
   simp only [↓wR,RA,simprocAttr,TF,h2,kz,ha,hb]
   rfl
  ·rw [decide_eq_false e2]
   simp only [↓wR,RA,simprocAttr,TF,h2]
   rfl
 ·rw [decide_eq_false e]
  simp only [↓wR,RA,simprocAttr,TF,h]
  rfl
noncomputable def A5 (x:UInt16 × bq × bq × Unit):Option AV:=if de x.2.1∧de x.2.2.1 then some ((r1 bo).E true (K3 x.1 x.2.1 x.2.2.1)) else none
set_option maxRecDepth 2000000 in
theorem Wu (x:UInt16 × bq × bq × Unit) (r:AV) (h:A5 x=some r):br PP 82 ((aC cw (aC aq (aC aq a0))).E x) r:=by
 by_cases hc:de x.2.1∧de x.2.2.1
 case neg=>simp only [A5,if_neg hc] at h;cases h
 simp only [A5,if_pos hc] at h
 cases h
 exact bb (an.cons (ar vc) (an.cons (ar wz) (an.nil PP))) Tryz.func82 (by kernel_rfl) (by kernel_rfl) (by kernel_rfl) (Nat.le_of_ble_eq_true (by kernel_rfl)) (r1 bo) true (K3 x.1 x.2.1 x.2.2.1) (adm x.1 x.2.1 x.2.2.1 hc.1 hc.2)
noncomputable abbrev ann:Nat × Bool × (List AV→M AV):=(82,true,dh (aC cw (aC aq (aC aq a0))) A5)
end Go.Proofs.YtldcaajoheeipaaGreat
end
section
set_option maxRecDepth 100000
namespace Go.Vm
noncomputable section
theorem Lh {α:Type} (C:cr α) (fr:Bool) (h:Tr az) (l:List AV) (ha:C.agg=true):C.dec fr h l=C.il fr h (.agg l):=by
 rw [zp _ _ _ _ rfl (by rw [ha];rfl)];rfl
theorem aml {α β:Type} (A:cr α) (B:cr β) (fr:Bool) (h:Tr az) (l:List AV):(oe A B).dec fr h l=match A.dec fr h (l.take A.sz),B.dec fr h (l.drop A.sz) with|some x,some y=>some (x,y)|_,_=>none:=rfl
theorem agv {α:Type} (C:cr α) (fr h) (x:AV):(cj C).dec fr h [x]=g9 C fr h x:=rfl
theorem aii (fr h) (x:AV):aw.dec fr h [x]=g9 ak fr h x:=rfl
theorem air {P:Program} {T:dx} {l:Nat} {ay:Nat} {L:SL} {st:St} {Q:QI} {ps:List Tmp} {ra rb:Code} {L0:SL} {α:Type} {b:Code} (keep:List Nat) (V : α→List AV) (O : α→List (Option az)) (I : α→Prop) (μ : α→Nat) (x : α) (hx:I x)
 (hv:sd ay (cy ay keep L st) (fy ay keep L st) (V x) (O x))
 (step:∀ x,I x→oy P T l (nf ps (fun p=>wl P T p ra) (fun p=>wl P T p rb) L0) ay b (xu (wo ay keep (fun vs os=>∃ y,I y ∧ μ y < μ x∧vs=V y∧os=O y) (fun _ _ _=>False)) Q) none (l8 keep (V x)) (bj (O x))):oy P T l (nf ps (fun p=>wl P T p ra) (fun p=>wl P T p rb) L0) ay (.loop b) Q none L st:=by
 have mono:∀ (Q1 Q2:QL),(∀ e L st,Q1 e L st→Q2 e L st)→∀ L st,oy P T l (nf ps (fun p=>wl P T p ra) (fun p=>wl P T p rb) L0) ay b (xu Q1 Q) none L st→oy P T l (nf ps (fun p=>wl P T p ra) (fun p=>wl P T p rb) L0) ay b (xu Q2 Q) none L st:=fun Q1 Q2 h L st hh=>N9 (M6 P T) b _ _ (fun e pe L st q=>by
  cases e with
  |normal=>exact ⟨q.1,h _ _ _ q.2⟩
  |ret=>exact q
  |exit i=>exact q) none L st hh
 refine ⟨rfl,qz.amo (B:=fun Q' L st=>oy P T l _ ay b (xu Q' Q) none L st) keep V O I μ x hx hv mono (fun x hi=>mono _ _ (fun e L' st' hq=>?_) _ _ (step x hi))⟩
 cases e with
 |normal=>
  obtain ⟨y,h1,h2,h3,h4⟩:=hq
  refine ⟨y,h1,h2,?_⟩
  rw [h3,h4];exact .refl _ _ _
 |exit i=>exact hq.elim
 |ret=>exact hq.elim
theorem Hw (k fr h n cells kk st et) (hn:n=cells.length):mn (bk k) fr h 0 n (.row cells kk st et)=qa (bk k) fr h cells:=vj (bk k) rfl fr h n cells kk st et hn
def eu (n:Nat) (r:AV) (st:St):List Nat:=reach st.h gh (r.names++pv st.h (dm 0 n)) (dm 0 n)
def ft (n:Nat) (r:AV) (st:St):AV:=r.cx (fun o=>idx (eu n r st) o 0)
def fh (n:Nat) (r:AV) (st:St):St:=bj (jj st.h (fun o=>idx (eu n r st) o 0) (eu n r st))
theorem afu {g g':Gh} {st st':St} {w w':World} {r:AV} {v:Value} (hn:st.nx≤1000) (hfr:∀ o,st.nx≤o→g.inj o=none) (hs:Step g st.h w st.nx st'.nx g' st'.h w') (hok:Ok g' st'.h w') (hr:Rel g' w' r v) :
 ∃ g'',st.nx≤(fh st.nx r st').nx∧Step g st.h w st.nx (fh st.nx r st').nx g'' (fh st.nx r st').h w'∧Ok g'' (fh st.nx r st').h w'∧Rel g'' w' (ft st.nx r st') v:=by
 have hN:=Aw st'.h gh (r.names++pv st'.h (dm 0 st.nx)) (dm 0 st.nx) (r8 _ _)
 change (eu st.nx r st').Nodup∧(∃ q,eu st.nx r st'=dm 0 st.nx++q)∧(eu st.nx r st').length≤_ at hN
 have hτ:∀ o p,(fun o=>idx (eu st.nx r st') o 0) o=some p→(eu st.nx r st')[p]? = some o:=fun o p h=>Fa _ o p h
 unfold fh ft
 generalize eu st.nx r st'=N at hN hτ
 obtain ⟨hnd,⟨rest,hpre⟩,hlen⟩:=hN
 rw [j4] at hlen
 have hlim:N.length≤b8:=by simp only [gh,b8] at *;omega
 have cg:∀ i x,(bj (jj st'.h (fun o=>idx N o 0) N)).h.get i=some x→∃ o y,N[i]? = some o∧st'.h.get o=some y∧y.cx (fun o=>idx N o 0)=some x:=by
  intro i x hx
  simp only [bj] at hx
  rw [uv _ _ _ (by rw [i4];omega),if_pos (Nat.zero_le _),Nat.sub_zero,vn] at hx
  cases hi:N[i]? with
  |none=>rw [hi] at hx;cases hx
  |some o=>
   rw [hi] at hx
   simp only [Option.map_some,Option.join_some] at hx
   cases hy:st'.h.get o with
   |none=>rw [hy] at hx;cases hx
   |some y=>rw [hy] at hx;exact ⟨o,y,rfl,hy,hx⟩
 have hinj:∀ i o,N[i]? = some o→(g'.cx N).inj i=g'.inj o:=fun i o h=>by simp [Gh.cx,h]
 have hlow:∀ o,o<st.nx→N[o]? = some o:=fun o ho=>by rw [hpre,List.getElem?_append_left (by rw [j4];exact ho),Gu _ _ _ ho,Nat.zero_add]
 have hnx:(bj (jj st'.h (fun o=>idx N o 0) N)).nx=N.length:=by simp only [bj,i4]
 have hle:st.nx≤N.length:=by rw [hpre,List.length_append,j4];omega
 rw [hnx]
 refine ⟨g'.cx N,hle,⟨⟨hs.ext.b0,fun o p ho=>?_,hs.ext.K,hs.ext.cell,hs.ext.iw,hs.ext.lp⟩,hs.size,hs.os,hs.tape,hs.output,hs.frame,fun o ho hr=>?_,fun i b base hi hj=>?_,hs.oh⟩,⟨hok.size,fun i x hx=>?_,fun i j x y b base base' hij hx hy hb hb'=>?_,hok.K⟩,hr.cx hτ⟩
 ·have hlt:o<st.nx:=by
   rcases Nat.lt_or_ge o st.nx with h|h
   ·exact h
   ·rw [hfr o h] at ho;cases ho
  rw [hinj o o (hlow o hlt)];exact hs.ext.inj o p ho
 ·rcases Nat.lt_or_ge o st.nx with h|h
  ·rw [hinj o o (hlow o h)];exact hs.fresh o ho (by omega)
  ·simp [Gh.cx,List.getElem?_eq_none (show N.length≤o by omega)]
 ·obtain ⟨x,hx⟩:=Option.isSome_iff_exists.1 hi
  obtain ⟨o,y,h1,h2,_⟩:=cg i x hx
  rw [hinj i o h1] at hj
  exact hs.own o b base (by rw [h2];rfl) hj
 ·obtain ⟨o,y,h1,h2,h3⟩:=cg i x hx
  refine (hok.mh o y h2).imp (fun q=>⟨by rw [hinj i o h1];exact q.1,by obtain ⟨s0,e0,rfl⟩:=q.2;simp only [az.cx,AV.cx.go,Option.some.injEq] at h3;exact ⟨s0,e0,h3.symm⟩⟩) ?_
  rintro ⟨b,base,q1,q2,q3⟩
  exact ⟨b,base,by rw [hinj i o h1];exact q1,q2,q3.cx hτ h3⟩
 ·obtain ⟨o,y1,h1,h2,_⟩:=cg i x hx
  obtain ⟨o',y2,h1',h2',_⟩:=cg j y hy
  rw [hinj i o h1] at hb
  rw [hinj j o' h1'] at hb'
  have hne:o≠o':=by
   intro e
   subst e
   obtain ⟨hi,ei⟩:=List.getElem?_eq_some_iff.1 h1
   obtain ⟨hj,ej⟩:=List.getElem?_eq_some_iff.1 h1'
   exact hij ((List.getElem_inj hnd).1 (ei.trans ej.symm))
  exact hok.sep o o' _ _ b base base' hne h2 h2' hb hb'
theorem cz {P:Program} {f:Nat} {args:List AV} {st:St} {R:AV→St→Prop} (R0:AV→St→Prop) (hn:Nat.ble st.nx 1000=true) (h1:gp P f args st (fun r st'=>R0 (ft st.nx r st') (fh st.nx r st'))) (h2:∀ r st',R0 r st'→R r st'):gp P f args st R:=by
 intro g w vs hok hfr hrel
 rcases h1 g w vs hok hfr hrel with ⟨v,w',g',r,st',q1,q2,q3,q4,q5,q6⟩|⟨q1,q2⟩
 ·obtain ⟨g'',p1,p2,p3,p4⟩:=afu (Nat.le_of_ble_eq_true hn) hfr q4 q5 q6
  exact .inl ⟨v,w',g'',_,_,q1,h2 _ _ q2,p1,p2,p3,p4⟩
 ·refine .inr ⟨q1,q2.mono ?_⟩
  rintro e w' ⟨v,g',r,st',rfl,q2,q3,q4,q5,q6⟩
  obtain ⟨g'',p1,p2,p3,p4⟩:=afu (Nat.le_of_ble_eq_true hn) hfr q4 q5 q6
  exact ⟨v,g'',_,_,rfl,h2 _ _ q2,p1,p2,p3,p4⟩
theorem afr (a b:Operand):(#[a]++(none:Option Operand).toArray++(some b).toArray++(none:Option Operand).toArray).toList=[a,b]:=id rfl
theorem dv4 : 4 / 4=1:=rfl
theorem dv5 : 5 / 5=1:=rfl
theorem af9 (k fr h n):(bk k).dec fr h [.sc (.int k n)]=some n:=(bk k).rt fr h true n (fun _=>rfl)
theorem Hv (l:Bool) (d:bq):(aq.val l d).cells=[.vl l 1 (d.names.map (aw.val l)),.vl l 1 (d.nums.map (c0.val l)),.vl l 1 (d.texts.map (ak.val l)),.vl l 1 (d.raw.map (bu.val l))]:=id rfl
theorem Jg (fr h l) (n:Name) (hl:(l || !fr)=true):g9 ak fr h (aw.val l n)=some n:=ve ak fr h l n 1 rfl hl
def abz {α:Type} (C:cr α) (h:Tr az) (off:Nat) (x:az):Option α:=
 match x with
 |.row cells _ _ _=>bif Nat.ble (off+C.sz) cells.length then C.dec false h ((cells.drop off).take C.sz) else none
 |_=>none
def Ti {α:Type} (C:cr α) (h:Tr az) (a:AV):Option α:=
 match a with
 |.gn l=>bif Nat.ble C.sz l.length then C.dec false h (l.take C.sz) else none
 |.ptr o off=>(h.get o).bind (abz C h off)
 |_=>none
theorem Nz {α:Type} (C:cr α) (h o off):Ti C h (.ptr o off)=(h.get o).bind (abz C h off):=id rfl
theorem Uv {α:Type} (C:cr α) (h l):Ti C h (.gn l)=bif Nat.ble C.sz l.length then C.dec false h (l.take C.sz) else none:=id rfl
theorem Nu {α:Type} (C:cr α) (h off cells k s e):abz C h off (.row cells k s e)=bif Nat.ble (off+C.sz) cells.length then C.dec false h ((cells.drop off).take C.sz) else none:=id rfl
theorem aqw {α:Type} (C:cr α) {g h w K b0 a v x} (hok:Ok g h w) (hl:wj g h K) (hr:Rel g w a v) (hd:Ti C h a=some x):Rel (gK b0 K) w (.gn (C.cells false x)) v:=by
 have fin:∀ (b off:Nat) (vs:List Value),bm g w ((C.cells false x).map fun _=>AV.bad) vs→bm (gK b0 K) w (C.cells false x) vs→(∀ j u,vs[j]? = some u→K b (off+j)∧w.cell? ⟨b,off+j,none⟩=some u)→Rel (gK b0 K) w (.gn (C.cells false x)) (.pointer (some ⟨b,off,none⟩)):=by
  intro b off vs _ hrl hc
  refine .gn _ b off (fun j=>vs.getD j undef) (fun j a hj=>?_) (fun j a hj=>?_)
  ·obtain ⟨u,hu,_⟩:=hrl.get hj
   have:=hc j u hu
   exact ⟨this.1,by rw [this.2,List.getD_eq_getElem?_getD,hu];rfl⟩
  ·obtain ⟨u,hu,hrel⟩:=hrl.get hj
   show Rel _ _ a (vs.getD j undef)
   rw [List.getD_eq_getElem?_getD,hu];exact hrel
 have bads:∀ vs:List Value,bm (gK b0 K) w (C.cells false x) vs→bm g w ((C.cells false x).map fun _=>AV.bad) vs:=fun vs h=>⟨by simpa using h.1,fun i a v ha _=>by
  rw [List.getElem?_map,Option.map_eq_some_iff] at ha
  obtain ⟨_,_,rfl⟩:=ha
  exact .bad _⟩
 cases hr with
 |gn l b off c h1 h2=>
  rw [Uv] at hd
  cases hb:Nat.ble C.sz l.length with
  |false=>rw [hb] at hd;cases hd
  |true=>
   rw [hb,cond_true] at hd
   have hle:=Nat.le_of_ble_eq_true hb
   have hlist:bm g w (l.take C.sz) (lz 0 C.sz c):=by
    refine ⟨by simp [lz];omega,fun i a v ha hv=>?_⟩
    rw [List.getElem?_take] at ha
    by_cases hi:i<C.sz
    ·rw [if_pos hi] at ha
     simp only [lz,List.getElem?_map,List.getElem?_range hi,Option.map_some,Option.some.injEq,Nat.zero_add] at hv
     subst hv
     exact h2 i a ha
    ·rw [if_neg hi] at ha;cases ha
   have q:=C.ok (b0:=b0) hok hl (fun e=>by cases e) hlist hd
   refine fin b off _ (bads _ q) q (fun j u hu=>?_)
   have hj:j<C.sz:=by have:=(List.getElem?_eq_some_iff.1 hu).1;simpa [lz] using this
   simp only [lz,List.getElem?_map,List.getElem?_range hj,Option.map_some,Option.some.injEq,Nat.zero_add] at hu
   subst hu
   have:=h1 j _ (List.getElem?_eq_getElem (by omega))
   exact ⟨hl.K _ _ this.1,this.2⟩
 |ptr o off b base hi=>
  rw [Nz,Option.bind_eq_some_iff] at hd
  obtain ⟨y,hy,hd⟩:=hd
  obtain ⟨b',base',hi',hbb,hrow⟩:=hok.obj o y hy
  rw [hi] at hi';cases hi'
  cases y with
  |map es=>cases hd
  |loop=>cases hd
  |row cells k st et=>
   rw [Nu] at hd
   cases hle:Nat.ble (off+C.sz) cells.length with
   |false=>rw [hle] at hd;cases hd
   |true=>
    rw [hle,cond_true] at hd
    have hle':=Nat.le_of_ble_eq_true hle
    obtain ⟨cs,fz,r1,r2,r3,_⟩:=hrow
    have hpart:bm g w ((cells.drop off).take C.sz) (lz (base+off) C.sz (fun j=>cs.getD j undef)):=by
     refine ⟨by simp [lz];omega,fun i a v ha hv=>?_⟩
     rw [List.getElem?_take,List.getElem?_drop] at ha
     by_cases hil:i<C.sz
     ·rw [if_pos hil] at ha
      obtain ⟨u,hu,hrel⟩:=r3 _ a ha
      simp only [lz,List.getElem?_map,List.getElem?_range hil,Option.map_some,Option.some.injEq] at hv
      subst hv
      rw [Array.getD_eq_getD_getElem?,Nat.add_assoc,hu]
      exact hrel
     ·rw [if_neg hil] at ha;cases ha
    have q:=C.ok (b0:=b0) hok hl (fun e=>by cases e) hpart hd
    refine fin b (base+off) _ (bads _ q) q (fun j u hv=>?_)
    have hj:j<C.sz:=by have:=(List.getElem?_eq_some_iff.1 hv).1;simpa [lz] using this
    simp only [lz,List.getElem?_map,List.getElem?_range hj,Option.map_some,Option.some.injEq] at hv
    obtain ⟨u,hu,_⟩:=r3 (off+j) (cells[off+j]'(by omega)) (by simp)
    have hrows:=hl.rows o cells k st et hy b base hi (off+j) (by omega)
    rw [← Nat.add_assoc] at hrows hu
    refine ⟨hrows,?_⟩
    rw [mu r1,hu,← hv,Array.getD_eq_getD_getElem?,hu]
    rfl
 |_=>cases hd
def aP {α β:Type} (C:cr α) (R:AC β):AC (α × β) where
 E p:=.gn (C.cells false p.1)::R.E p.2
 D h l:=match l with
  | []=>none
  |a::r=>match Ti C h a,R.D h r with
   |some x,some y=>some (x,y)
   |_,_=>none
 rt h p:=by
  have:Ti C h (.gn (C.cells false p.1))=some p.1:=by
   rw [Uv,C.len,Nat.ble_self_eq_true,cond_true,List.take_of_length_le (by rw [C.len];exact Nat.le_refl _)]
   exact C.rt false h false p.1 (fun e=>by cases e)
  simp only [this,R.rt]
 ok:=by
  intro g h w K b0 l vs x hok hl hr hd
  match l,hd with
  |a::r,hd=>
   simp only at hd
   split at hd
   ·rename_i x1 y1 hx hy
    simp at hd;subst hd
    match vs,hr with
    | [],hr=>have:=hr.1;simp at this
    |v::vs,hr=>exact bm.cons (aqw C hok hl hr.head hx) (R.ok hok hl hr.tail hy)
   ·cases hd
theorem asl {α β:Type} (C:cr α) (R:AC β) (h:Tr az) (a:AV) (r:List AV):(aP C R).get h (a::r)=match Ti C h a,R.get h r with|some x,some y=>some (x,y)|_,_=>none:=id rfl
theorem H4 (f) (l:List bq) (d:bq):cellsOf aq f (l++[d])=cellsOf aq f l++[.vl f 1 (d.names.map (aw.val f)),.vl f 1 (d.nums.map (c0.val false)),.vl f 1 (d.texts.map (ak.val false)),.vl f 1 (d.raw.map (bu.val false))]:=by rw [Ew,Ma];rfl
structure ba where
 owner:Name
 type:UInt16
 cls:UInt16
 ff:UInt32
 data:List bq
def Mr (owner:Name) (type:UInt16) (cls:UInt16) (ff:UInt32) (data:List bq):ba:=⟨owner,type,cls,ff,data⟩
theorem afc (x:ba):Mr x.owner x.type x.cls x.ff x.data=x:=id rfl
theorem alr (owner type cls ff data):(Mr owner type cls ff data).owner=owner:=id rfl
theorem ano (owner type cls ff data):(Mr owner type cls ff data).data=data:=id rfl
def aj:cr ba:=Dj (oe aw (oe cw (oe cw (oe c0 (cj aq))))) (fun x=>(x.owner,x.type,x.cls,x.ff,x.data)) (fun p=>⟨p.1,p.2.1,p.2.2.1,p.2.2.2.1,p.2.2.2.2⟩) (fun _=>rfl) (fun _=>rfl)
theorem ij (l:Bool) (x:ba):aj.val l x = .agg [.vl l 1 (x.owner.map (ak.val l)),.sc (.int .u16 x.type.toNat),.sc (.int .u16 x.cls.toNat),.sc (.int .u32 x.ff.toNat),.vl l 4 (x.data.map (aq.val l))]:=id rfl
theorem W4 (l:Bool) (x:ba):aj.cells l x=[.vl l 1 (x.owner.map (ak.val l)),.sc (.int .u16 x.type.toNat),.sc (.int .u16 x.cls.toNat),.sc (.int .u32 x.ff.toNat),.vl l 4 (x.data.map (aq.val l))]:=id rfl
theorem Wp:aj.sz=5:=id rfl
theorem G4 (fr:Bool) (h:Tr az) (y0 y1 y2 y3 y4:AV):aj.il fr h (.agg [y0,y1,y2,y3,y4])=match g9 ak fr h y0,cw.dec fr h [y1],cw.dec fr h [y2],c0.dec fr h [y3],g9 aq fr h y4 with
 |some v0,some v1,some v2,some v3,some v4=>some (Mr v0 v1 v2 v3 v4)
 |_,_,_,_,_=>none:=by
 rw [zp _ _ _ _ rfl rfl]
 have h1:aj.dec fr h (AV.agg [y0,y1,y2,y3,y4]).cells=Option.map (fun p=>(⟨p.1,p.2.1,p.2.2.1,p.2.2.2.1,p.2.2.2.2⟩:ba)) ((oe aw (oe cw (oe cw (oe c0 (cj aq))))).dec fr h [y0,y1,y2,y3,y4]):=rfl
 rw [h1]
 simp only [aml,B9,vo,Kg,A4,Gc,A9,List.take_succ_cons,List.take_zero,List.drop_succ_cons,List.drop_zero,agv,aii]
 cases (g9 ak fr h y0)<;>cases (cw.dec fr h [y1])<;>cases (cw.dec fr h [y2])<;>cases (c0.dec fr h [y3])<;>cases (g9 aq fr h y4)<;>rfl
theorem Nm (fr:Bool) (h:Tr az) (y0 y1 y2 y3 y4:AV):aj.dec fr h [y0,y1,y2,y3,y4]=match g9 ak fr h y0,cw.dec fr h [y1],cw.dec fr h [y2],c0.dec fr h [y3],g9 aq fr h y4 with
 |some v0,some v1,some v2,some v3,some v4=>some (Mr v0 v1 v2 v3 v4)
 |_,_,_,_,_=>none:=(Lh aj fr h _ rfl).trans (G4 fr h y0 y1 y2 y3 y4)
theorem kr (l) (xs:List ba) (x:ba):cellsOf aj l (xs++[x])=cellsOf aj l xs++[.vl l 1 (x.owner.map (ak.val false)),.sc (.int .u16 x.type.toNat),.sc (.int .u16 x.cls.toNat),.sc (.int .u32 x.ff.toNat),.vl l 4 (x.data.map (aq.val l))]:=by rw [Ew,Ma];rfl
structure ca where
 origin:Name
 ai:List ba
def vr (origin:Name) (ai:List ba):ca:=⟨origin,ai⟩
theorem afy (x:ca):vr x.origin x.ai=x:=id rfl
theorem P0 (origin ai):(vr origin ai).origin=origin:=id rfl
theorem aa5 (origin ai):(vr origin ai).ai=ai:=id rfl
def c7:cr ca:=Dj (oe aw (cj aj)) (fun x=>(x.origin,x.ai)) (fun p=>⟨p.1,p.2⟩) (fun _=>rfl) (fun _=>rfl)
theorem kq (l:Bool) (x:ca):c7.val l x = .agg [.vl l 1 (x.origin.map (ak.val l)),.vl l 5 (x.ai.map (aj.val l))]:=id rfl
theorem z2 (l:Bool) (x:ca):c7.cells l x=[.vl l 1 (x.origin.map (ak.val l)),.vl l 5 (x.ai.map (aj.val l))]:=id rfl
theorem Hf:c7.sz=2:=id rfl
theorem E0 (fr:Bool) (h:Tr az) (y0 y1:AV):c7.il fr h (.agg [y0,y1])=match g9 ak fr h y0,g9 aj fr h y1 with
 |some v0,some v1=>some (vr v0 v1)
 |_,_=>none:=by
 rw [zp _ _ _ _ rfl rfl]
 have h1:c7.dec fr h (AV.agg [y0,y1]).cells=Option.map (fun p=>(⟨p.1,p.2⟩:ca)) ((oe aw (cj aj)).dec fr h [y0,y1]):=rfl
 rw [h1]
 simp only [aml,B9,vo,Kg,A4,Gc,A9,List.take_succ_cons,List.take_zero,List.drop_succ_cons,List.drop_zero,agv,aii]
 cases (g9 ak fr h y0)<;>cases (g9 aj fr h y1)<;>rfl
theorem Je (fr:Bool) (h:Tr az) (y0 y1:AV):c7.dec fr h [y0,y1]=match g9 ak fr h y0,g9 aj fr h y1 with
 |some v0,some v1=>some (vr v0 v1)
 |_,_=>none:=(Lh c7 fr h _ rfl).trans (E0 fr h y0 y1)
structure apj where
 addr:UInt32
 aiu:List Int
structure ab9 where
 aiu:List ca
 ats:List apj
 hints:List UInt32
structure Xs where
 kind:Int
 node:Name
 aet:Name
def mkP (kind:Int) (node:Name) (aet:Name):Xs:=⟨kind,node,aet⟩
structure aiz where
 turn:Int
 ai:List ba
 to:Name
def Y6 (turn:Int) (ai:List ba) (to:Name):aiz:=⟨turn,ai,to⟩
structure s9 where
 z:ca
 e:Int
def mkL (z:ca) (e:Int):s9:=⟨z,e⟩
theorem ao4 (z e):(mkL z e).z=z:=id rfl
def lq:cr s9:=Dj (oe c7 (bk .i64)) (fun x=>(x.z,x.e)) (fun p=>⟨p.1,p.2⟩) (fun _=>rfl) (fun _=>rfl)
theorem zl (l:Bool) (x:s9):lq.cells l x=[.vl l 1 (x.z.origin.map (ak.val l)),.vl l 5 (x.z.ai.map (aj.val l)),.sc (.int .i64 x.e)]:=id rfl
theorem Qn:lq.sz=3:=id rfl
theorem aed (fr:Bool) (h:Tr az) (y00 y01 y1:AV):lq.il fr h (.agg [y00,y01,y1])=match c7.il fr h (.agg [y00,y01]),(bk .i64).dec fr h [y1] with
 |some v0,some v1=>some (mkL v0 v1)
 |_,_=>none:=by
 rw [zp _ _ _ _ rfl rfl]
 have h1:lq.dec fr h (AV.agg [y00,y01,y1]).cells=Option.map (fun p=>(⟨p.1,p.2⟩:s9)) ((oe c7 (bk .i64)).dec fr h [y00,y01,y1]):=rfl
 rw [h1]
 simp only [aml,B9,vo,Kg,A4,Gc,A9,List.take_succ_cons,List.take_zero,List.drop_succ_cons,List.drop_zero,agv,aii,Hf,Lh c7 fr h _ rfl]
 cases (c7.il fr h (.agg [y00,y01]))<;>cases ((bk .i64).dec fr h [y1])<;>rfl
theorem J9 (fr:Bool) (h:Tr az) (y00 y01 y1:AV):lq.dec fr h [y00,y01,y1]=match c7.il fr h (.agg [y00,y01]),(bk .i64).dec fr h [y1] with
 |some v0,some v1=>some (mkL v0 v1)
 |_,_=>none:=(Lh lq fr h _ rfl).trans (aed fr h y00 y01 y1)
structure Kv where
 apa:Int
 aa:Bool
 answer:List ba
 authority:List ba
 Gd:List ba
def Uz (apa:Int) (aa:Bool) (answer:List ba) (authority:List ba) (Gd:List ba):Kv:=⟨apa,aa,answer,authority,Gd⟩
theorem ae:type_of% @Hw∧type_of% @afr∧type_of% @dv4∧type_of% @dv5∧type_of% @af9∧type_of% @Nz∧type_of% @Nu∧type_of% @asl∧type_of% @Jg∧type_of% @Hv∧type_of% @Nk∧type_of% @vw∧type_of% @rp∧type_of% @afc∧type_of% @Nm∧type_of% @ij∧type_of% @Wp∧type_of% @G4∧type_of% @afy∧type_of% @P0∧type_of% @aa5∧type_of% @Je∧type_of% @kq∧type_of% @Hf∧type_of% @E0∧type_of% @ao4∧type_of% @J9∧type_of% @Qn:=
 ⟨@Hw,@afr,@dv4,@dv5,@af9,@Nz,@Nu,@asl,@Jg,@Hv,@Nk,@vw,@rp,@afc,@Nm,@ij,@Wp,@G4,@afy,@P0,@aa5,@Je,@kq,@Hf,@E0,@ao4,@J9,@Qn⟩
end
end Go.Vm
end
section
namespace Go.Proofs.YtldcaajoheeipaaGreat
open Go.Vm
set_option maxRecDepth 2000000
noncomputable def Gg (t:UInt16) (l:List bq) (d:bq):Bool:=l.any fun x=>K3 t x d
theorem asa (t:UInt16) (l:List bq) (d:bq) (hl:∀ x ∈ l,de x) (hn:l.length≤16777216) (hd:de d):wl PP [] 0 (Tryz.f51.body.getD .skip) (dv PP Tryz.f51.results.toList (fun r st=>(r1 bo).get true st.h r=some (Gg t l d))) (b9 0 [cw.val false t,(cj aq).val false l,aq.val false d]) (bj []):=by
 unfold Tryz.f51
 simp only [pz,ky]
 simp only [↓wR,RA,simprocAttr,TF,ae]
 refine bn (T:=[]) (an.nil PP) mixed Tryz.func80 rfl (by kernel_rfl) (by kernel_rfl) (by kernel_rfl) (by kernel_rfl) ?_;unfold Tryz.f80
 simp only [↓wR,RA,simprocAttr,TF,ae]
 refine bn (T:=[]) (an.nil PP) mixed Tryz.func99 rfl (by kernel_rfl) (by kernel_rfl) (by kernel_rfl) (by kernel_rfl) ?_;unfold Tryz.f99
 simp only [↓wR,RA,simprocAttr,TF,ae]
 refine cq [0,1,7,8] (fun (i:Nat)=>[.vl false 4 (l.map (aq.val false)),.fn (.func 81) [] [.ptr 0 0,.ptr 1 0],.sc (.int .i64 (l.length)),.sc (.int .i64 (i))]) (fun _=>[some (.row [.sc (.int .u16 t.toNat)] 0 2 28),some (.row [.vl false 1 (d.names.map (aw.val false)),.vl false 1 (d.nums.map (c0.val false)),.vl false 1 (d.texts.map (ak.val false)),.vl false 1 (d.raw.map (bu.val false))] 0 2 71)]) (fun i=>i≤l.length∧Gg t l d=Gg t (l.drop i) d) (fun i=>l.length - i) 0 ⟨Nat.zero_le _,rfl⟩ (by simp only [↓wR,RA,simprocAttr,TF,ae]<;>rfl) (by simp only [↓wR,RA,simprocAttr,TF,ae]<;>rfl) ?_
 rintro i ⟨hi,hx⟩
 simp only [↓wR,RA,simprocAttr,TF,ae]
 rw [bc];refine ⟨fun h=>?_,fun h=>?_⟩
 ·obtain ⟨c,hc,hd1,hlt⟩:=ek (decide_eq_true h)
  have hx':Gg t l d=(K3 t c d || Gg t (l.drop (i+1)) d):=by rw [hx,hd1];rfl
  simp only [↓wR,RA,simprocAttr,TF,ae,h,hc];repeat (simp (disch:=omega) only [ah,be,bf,bd,bg];try simp only [↓wR,RA,simprocAttr,TF,ae,h,hc])
  refine bn (T:=[ann]) (an.cons (ar Wu) (an.nil PP)) mixed Tryz.func81 rfl (by kernel_rfl) (by kernel_rfl) (by kernel_rfl) (by kernel_rfl) ?_;unfold Tryz.f81
  simp only [↓wR,RA,simprocAttr,TF,ae,A5,hl c (List.mem_of_getElem? hc),hd]
  rw [dc];refine ⟨fun h1=>?_,fun h1=>?_⟩
  ·rw [h1,Bool.true_or] at hx'
   simp only [↓wR,RA,simprocAttr,TF,ae,h1]
   rw [hx']
   done
  ·rw [h1,Bool.false_or] at hx'
   simp only [↓wR,RA,simprocAttr,TF,ae,h1];repeat (simp (disch:=omega) only [ah,be,bf,bd,bg];try simp only [↓wR,RA,simprocAttr,TF,ae,h1])
   exact ⟨i+1,⟨hlt,hx'⟩,by omega,by (first|rfl|trivial|omega|((try (simp (disch:=omega) only [ah]));(try (simp only [FB]));first|done|rfl|omega))⟩
 ·rw [ig (decide_eq_false h)] at hx
  simp only [↓wR,RA,simprocAttr,TF,ae,h]
  rw [hx];rfl
def py (l:List bq):Prop:=gz A7 l≤16777216
instance (l:List bq):Decidable (py l):=inferInstanceAs (Decidable (_≤_))
theorem py.mem {l:List bq} (h:py l):∀ x ∈ l,de x:=fun x hx=>by
 have h1:A7 x<gz A7 l:=E8 hx
 unfold py at h;unfold de;omega
theorem py.len {l:List bq} (h:py l):l.length≤16777216:=Nat.le_trans (B3 A7 l) h
theorem ac2 {α:Type} (f : α→Nat) (l:List α) (i:Nat):gz f (l.take i)≤gz f l:=by
 induction l generalizing i with
 |nil=>simp
 |cons a l ih=>
  cases i with
  |zero=>exact Nat.zero_le _
  |succ i=>have:=ih i;simp only [gz,List.take_succ_cons,List.foldr_cons] at this ⊢;omega
theorem py.take {l:List bq} (h:py l) (i:Nat):py (l.take i):=Nat.le_trans (ac2 A7 l i) h
noncomputable def Pv (x:UInt16 × List bq × bq × Unit):Option AV:=if py x.2.1∧de x.2.2.1 then some ((r1 bo).E true (Gg x.1 x.2.1 x.2.2.1)) else none
set_option maxRecDepth 2000000 in
theorem ala (x:UInt16 × List bq × bq × Unit) (r:AV) (h:Pv x=some r):br PP 51 ((aC cw (aC (cj aq) (aC aq a0))).E x) r:=by
 by_cases hc:py x.2.1∧de x.2.2.1
 case neg=>simp only [Pv,if_neg hc] at h;cases h
 simp only [Pv,if_pos hc] at h
 cases h
 exact bb (an.nil PP) Tryz.func51 (by kernel_rfl) (by kernel_rfl) (by kernel_rfl) (Nat.le_of_ble_eq_true (by kernel_rfl)) (r1 bo) true (Gg x.1 x.2.1 x.2.2.1) (asa x.1 x.2.1 x.2.2.1 hc.1.mem hc.1.len hc.2)
noncomputable abbrev at9:Nat × Bool × (List AV→M AV):=(51,true,dh (aC cw (aC (cj aq) (aC aq a0))) Pv)
def j7 (s:ba):Nat:=b7 s.owner+gz A7 s.data
def ct (s:ba):Prop:=j7 s≤16777216
instance (s:ba):Decidable (ct s):=inferInstanceAs (Decidable (_≤_))
theorem ct.owner {s:ba} (h:ct s):cp s.owner:=by unfold ct j7 at h;unfold cp;omega
theorem ct.data {s:ba} (h:ct s):py s.data:=by unfold ct j7 at h;unfold py;omega
noncomputable def sv (t:UInt16):List bq→List bq→Int
 |_,[]=>0
 |pre,d::r=>if ef t d≠0 then ef t d else if Gg t pre d=true then 10 else sv t (pre++[d]) r
noncomputable def uh (s:ba):Int:=
 if eh s.owner≠0 then eh s.owner else if s.data.length=0 then 9 else if 512<s.data.length then 3 else sv s.type [] s.data
theorem adu (t:UInt16) {l:List bq} {i:Nat} {c:bq} (hc:l[i]? = some c):sv t (l.take i) (l.drop i)=if ef t c≠0 then ef t c else if Gg t (l.take i) c=true then 10 else sv t (l.take (i+1)) (l.drop (i+1)):=by
 obtain ⟨hi,rfl⟩:=List.getElem?_eq_some_iff.1 hc
 rw [List.drop_eq_getElem_cons hi,sv,List.take_succ_eq_append_getElem hi]
theorem adt (s:ba) (hs:ct s):wl PP [ed,Dw,at9] 0 (Tryz.f40.body.getD .skip) (dv PP Tryz.f40.results.toList (fun r st=>(r1 (bk .i64)).get true st.h r=some (uh s))) (b9 0 [aj.val false s]) (bj []):=by
 have ho:=hs.owner
 have hd:=hs.data
 have hn:=hd.len
 unfold Tryz.f40
 simp only [ij]
 simp only [↓wR,RA,simprocAttr,TF,ae,qs,ho.fit]
 unfold uh
 rw [dc];refine ⟨fun h=>?_,fun h=>?_⟩
 ·have he:eh s.owner≠0:=by simpa using h
  rw [if_pos he]
  simp only [↓wR,RA,simprocAttr,TF,ae,h]
 have he:eh s.owner=0:=by simpa using h
 rw [if_neg (by omega)]
 simp only [↓wR,RA,simprocAttr,TF,ae,h]
 rw [di];refine ⟨fun ⟨h1,e1⟩=>?_,fun ⟨h1,e1⟩=>?_⟩
 ·rw [if_pos (by omega)]
  simp only [↓wR,RA,simprocAttr,TF,ae,h1]
 rw [if_neg (by omega)]
 simp only [↓wR,RA,simprocAttr,TF,ae,h1]
 rw [bc];refine ⟨fun h2=>?_,fun h2=>?_⟩
 ·rw [if_pos (by omega)]
  simp only [↓wR,RA,simprocAttr,TF,ae,h2]
 rw [if_neg (by omega)]
 simp only [↓wR,RA,simprocAttr,TF,ae,h2]
 refine cq [1,24,25,26] (fun (i:Nat)=>[.ptr 0 0,.vl false 4 (s.data.map (aq.val false)),.sc (.int .i64 (s.data.length)),.sc (.int .i64 (i))]) (fun _=>[some (.row [.vl false 1 (s.owner.map (ak.val false)),.sc (.int .u16 s.type.toNat),.sc (.int .u16 s.cls.toNat),.sc (.int .u32 s.ff.toNat),.vl false 4 (s.data.map (aq.val false))] 0 2 33)]) (fun i=>i≤s.data.length∧sv s.type [] s.data=sv s.type (s.data.take i) (s.data.drop i)) (fun i=>s.data.length - i) 0 ⟨Nat.zero_le _,rfl⟩ (by simp only [↓wR,RA,simprocAttr,TF,ae]<;>rfl) (by simp only [↓wR,RA,simprocAttr,TF,ae]<;>rfl) ?_
 rintro i ⟨hi,hx⟩
 simp only [↓wR,RA,simprocAttr,TF,ae]
 rw [bc];refine ⟨fun h3=>?_,fun h3=>?_⟩
 ·obtain ⟨c,hc,hd1,hlt⟩:=ek (decide_eq_true h3)
  rw [adu _ hc] at hx
  have hcs:=hd.mem c (List.mem_of_getElem? hc)
  simp only [↓wR,RA,simprocAttr,TF,ae,h3,hc,pa,hcs]
  rw [dc];refine ⟨fun h4=>?_,fun h4=>?_⟩
  ·have he4:ef s.type c≠0:=by simpa using h4
   rw [if_pos he4] at hx
   simp only [↓wR,RA,simprocAttr,TF,ae,h4]
   rw [hx]
  ·have he4:ef s.type c=0:=by simpa using h4
   rw [if_neg (by omega)] at hx
   simp only [↓wR,RA,simprocAttr,TF,ae,h4]
   refine ⟨by kernel_rfl,.inl ?_⟩
   simp only [↓wR,RA,simprocAttr,TF,ae,hi,Pv,hd.take i,hcs]
   refine ⟨by kernel_rfl,?_⟩
   rw [dc];refine ⟨fun h5=>?_,fun h5=>?_⟩
   ·rw [if_pos h5] at hx
    simp only [↓wR,RA,simprocAttr,TF,ae,h5]
    rw [hx]
   ·rw [if_neg (by rw [h5];decide)] at hx
    simp only [↓wR,RA,simprocAttr,TF,ae,h5];repeat (simp (disch:=omega) only [ah,be,bf,bd,bg];try simp only [↓wR,RA,simprocAttr,TF,ae,h5])
    exact ⟨i+1,⟨hlt,hx⟩,by omega,by (first|rfl|trivial|omega|((try (simp (disch:=omega) only [ah]));(try (simp only [FB]));first|done|rfl|omega))⟩
 ·rw [ig (decide_eq_false h3)] at hx
  simp only [↓wR,RA,simprocAttr,TF,ae,h3]
  rw [hx];rfl
noncomputable def xk (x:ba × Unit):Option AV:=if ct x.1 then some ((r1 (bk .i64)).E true (uh x.1)) else none
set_option maxRecDepth 2000000 in
theorem Hn (x:ba × Unit) (r:AV) (h:xk x=some r):br PP 40 ((aC aj a0).E x) r:=by
 by_cases hc:ct x.1
 case neg=>simp only [xk,if_neg hc] at h;cases h
 simp only [xk,if_pos hc] at h
 cases h
 exact bb (an.cons (ar rq) (an.cons (ar vc) (an.cons (ar ala) (an.nil PP)))) Tryz.func40 (by kernel_rfl) (by kernel_rfl) (by kernel_rfl) (Nat.le_of_ble_eq_true (by kernel_rfl)) (r1 (bk .i64)) true (uh x.1) (adt x.1 hc)
noncomputable abbrev fw:Nat × Bool × (List AV→M AV):=(40,true,dh (aC aj a0) xk)
theorem ai1 (s:ba) (hs:ct s):wl PP [zn,Yd] 0 (Tryz.f28.body.getD .skip) (dv PP Tryz.f28.results.toList (fun r st=>(r1 aj).get true st.h r=some s)) (b9 0 [aj.val false s]) (bj []):=by
 have ho:=hs.owner
 have hd:=hs.data
 have hn:=hd.len
 unfold Tryz.f28
 simp only [ij]
 simp only [↓wR,RA,simprocAttr,TF,ae,pn,ho]
 refine kf [2,13,14,15,3] (fun (x:List bq)=>[.ptr 0 0,.vl false 4 (s.data.map (aq.val false)),.sc (.int .i64 (s.data.length)),.sc (.int .i64 (x.length)),.ptr 1 0]) (fun x=>[some (.row [.sc (.slice none 0 0),.sc (.int .u16 0),.sc (.int .u16 0),.sc (.int .u32 0),.sc (.slice none 0 0)] 0 2 33),some (.row [aw.val true s.owner,.sc (.int .u16 s.type.toNat),.sc (.int .u16 s.cls.toNat),.sc (.int .u32 s.ff.toNat),.sl 2 0 x.length 4] 0 2 33),some (.row (cellsOf aq true x) 0 0 71)]) (fun x=>x.length≤s.data.length∧x++s.data.drop x.length=s.data) (fun x=>s.data.length - x.length) [] ⟨Nat.zero_le _,rfl⟩ (by simp only [↓wR,RA,simprocAttr,TF,ae];(refine sd.lax [] (by first|exact Nat.le_of_ble_eq_true rfl|(simp [b8];omega)) ?_ ?_<;>repeat' first|exact i5.nil|exact dg.nil|exact jd.same _|exact jd.nil _ _ _|exact jd.vv _ _|exact dg.refl _ _|apply i5.cons|apply dg.ghost|apply dg.same|apply dg.row)) ?_
 rintro x ⟨hi,hx⟩
 simp only [↓wR,RA,simprocAttr,TF,ae]
 rw [bc];refine ⟨fun h=>?_,fun h=>?_⟩
 ·obtain ⟨c,hc,hd1,hlt⟩:=ek (decide_eq_true h)
  rw [hd1] at hx
  have hcs:=hd.mem c (List.mem_of_getElem? hc)
  simp only [↓wR,RA,simprocAttr,TF,ae,h,hc]
  refine ⟨by kernel_rfl,.inl ?_⟩
  have hlim:(x.length * 4+4) * 96≤140737488355328:=by omega
  simp only [↓wR,RA,simprocAttr,TF,ae,xl,hcs,hlim]
  refine ⟨by kernel_rfl,x++[c],⟨by simp;omega,by simpa using hx⟩,by simp;omega,by (first|rfl|trivial|omega|((try (simp (disch:=omega) only [ah]));(try (simp only [FB]));first|done|rfl|omega)),?_⟩
  rw [H4,List.length_append];rfl
 ·rw [ig (decide_eq_false h)] at hx
  rw [List.append_nil] at hx
  subst hx
  simp only [↓wR,RA,simprocAttr,TF,ae,h]
noncomputable def u0 (x:ba × Unit):Option AV:=if ct x.1 then some ((r1 aj).E true (x.1)) else none
set_option maxRecDepth 2000000 in
theorem J1 (x:ba × Unit) (r:AV) (h:u0 x=some r):br PP 28 ((aC aj a0).E x) r:=by
 by_cases hc:ct x.1
 case neg=>simp only [u0,if_neg hc] at h;cases h
 simp only [u0,if_pos hc] at h
 cases h
 exact bb (an.cons (ar qh) (an.cons (ar Ho) (an.nil PP))) Tryz.func28 (by kernel_rfl) (by kernel_rfl) (by kernel_rfl) (Nat.le_of_ble_eq_true (by kernel_rfl)) (r1 aj) true (x.1) (ai1 x.1 hc)
noncomputable abbrev afk:Nat × Bool × (List AV→M AV):=(28,true,dh (aC aj a0) u0)
def xo (z:ca):Nat:=b7 z.origin+gz j7 z.ai
def db (z:ca):Prop:=xo z≤16777216
instance (z:ca):Decidable (db z):=inferInstanceAs (Decidable (_≤_))
theorem db.origin {z:ca} (h:db z):cp z.origin:=by unfold db xo at h;unfold cp;omega
theorem db.set {z:ca} (h:db z):∀ s ∈ z.ai,ct s:=fun s hs=>by
 have h1:j7 s<gz j7 z.ai:=E8 hs
 unfold db xo at h;unfold ct;omega
theorem db.len {z:ca} (h:db z):z.ai.length≤16777216:=by have:=B3 j7 z.ai;unfold db xo at h;omega
def Fm (n top:Name):Bool:=decide (top.length<n.length) && ir n top
theorem amm (n top:Name) (hn:cp n) (ht:cp top):wl PP [Aq] 0 (Tryz.f34.body.getD .skip) (dv PP Tryz.f34.results.toList (fun r st=>(r1 bo).get true st.h r=some (Fm n top))) (b9 0 [aw.val false n,aw.val false top]) (bj []):=by
 unfold Tryz.f34
 simp only [dy]
 simp only [↓wR,RA,simprocAttr,TF,ae]
 unfold Fm
 rw [bc];refine ⟨fun h=>?_,fun h=>?_⟩
 ·rw [decide_eq_true (show top.length<n.length by omega)]
  simp only [↓wR,RA,simprocAttr,TF,ae,h,pd,hn,ht]
 ·rw [decide_eq_false (show ¬ top.length<n.length by omega)]
  simp only [↓wR,RA,simprocAttr,TF,ae,h]
  rfl
noncomputable def Fq (x:Name × Name × Unit):Option AV:=if cp x.1∧cp x.2.1 then some ((r1 bo).E true (Fm x.1 x.2.1)) else none
set_option maxRecDepth 2000000 in
theorem adb (x:Name × Name × Unit) (r:AV) (h:Fq x=some r):br PP 34 ((aC aw (aC aw a0)).E x) r:=by
 by_cases hc:cp x.1∧cp x.2.1
 case neg=>simp only [Fq,if_neg hc] at h;cases h
 simp only [Fq,if_pos hc] at h
 cases h
 exact bb (an.cons (ar vi) (an.nil PP)) Tryz.func34 (by kernel_rfl) (by kernel_rfl) (by kernel_rfl) (Nat.le_of_ble_eq_true (by kernel_rfl)) (r1 bo) true (Fm x.1 x.2.1) (amm x.1 x.2.1 hc.1 hc.2)
noncomputable abbrev asi:Nat × Bool × (List AV→M AV):=(34,true,dh (aC aw (aC aw a0)) Fq)
def Rz (z:ca) (n:Name):List ba:=z.ai.filter fun s=>fu s.owner n
theorem alk {l:List ba} {p:ba→Bool} {i:Nat} {c:ba} (h:l.drop i=c::l.drop (i+1)):(l.drop i).filter p=(if p c=true then [c] else [])++(l.drop (i+1)).filter p:=by
 rw [h,List.filter_cons];split<;>rfl
theorem aib {l:List ba} (p:ba→Bool):(l.filter p).length≤l.length:=List.length_filter_le _ _
theorem atd (z:ca) (n:Name) (hz:db z) (hn:cp n):wl PP [eb,afk] 0 (Tryz.f7.body.getD .skip) (dv PP Tryz.f7.results.toList (fun r st=>(r1 (cj aj)).get true st.h r=some (Rz z n))) (b9 0 [c7.val false z,aw.val false n]) (bj []):=by
 have hl:=hz.len
 unfold Tryz.f7
 simp only [kq,dy]
 simp only [↓wR,RA,simprocAttr,TF,ae]
 refine kf [1,9,10,11,5] (fun (x:Nat × List ba)=>[.vl false 1 (n.map (ak.val false)),.vl false 5 (z.ai.map (aj.val false)),.sc (.int .i64 (z.ai.length)),.sc (.int .i64 (x.1)),.sl 0 0 x.2.length 5]) (fun x=>[some (.row (cellsOf aj true x.2) 0 0 33)]) (fun x=>x.1≤z.ai.length∧x.2++(z.ai.drop x.1).filter (fun s=>fu s.owner n)=Rz z n) (fun x=>z.ai.length - x.1) (0,[]) ⟨Nat.zero_le _,rfl⟩ (by simp only [↓wR,RA,simprocAttr,TF,ae];(refine sd.lax [] (by first|exact Nat.le_of_ble_eq_true rfl|(simp [b8];omega)) ?_ ?_<;>repeat' first|exact i5.nil|exact dg.nil|exact jd.same _|exact jd.nil _ _ _|exact jd.vv _ _|exact dg.refl _ _|apply i5.cons|apply dg.ghost|apply dg.same|apply dg.row)) ?_
 rintro ⟨i,x⟩ ⟨hi,hx⟩
 simp only at hi hx
 have hxl:x.length≤z.ai.length:=by
  have h1:=aib (l:=z.ai) (fun s=>fu s.owner n)
  have h2:=congrArg List.length hx
  simp only [List.length_append,Rz] at h2
  omega
 simp only [↓wR,RA,simprocAttr,TF,ae]
 rw [bc];refine ⟨fun h=>?_,fun h=>?_⟩
 ·obtain ⟨c,hc,hd1,hlt⟩:=ek (decide_eq_true h)
  rw [alk hd1] at hx
  have hcs:=hz.set c (List.mem_of_getElem? hc)
  simp only [↓wR,RA,simprocAttr,TF,ae,h,hc,gq,hcs.owner,hn]
  rw [dc];refine ⟨fun h1=>?_,fun h1=>?_⟩
  ·rw [if_pos h1] at hx
   have hlim:(x.length * 5+5) * 64≤140737488355328:=by omega
   simp only [↓wR,RA,simprocAttr,TF,ae,h1,u0,hcs,hlim];repeat (simp (disch:=omega) only [ah,be,bf,bd,bg];try simp only [↓wR,RA,simprocAttr,TF,ae,h1,u0,hcs,hlim])
   refine ⟨(i+1,x++[c]),⟨hlt,by rw [← hx];simp⟩,by simp;omega,by (first|rfl|trivial|omega|((try (simp (disch:=omega) only [ah]));(try (simp only [FB]));first|done|rfl|omega)),?_⟩
   rw [kr]
  ·rw [if_neg (by rw [h1];decide)] at hx
   simp only [↓wR,RA,simprocAttr,TF,ae,h1];repeat (simp (disch:=omega) only [ah,be,bf,bd,bg];try simp only [↓wR,RA,simprocAttr,TF,ae,h1])
   exact ⟨(i+1,x),⟨hlt,hx⟩,by simp;omega,by (first|rfl|trivial|omega|((try (simp (disch:=omega) only [ah]));(try (simp only [FB]));first|done|rfl|omega)),by (first|rfl|trivial|omega|((try (simp (disch:=omega) only [ah]));(try (simp only [FB]));first|done|rfl|omega))⟩
 ·rw [ig (decide_eq_false h)] at hx
  rw [List.filter_nil,List.append_nil] at hx
  subst hx
  simp only [↓wR,RA,simprocAttr,TF,ae,h]
noncomputable def Yj (x:ca × Name × Unit):Option AV:=if db x.1∧cp x.2.1 then some ((r1 (cj aj)).E true (Rz x.1 x.2.1)) else none
set_option maxRecDepth 2000000 in
theorem ani (x:ca × Name × Unit) (r:AV) (h:Yj x=some r):br PP 7 ((aC c7 (aC aw a0)).E x) r:=by
 by_cases hc:db x.1∧cp x.2.1
 case neg=>simp only [Yj,if_neg hc] at h;cases h
 simp only [Yj,if_pos hc] at h
 cases h
 exact bb (an.cons (ar my) (an.cons (ar J1) (an.nil PP))) Tryz.func7 (by kernel_rfl) (by kernel_rfl) (by kernel_rfl) (Nat.le_of_ble_eq_true (by kernel_rfl)) (r1 (cj aj)) true (Rz x.1 x.2.1) (atd x.1 x.2.1 hc.1 hc.2)
noncomputable abbrev zAt:Nat × Bool × (List AV→M AV):=(7,true,dh (aC c7 (aC aw a0)) Yj)
def Le (n:Name) (b:Option Name):Bool:=match b with|none=>true|some m=>decide (n.length<m.length)
def j8 (z:ca) (n:Name) (best:Option Name) (s:ba):Option Name:=
 if (decide ((s.type.toNat:Int)=2) && (Fm s.owner z.origin && (ir n s.owner && Le s.owner best)))=true then some s.owner else best
def ye (z:ca) (n:Name):Option Name:=z.ai.foldl (j8 z n) none
theorem alq {z:ca} {n:Name} (hz:db z):∀ (l:List ba) (b:Option Name),(∀ s ∈ l,s ∈ z.ai)→(∀ m,b=some m→cp m)→∀ m,l.foldl (j8 z n) b=some m→cp m:=by
 intro l
 induction l with
 |nil=>intro b _ hb m hm;exact hb m hm
 |cons s l ih=>
  intro b hl hb m hm
  refine ih (j8 z n b s) (fun x hx=>hl x (by simp [hx])) (fun q hq=>?_) m hm
  unfold j8 at hq
  split at hq
  ·cases hq;exact (hz.set s (hl s (by simp))).owner
  ·exact hb q hq
theorem asn (z:ca) (n:Name) (hz:db z) (hn:cp n):wl PP [Aq,asi,zn] 0 (Tryz.f13.body.getD .skip) (dv PP Tryz.f13.results.toList (fun r st=>(r2 aw bo).get true st.h r=some ((ye z n).getD [],(ye z n).isSome))) (b9 0 [c7.val false z,aw.val false n]) (bj []):=by
 have hl:=hz.len
 unfold Tryz.f13
 simp only [kq,dy]
 simp only [↓wR,RA,simprocAttr,TF,ae]
 refine bn (T:=[]) (an.nil PP) mixed Tryz.func24 rfl (by kernel_rfl) (by kernel_rfl) (by kernel_rfl) (by kernel_rfl) ?_;unfold Tryz.f24
 simp only [↓wR,RA,simprocAttr,TF,ae]
 refine ⟨[2,3,6,7,10],?_⟩
 have hib:uc PP 43=some (Tryz.f43.ntmps,Tryz.f43.body.getD .skip):=by kernel_rfl
 simp only [↓wR,RA,simprocAttr,TF,ae,hib]
 refine ⟨by kernel_rfl,fun l=>?_⟩
 unfold Tryz.f43
 simp only [↓wR,RA,simprocAttr,TF,ae]
 refine air [0,2,7,8,9] (fun (x:Nat × Option Name)=>[.sc (.func (.yield l) #[] #[]),.ptr 5 0,.vl false 5 (z.ai.map (aj.val false)),.sc (.int .i64 (z.ai.length)),.sc (.int .i64 (x.1))]) (fun x=>[some (.row [.vl false 1 (z.origin.map (ak.val false)),.vl false 5 (z.ai.map (aj.val false))] 0 2 26),some (.row [.vl false 1 (n.map (ak.val false))] 0 2 23),some (.row [.vl false 1 ((x.2.getD []).map (ak.val false))] 0 2 23),some (.row [.sc (.bool (x.2.isSome))] 0 2 4),some (.row [.vl false 1 (z.origin.map (ak.val false)),.vl false 5 (z.ai.map (aj.val false))] 0 2 26),some (.row [.sc (.int .u16 2)] 0 2 28)]) (fun x=>x.1≤z.ai.length∧ye z n=(z.ai.drop x.1).foldl (j8 z n) x.2∧∀ m,x.2=some m→cp m) (fun x=>z.ai.length - x.1) (0,none) ⟨Nat.zero_le _,rfl,fun m hm=>by cases hm⟩ (by simp only [↓wR,RA,simprocAttr,TF,ae];(refine sd.lax [] (by first|exact Nat.le_of_ble_eq_true rfl|(simp [b8];omega)) ?_ ?_<;>repeat' first|exact i5.nil|exact dg.nil|exact jd.same _|exact jd.nil _ _ _|exact jd.vv _ _|exact dg.refl _ _|apply i5.cons|apply dg.ghost|apply dg.same|apply dg.row)) ?_
 rintro ⟨i,b⟩ ⟨hi,hx,hb⟩
 simp only at hi hx hb
 simp only [↓wR,RA,simprocAttr,TF,ae]
 rw [vd];refine ⟨fun h=>?_,fun h=>?_⟩
 ·obtain ⟨c,hc,hd1,hlt⟩:=ek h
  have hcs:=hz.set c (List.mem_of_getElem? hc)
  have hstep:ye z n=(z.ai.drop (i+1)).foldl (j8 z n) (j8 z n b c):=by rw [hx,hd1];rfl
  simp only [↓wR,RA,simprocAttr,TF,ae,h,hc]
  rw [vd];refine ⟨fun h2=>?_,fun h2=>?_⟩
  ·have e2:(c.type.toNat:Int)=2:=by simpa using h2
   simp only [↓wR,RA,simprocAttr,TF,ae,h2]
   refine xt [0,2,7,8,9,17,19] ?_
   simp only [↓wR,RA,simprocAttr,TF,ae,y6,nf,Fq,hcs.owner,hz.origin]
   rw [dc];refine ⟨fun h3=>?_,fun h3=>?_⟩
   ·simp only [↓wR,RA,simprocAttr,TF,ae,h3,pd,hcs.owner,hn]
    rw [dc];refine ⟨fun h4=>?_,fun h4=>?_⟩
    ·cases b with
     |none=>
      have hb2:j8 z n none c=some c.owner:=by simp [j8,e2,h3,h4,Le]
      rw [hb2] at hstep
      simp only [↓wR,RA,simprocAttr,TF,ae,h4,Option.isSome_none];repeat (simp (disch:=omega) only [ah,be,bf,bd,bg];try simp only [↓wR,RA,simprocAttr,TF,ae,h4,Option.isSome_none])
      exact ⟨(i+1,some c.owner),⟨hlt,hstep,fun m hm=>by cases hm;exact hcs.owner⟩,by simp;omega,by (first|rfl|trivial|omega|((try (simp (disch:=omega) only [ah]));(try (simp only [FB]));first|done|rfl|omega)),by (first|rfl|trivial|omega|((try (simp (disch:=omega) only [ah]));(try (simp only [FB]));first|done|rfl|omega))⟩
     |some m=>
      simp only [↓wR,RA,simprocAttr,TF,ae,h4]
      rw [bc];refine ⟨fun h5=>?_,fun h5=>?_⟩
      ·have hb2:j8 z n (some m) c=some c.owner:=by simp [j8,e2,h3,h4,Le];omega
       rw [hb2] at hstep
       simp only [↓wR,RA,simprocAttr,TF,ae,h5];repeat (simp (disch:=omega) only [ah,be,bf,bd,bg];try simp only [↓wR,RA,simprocAttr,TF,ae,h5])
       exact ⟨(i+1,some c.owner),⟨hlt,hstep,fun m hm=>by cases hm;exact hcs.owner⟩,by simp;omega,by (first|rfl|trivial|omega|((try (simp (disch:=omega) only [ah]));(try (simp only [FB]));first|done|rfl|omega)),by (first|rfl|trivial|omega|((try (simp (disch:=omega) only [ah]));(try (simp only [FB]));first|done|rfl|omega))⟩
      ·have hb2:j8 z n (some m) c=some m:=by simp [j8,e2,h3,h4,Le];omega
       rw [hb2] at hstep
       simp only [↓wR,RA,simprocAttr,TF,ae,h5];repeat (simp (disch:=omega) only [ah,be,bf,bd,bg];try simp only [↓wR,RA,simprocAttr,TF,ae,h5])
       exact ⟨(i+1,some m),⟨hlt,hstep,hb⟩,by simp;omega,by (first|rfl|trivial|omega|((try (simp (disch:=omega) only [ah]));(try (simp only [FB]));first|done|rfl|omega)),by (first|rfl|trivial|omega|((try (simp (disch:=omega) only [ah]));(try (simp only [FB]));first|done|rfl|omega))⟩
    ·have hb2:j8 z n b c=b:=by simp [j8,h4]
     rw [hb2] at hstep
     simp only [↓wR,RA,simprocAttr,TF,ae,h4];repeat (simp (disch:=omega) only [ah,be,bf,bd,bg];try simp only [↓wR,RA,simprocAttr,TF,ae,h4])
     exact ⟨(i+1,b),⟨hlt,hstep,hb⟩,by simp;omega,by (first|rfl|trivial|omega|((try (simp (disch:=omega) only [ah]));(try (simp only [FB]));first|done|rfl|omega)),by (first|rfl|trivial|omega|((try (simp (disch:=omega) only [ah]));(try (simp only [FB]));first|done|rfl|omega))⟩
   ·have hb2:j8 z n b c=b:=by simp [j8,h3]
    rw [hb2] at hstep
    simp only [↓wR,RA,simprocAttr,TF,ae,h3];repeat (simp (disch:=omega) only [ah,be,bf,bd,bg];try simp only [↓wR,RA,simprocAttr,TF,ae,h3])
    exact ⟨(i+1,b),⟨hlt,hstep,hb⟩,by simp;omega,by (first|rfl|trivial|omega|((try (simp (disch:=omega) only [ah]));(try (simp only [FB]));first|done|rfl|omega)),by (first|rfl|trivial|omega|((try (simp (disch:=omega) only [ah]));(try (simp only [FB]));first|done|rfl|omega))⟩
  ·have e2:¬ (c.type.toNat:Int)=2:=by simpa using h2
   have hb2:j8 z n b c=b:=by simp [j8,e2]
   rw [hb2] at hstep
   simp only [↓wR,RA,simprocAttr,TF,ae,h2];repeat (simp (disch:=omega) only [ah,be,bf,bd,bg];try simp only [↓wR,RA,simprocAttr,TF,ae,h2])
   exact ⟨(i+1,b),⟨hlt,hstep,hb⟩,by simp;omega,by (first|rfl|trivial|omega|((try (simp (disch:=omega) only [ah]));(try (simp only [FB]));first|done|rfl|omega)),by (first|rfl|trivial|omega|((try (simp (disch:=omega) only [ah]));(try (simp only [FB]));first|done|rfl|omega))⟩
 ·rw [ig h] at hx
  simp only [↓wR,RA,simprocAttr,TF,ae,h]
  cases b with
  |none=>
   have hc0:ye z n=none:=hx
   simp only [↓wR,RA,simprocAttr,TF,ae,Option.isSome_none]
   rw [hc0]
   rfl
  |some m=>
   have hc0:ye z n=some m:=hx
   simp only [↓wR,RA,simprocAttr,TF,ae,pn,hb m rfl]
   rw [hc0]
   rfl
noncomputable def K9 (x:ca × Name × Unit):Option AV:=if db x.1∧cp x.2.1 then some ((r2 aw bo).E true (((ye x.1 x.2.1).getD [],(ye x.1 x.2.1).isSome))) else none
set_option maxRecDepth 2000000 in
theorem ami (x:ca × Name × Unit) (r:AV) (h:K9 x=some r):br PP 13 ((aC c7 (aC aw a0)).E x) r:=by
 by_cases hc:db x.1∧cp x.2.1
 case neg=>simp only [K9,if_neg hc] at h;cases h
 simp only [K9,if_pos hc] at h
 cases h
 exact bb (an.cons (ar vi) (an.cons (ar adb) (an.cons (ar qh) (an.nil PP)))) Tryz.func13 (by kernel_rfl) (by kernel_rfl) (by kernel_rfl) (Nat.le_of_ble_eq_true (by kernel_rfl)) (r2 aw bo) true (((ye x.1 x.2.1).getD [],(ye x.1 x.2.1).isSome)) (asn x.1 x.2.1 hc.1 hc.2)
noncomputable abbrev at8:Nat × Bool × (List AV→M AV):=(13,true,dh (aC c7 (aC aw a0)) K9)
def aic (z:ca) (n:Name):Bool:=ir n z.origin && (fu n z.origin || z.ai.any fun s=>ir s.owner n)
theorem aum (z:ca) (n:Name) (hz:db z) (hn:cp n):wl PP [Aq,eb] 0 (Tryz.f15.body.getD .skip) (dv PP Tryz.f15.results.toList (fun r st=>(r1 bo).get true st.h r=some (aic z n))) (b9 0 [c7.val false z,aw.val false n]) (bj []):=by
 have hl:=hz.len
 unfold Tryz.f15
 simp only [kq,dy]
 simp only [↓wR,RA,simprocAttr,TF,ae,pd,hn,hz.origin]
 unfold aic
 rw [dc];refine ⟨fun h=>?_,fun h=>?_⟩
 ·have h':ir n z.origin=false:=by simpa using h
  simp only [↓wR,RA,simprocAttr,TF,ae,h,h']
  rfl
 have h':ir n z.origin=true:=by simpa using h
 simp only [↓wR,RA,simprocAttr,TF,ae,h,h',gq,hn,hz.origin]
 rw [dc];refine ⟨fun h2=>?_,fun h2=>?_⟩
 ·simp only [↓wR,RA,simprocAttr,TF,ae,h2]
 simp only [↓wR,RA,simprocAttr,TF,ae,h2]
 refine bn (T:=[]) (an.nil PP) mixed Tryz.func37 rfl (by kernel_rfl) (by kernel_rfl) (by kernel_rfl) (by kernel_rfl) ?_;unfold Tryz.f37
 simp only [↓wR,RA,simprocAttr,TF,ae]
 refine bn (T:=[]) (an.nil PP) mixed Tryz.func54 rfl (by kernel_rfl) (by kernel_rfl) (by kernel_rfl) (by kernel_rfl) ?_;unfold Tryz.f54
 simp only [↓wR,RA,simprocAttr,TF,ae]
 refine cq [0,1,7,8] (fun (i:Nat)=>[.vl false 5 (z.ai.map (aj.val false)),.fn (.func 38) [] [.ptr 1 0],.sc (.int .i64 (z.ai.length)),.sc (.int .i64 (i))]) (fun _=>[some (.row [.vl false 1 (z.origin.map (ak.val false)),.vl false 5 (z.ai.map (aj.val false))] 0 2 26),some (.row [.vl false 1 (n.map (ak.val false))] 0 2 23)]) (fun i=>i≤z.ai.length∧(z.ai.any fun s=>ir s.owner n)=((z.ai.drop i).any fun s=>ir s.owner n)) (fun i=>z.ai.length - i) 0 ⟨Nat.zero_le _,rfl⟩ (by simp only [↓wR,RA,simprocAttr,TF,ae]<;>rfl) (by simp only [↓wR,RA,simprocAttr,TF,ae]<;>rfl) ?_
 rintro i ⟨hi,hx⟩
 simp only [↓wR,RA,simprocAttr,TF,ae]
 rw [bc];refine ⟨fun h3=>?_,fun h3=>?_⟩
 ·obtain ⟨c,hc,hd1,hlt⟩:=ek (decide_eq_true h3)
  rw [hd1,List.any_cons] at hx
  have hcs:=hz.set c (List.mem_of_getElem? hc)
  simp only [↓wR,RA,simprocAttr,TF,ae,h3,hc];repeat (simp (disch:=omega) only [ah,be,bf,bd,bg];try simp only [↓wR,RA,simprocAttr,TF,ae,h3,hc])
  refine bn (T:=[Aq]) (an.cons (ar vi) (an.nil PP)) mixed Tryz.func38 rfl (by kernel_rfl) (by kernel_rfl) (by kernel_rfl) (by kernel_rfl) ?_;unfold Tryz.f38
  simp only [↓wR,RA,simprocAttr,TF,ae,pd,hcs.owner,hn]
  rw [dc];refine ⟨fun h4=>?_,fun h4=>?_⟩
  ·rw [h4,Bool.true_or] at hx
   simp only [↓wR,RA,simprocAttr,TF,ae,h4]
   rw [hx]
  ·rw [h4,Bool.false_or] at hx
   simp only [↓wR,RA,simprocAttr,TF,ae,h4];repeat (simp (disch:=omega) only [ah,be,bf,bd,bg];try simp only [↓wR,RA,simprocAttr,TF,ae,h4])
   exact ⟨i+1,⟨hlt,hx⟩,by omega,by (first|rfl|trivial|omega|((try (simp (disch:=omega) only [ah]));(try (simp only [FB]));first|done|rfl|omega))⟩
 ·rw [ig (decide_eq_false h3),List.any_nil] at hx
  simp only [↓wR,RA,simprocAttr,TF,ae,h3]
  rw [hx]<;>rfl
theorem akh (t:UInt16):wl PP [] 0 (Tryz.f86.body.getD .skip) (dv PP Tryz.f86.results.toList (fun r st=>(r1 bo).get true st.h r=some false)) (b9 0 [cw.val false t]) (bj []):=by
 unfold Tryz.f86
 simp only [↓wR,RA,simprocAttr,TF,ae,bne_self_eq_false]
noncomputable def S6 (x:UInt16 × Unit):Option AV:=some ((r1 bo).E true (false))
set_option maxRecDepth 2000000 in
theorem ad3 (x:UInt16 × Unit) (r:AV) (h:S6 x=some r):br PP 86 ((aC cw a0).E x) r:=by
 cases h
 exact bb (an.nil PP) Tryz.func86 (by kernel_rfl) (by kernel_rfl) (by kernel_rfl) (Nat.le_of_ble_eq_true (by kernel_rfl)) (r1 bo) true (false) (akh x.1)
noncomputable abbrev ark:Nat × Bool × (List AV→M AV):=(86,true,dh (aC cw a0) S6)
def rn (a b:UInt16):Int:=if (a.toNat:Int)<b.toNat then -1 else if (b.toNat:Int)<a.toNat then 1 else 0
theorem aqi (a b:UInt16):wl PP [ark] 0 (Tryz.f59.body.getD .skip) (dv PP Tryz.f59.results.toList (fun r st=>(r1 (bk .i64)).get true st.h r=some (rn a b))) (b9 0 [cw.val false a,cw.val false b]) (bj []):=by
 unfold Tryz.f59
 unfold rn
 simp only [↓wR,RA,simprocAttr,TF,ae,S6]
 rw [bc];refine ⟨fun h=>?_,fun h=>?_⟩
 ·rw [if_pos h]
  simp only [↓wR,RA,simprocAttr,TF,ae,h]
 ·rw [if_neg h]
  simp only [↓wR,RA,simprocAttr,TF,ae,h]
  rw [bc];refine ⟨fun h2=>?_,fun h2=>?_⟩
  ·rw [if_pos h2]
   simp only [↓wR,RA,simprocAttr,TF,ae,h2]
  ·rw [if_neg h2]
   simp only [↓wR,RA,simprocAttr,TF,ae,h2]
noncomputable def Ox (x:UInt16 × UInt16 × Unit):Option AV:=some ((r1 (bk .i64)).E true (rn x.1 x.2.1))
set_option maxRecDepth 2000000 in
theorem Qo (x:UInt16 × UInt16 × Unit) (r:AV) (h:Ox x=some r):br PP 59 ((aC cw (aC cw a0)).E x) r:=by
 cases h
 exact bb (an.cons (ar ad3) (an.nil PP)) Tryz.func59 (by kernel_rfl) (by kernel_rfl) (by kernel_rfl) (Nat.le_of_ble_eq_true (by kernel_rfl)) (r1 (bk .i64)) true (rn x.1 x.2.1) (aqi x.1 x.2.1)
noncomputable abbrev ao9:Nat × Bool × (List AV→M AV):=(59,true,dh (aC cw (aC cw a0)) Ox)
def Bn:List Int→Int
 | []=>0
 |a::r=>if a≠0 then a else Bn r
theorem atl (l:List Int) (hl:l.length≤16777216):wl PP [] 0 (Tryz.f57.body.getD .skip) (dv PP Tryz.f57.results.toList (fun r st=>(r1 (bk .i64)).get true st.h r=some (Bn l))) (b9 0 [(cj (bk .i64)).val false l]) (bj []):=by
 unfold Tryz.f57
 rw [pz]
 simp only [↓wR,RA,simprocAttr,TF,ae]
 refine cq [3,6,7,8] (fun (i:Nat)=>[.sc (.int .i64 (0)),.vl false 1 (l.map ((bk .i64).val false)),.sc (.int .i64 (l.length)),.sc (.int .i64 (i))]) (fun _=>[]) (fun i=>i≤l.length∧Bn l=Bn (l.drop i)) (fun i=>l.length - i) 0 ⟨Nat.zero_le _,rfl⟩ (by simp only [↓wR,RA,simprocAttr,TF,ae]<;>rfl) (by simp only [↓wR,RA,simprocAttr,TF,ae]<;>rfl) ?_
 rintro i ⟨hi,hx⟩
 simp only [↓wR,RA,simprocAttr,TF,ae]
 rw [bc];refine ⟨fun h=>?_,fun h=>?_⟩
 ·obtain ⟨c,hc,hd1,hlt⟩:=ek (decide_eq_true h)
  rw [hd1,Bn] at hx
  simp only [↓wR,RA,simprocAttr,TF,ae,h,hc]
  rw [dr];refine ⟨fun ⟨h2,e2⟩=>?_,fun ⟨h2,e2⟩=>?_⟩
  ·rw [if_pos e2] at hx
   simp only [↓wR,RA,simprocAttr,TF,ae,h2]
   rw [hx]
  ·rw [if_neg (by omega)] at hx
   simp only [↓wR,RA,simprocAttr,TF,ae,h2];repeat (simp (disch:=omega) only [ah,be,bf,bd,bg];try simp only [↓wR,RA,simprocAttr,TF,ae,h2])
   exact ⟨i+1,⟨hlt,hx⟩,by omega,by (first|rfl|trivial|omega|((try (simp (disch:=omega) only [ah]));(try (simp only [FB]));first|done|rfl|omega))⟩
 ·rw [ig (decide_eq_false h)] at hx
  simp only [↓wR,RA,simprocAttr,TF,ae,h]
  rw [hx];rfl
noncomputable def S8 (x:List Int × Unit):Option AV:=if x.1.length≤16777216 then some ((r1 (bk .i64)).E true (Bn x.1)) else none
set_option maxRecDepth 2000000 in
theorem Yx (x:List Int × Unit) (r:AV) (h:S8 x=some r):br PP 57 ((aC (cj (bk .i64)) a0).E x) r:=by
 by_cases hc:x.1.length≤16777216
 case neg=>simp only [S8,if_neg hc] at h;cases h
 simp only [S8,if_pos hc] at h
 cases h
 exact bb (an.nil PP) Tryz.func57 (by kernel_rfl) (by kernel_rfl) (by kernel_rfl) (Nat.le_of_ble_eq_true (by kernel_rfl)) (r1 (bk .i64)) true (Bn x.1) (atl x.1 hc)
noncomputable abbrev orC:Nat × Bool × (List AV→M AV):=(57,true,dh (aC (cj (bk .i64)) a0) S8)
noncomputable def rk (a b:ba):Int:=Bn [n6 a.owner b.owner,rn a.type b.type]
theorem ahq (a b:ba) (ha:ct a) (hb:ct b):wl PP [M3,ao9,orC] 0 (Tryz.f41.body.getD .skip) (dv PP Tryz.f41.results.toList (fun r st=>(r1 (bk .i64)).get true st.h r=some (rk a b))) (b9 0 [aj.val false a,aj.val false b]) (bj []):=by
 unfold Tryz.f41
 simp only [ij]
 simp only [↓wR,RA,simprocAttr,TF,ae]
 refine ⟨by kernel_rfl,.inl ?_⟩
 simp only [↓wR,RA,simprocAttr,TF,ae,re,Ox,S8,ha.owner,hb.owner]
 exact ⟨by kernel_rfl,rfl⟩
noncomputable def xc (x:ba × ba × Unit):Option AV:=if ct x.1∧ct x.2.1 then some ((r1 (bk .i64)).E true (rk x.1 x.2.1)) else none
set_option maxRecDepth 2000000 in
theorem Xd (x:ba × ba × Unit) (r:AV) (h:xc x=some r):br PP 41 ((aC aj (aC aj a0)).E x) r:=by
 by_cases hc:ct x.1∧ct x.2.1
 case neg=>simp only [xc,if_neg hc] at h;cases h
 simp only [xc,if_pos hc] at h
 cases h
 exact bb (an.cons (ar Cr) (an.cons (ar Qo) (an.cons (ar Yx) (an.nil PP)))) Tryz.func41 (by kernel_rfl) (by kernel_rfl) (by kernel_rfl) (Nat.le_of_ble_eq_true (by kernel_rfl)) (r1 (bk .i64)) true (rk x.1 x.2.1) (ahq x.1 x.2.1 hc.1 hc.2)
noncomputable abbrev Y0:Nat × Bool × (List AV→M AV):=(41,true,dh (aC aj (aC aj a0)) xc)
noncomputable def rh (t:UInt16):List bq→Bool
 |a::b::r=>if 0≤zv t a b then false else rh t (b::r)
 |_=>true
noncomputable def js (z:ca) (i:Nat) (s:ba):Bool:=
 (match i with|0=>true|k+1=>match z.ai[k]? with|some a=>decide (¬ (rk a s ≥ 0))|none=>true) && rh s.type s.data
theorem Bu (k:Nat):((k:Int)+1).toNat=k+1:=by omega
theorem K6 (k:Nat):(0:Int)≤(k:Int)+1:=by omega
theorem Vu (t:UInt16) {l:List bq} {k:Nat} {a b:bq} (ha:l[k]? = some a) (hb:l[k+1]? = some b):rh t (l.drop k)=if 0≤zv t a b then false else rh t (l.drop (k+1)):=by
 rw [Fc ha,Fc hb];rfl
theorem Rr (t:UInt16) {l:List bq} {k:Nat} (h:l.length≤k+1):rh t (l.drop k)=true:=by
 have:(l.drop k).length≤1:=by rw [List.length_drop];omega
 match hd:l.drop k with
 | []=>rfl
 | [a]=>rfl
 |a::b::r=>rw [hd] at this;simp at this
theorem an3 (l:s9) (i:Nat) (s:ba) (hz:db l.z) (hs:ct s) (hi:i≤l.z.ai.length):wl PP [Y0,Ac] 0 (Tryz.f18.body.getD .skip) (dv PP Tryz.f18.results.toList (fun r st=>(r1 bo).get true st.h r=some (js l.z i s))) (b9 0 [.gn (lq.cells false l),(bk .i64).val false i,aj.val false s]) (bj []):=by
 have hd:=hs.data
 have hn:=hd.len
 have hl:=hz.len
 unfold Tryz.f18
 simp only [ij]
 simp only [↓wR,RA,simprocAttr,TF,ae,zl]
 refine ⟨by kernel_rfl,.inl ?_⟩
 rw [bc];refine ⟨fun h=>?_,fun h=>?_⟩
 ·cases i with
  |zero=>omega
  |succ k=>
  obtain ⟨a,ha⟩:∃ a,l.z.ai[k]? = some a:=⟨_,List.getElem?_eq_getElem (by omega)⟩
  have has:=hz.set a (List.mem_of_getElem? ha)
  simp only [↓wR,RA,simprocAttr,TF,ae,h,ha,Int.natCast_add,Int.add_sub_cancel,xc,has,hs];repeat (simp (disch:=omega) only [ah,be,bf,bd,bg];try simp only [↓wR,RA,simprocAttr,TF,ae,h,ha,Int.natCast_add,Int.add_sub_cancel,xc,has,hs])
  refine ⟨by kernel_rfl,?_⟩
  rw [bc];refine ⟨fun h2=>?_,fun h2=>?_⟩
  ·have hv:js l.z (k+1) s=false:=by simp only [js,ha];simp [h2]
   simp only [↓wR,RA,simprocAttr,TF,ae,h2]
   rw [hv]
  have hv:js l.z (k+1) s=rh s.type s.data:=by simp only [js,ha];simp [h2]
  clear ha
  simp only [↓wR,RA,simprocAttr,TF,ae,h2]
  refine cq [5,7] (fun (k:Nat)=>[.ptr 0 0,.sc (.int .i64 ((k:Int)+1))]) (fun _=>[some (.row [.vl false 1 (s.owner.map (ak.val false)),.sc (.int .u16 s.type.toNat),.sc (.int .u16 s.cls.toNat),.sc (.int .u32 s.ff.toNat),.vl false 4 (s.data.map (aq.val false))] 0 2 33)]) (fun k=>(k=0∨k+1≤s.data.length)∧rh s.type s.data=rh s.type (s.data.drop k)) (fun k=>s.data.length - k) 0 ⟨.inl rfl,rfl⟩ (by simp only [↓wR,RA,simprocAttr,TF,ae]<;>rfl) (by simp only [↓wR,RA,simprocAttr,TF,ae]<;>rfl) ?_
  rintro k ⟨hk,hx⟩
  simp only [↓wR,RA,simprocAttr,TF,ae]
  rw [bc];refine ⟨fun h5=>?_,fun h5=>?_⟩
  ·obtain ⟨a,ha⟩:∃ a,s.data[k]? = some a:=⟨_,List.getElem?_eq_getElem (by omega)⟩
   obtain ⟨b,hb⟩:∃ b,s.data[k+1]? = some b:=⟨_,List.getElem?_eq_getElem (by omega)⟩
   rw [Vu _ ha hb] at hx
   have has:=hd.mem a (List.mem_of_getElem? ha)
   have hbs:=hd.mem b (List.mem_of_getElem? hb)
   simp only [↓wR,RA,simprocAttr,TF,ae,h5]
   refine ⟨by kernel_rfl,.inl ?_⟩
   simp only [↓wR,RA,simprocAttr,TF,ae,ha,hb,Int.add_sub_cancel,Bu,K6,kz,has,hbs];repeat (simp (disch:=omega) only [ah,be,bf,bd,bg];try simp only [↓wR,RA,simprocAttr,TF,ae,ha,hb,Int.add_sub_cancel,Bu,K6,kz,has,hbs])
   refine ⟨by kernel_rfl,?_⟩
   rw [bc];refine ⟨fun h6=>?_,fun h6=>?_⟩
   ·rw [if_pos h6] at hx
    simp only [↓wR,RA,simprocAttr,TF,ae,h6]
    rw [hv,hx]
   ·rw [if_neg h6] at hx
    simp only [↓wR,RA,simprocAttr,TF,ae,h6];repeat (simp (disch:=omega) only [ah,be,bf,bd,bg];try simp only [↓wR,RA,simprocAttr,TF,ae,h6])
    exact ⟨k+1,⟨.inr (by omega),hx⟩,by omega,by (first|rfl|trivial|omega|((try (simp (disch:=omega) only [ah]));(try (simp only [FB]));first|done|rfl|omega))⟩
  ·rw [Rr _ (by omega)] at hx
   simp only [↓wR,RA,simprocAttr,TF,ae,h5]
   rw [hv,hx]
 ·simp only [↓wR,RA,simprocAttr,TF,ae,h]
  have hi0:i=0:=by omega
  have hv:js l.z i s=rh s.type s.data:=by rw [hi0];simp [js]
  refine ⟨by kernel_rfl,?_⟩
  refine cq [5,7] (fun (k:Nat)=>[.ptr 0 0,.sc (.int .i64 ((k:Int)+1))]) (fun _=>[some (.row [.vl false 1 (s.owner.map (ak.val false)),.sc (.int .u16 s.type.toNat),.sc (.int .u16 s.cls.toNat),.sc (.int .u32 s.ff.toNat),.vl false 4 (s.data.map (aq.val false))] 0 2 33)]) (fun k=>(k=0∨k+1≤s.data.length)∧rh s.type s.data=rh s.type (s.data.drop k)) (fun k=>s.data.length - k) 0 ⟨.inl rfl,rfl⟩ (by simp only [↓wR,RA,simprocAttr,TF,ae]<;>rfl) (by simp only [↓wR,RA,simprocAttr,TF,ae]<;>rfl) ?_
  rintro k ⟨hk,hx⟩
  simp only [↓wR,RA,simprocAttr,TF,ae]
  rw [bc];refine ⟨fun h5=>?_,fun h5=>?_⟩
  ·obtain ⟨a,ha⟩:∃ a,s.data[k]? = some a:=⟨_,List.getElem?_eq_getElem (by omega)⟩
   obtain ⟨b,hb⟩:∃ b,s.data[k+1]? = some b:=⟨_,List.getElem?_eq_getElem (by omega)⟩
   rw [Vu _ ha hb] at hx
   have has:=hd.mem a (List.mem_of_getElem? ha)
   have hbs:=hd.mem b (List.mem_of_getElem? hb)
   simp only [↓wR,RA,simprocAttr,TF,ae,h5]
   refine ⟨by kernel_rfl,.inl ?_⟩
   simp only [↓wR,RA,simprocAttr,TF,ae,ha,hb,Int.add_sub_cancel,Bu,K6,kz,has,hbs];repeat (simp (disch:=omega) only [ah,be,bf,bd,bg];try simp only [↓wR,RA,simprocAttr,TF,ae,ha,hb,Int.add_sub_cancel,Bu,K6,kz,has,hbs])
   refine ⟨by kernel_rfl,?_⟩
   rw [bc];refine ⟨fun h6=>?_,fun h6=>?_⟩
   ·rw [if_pos h6] at hx
    simp only [↓wR,RA,simprocAttr,TF,ae,h6]
    rw [hv,hx]
   ·rw [if_neg h6] at hx
    simp only [↓wR,RA,simprocAttr,TF,ae,h6];repeat (simp (disch:=omega) only [ah,be,bf,bd,bg];try simp only [↓wR,RA,simprocAttr,TF,ae,h6])
    exact ⟨k+1,⟨.inr (by omega),hx⟩,by omega,by (first|rfl|trivial|omega|((try (simp (disch:=omega) only [ah]));(try (simp only [FB]));first|done|rfl|omega))⟩
  ·rw [Rr _ (by omega)] at hx
   simp only [↓wR,RA,simprocAttr,TF,ae,h5]
   rw [hv,hx]
theorem alv (l:s9) (i:Int) (s:ba) (hz:db l.z) (hs:ct s) (hi : 0≤i∧i≤l.z.ai.length):wl PP [Y0,Ac] 0 (Tryz.f18.body.getD .skip) (dv PP Tryz.f18.results.toList (fun r st=>(r1 bo).get true st.h r=some (js l.z i.toNat s))) (b9 0 [.gn (lq.cells false l),(bk .i64).val false i,aj.val false s]) (bj []):=by
 have:=an3 l i.toNat s hz hs (by omega)
 rwa [Int.toNat_of_nonneg hi.1] at this
noncomputable def Fy (x:s9 × Int × ba × Unit):Option AV:=if (db x.1.z∧ct x.2.2.1)∧0≤x.2.1∧x.2.1≤x.1.z.ai.length then some ((r1 bo).E true (js x.1.z x.2.1.toNat x.2.2.1)) else none
set_option maxRecDepth 2000000 in
theorem Md (x:s9 × Int × ba × Unit) (r:AV) (h:Fy x=some r):br PP 18 ((aP lq (aC (bk .i64) (aC aj a0))).E x) r:=by
 by_cases hc:(db x.1.z∧ct x.2.2.1)∧0≤x.2.1∧x.2.1≤x.1.z.ai.length
 case neg=>simp only [Fy,if_neg hc] at h;cases h
 simp only [Fy,if_pos hc] at h
 cases h
 exact bb (an.cons (ar Xd) (an.cons (ar wz) (an.nil PP))) Tryz.func18 (by kernel_rfl) (by kernel_rfl) (by kernel_rfl) (Nat.le_of_ble_eq_true (by kernel_rfl)) (r1 bo) true (js x.1.z x.2.1.toNat x.2.2.1) (alv x.1 x.2.1 x.2.2.1 hc.1.1 hc.1.2 hc.2)
noncomputable abbrev je:Nat × Bool × (List AV→M AV):=(18,true,dh (aP lq (aC (bk .i64) (aC aj a0))) Fy)
def Ca (i:Nat) (n:Name):Nat→List ba→Bool
 |_,[]=>false
 |k,o::r=>(decide (¬ (k:Int)=i) && fu o.owner n) || Ca i n (k+1) r
def ja (z:ca) (i:Nat) (s:ba):Bool:=
 if ¬ (s.type.toNat:Int)=5 then true else if ¬ (s.data.length:Int)=1 then false else if fu s.owner z.origin=true then false else !Ca i s.owner 0 z.ai
theorem ana (l:s9) (i:Nat) (s:ba) (hz:db l.z) (hs:ct s):wl PP [eb] 0 (Tryz.f25.body.getD .skip) (dv PP Tryz.f25.results.toList (fun r st=>(r1 bo).get true st.h r=some (ja l.z i s))) (b9 0 [.gn (lq.cells false l),(bk .i64).val false i,aj.val false s]) (bj []):=by
 have hl:=hz.len
 unfold Tryz.f25
 simp only [ij]
 simp only [↓wR,RA,simprocAttr,TF,ae,zl]
 unfold ja
 rw [dr];refine ⟨fun ⟨h,e⟩=>?_,fun ⟨h,e⟩=>?_⟩
 ·rw [if_pos e]
  simp only [↓wR,RA,simprocAttr,TF,ae,h]
 rw [if_neg (by omega)]
 simp only [↓wR,RA,simprocAttr,TF,ae,h]
 refine ⟨by kernel_rfl,.inl ?_⟩
 rw [dr];refine ⟨fun ⟨h2,e2⟩=>?_,fun ⟨h2,e2⟩=>?_⟩
 ·rw [if_pos e2]
  simp only [↓wR,RA,simprocAttr,TF,ae,h2]
  exact by kernel_rfl
 rw [if_neg (by omega)]
 simp only [↓wR,RA,simprocAttr,TF,ae,h2,gq,hs.owner,hz.origin]
 refine ⟨by kernel_rfl,?_⟩
 rw [dc];refine ⟨fun h3=>?_,fun h3=>?_⟩
 ·rw [if_pos h3]
  simp only [↓wR,RA,simprocAttr,TF,ae,h3]
 rw [if_neg (by rw [h3];decide)]
 simp only [↓wR,RA,simprocAttr,TF,ae,h3]
 refine cq [1,5,30,31,32] (fun (k:Nat)=>[.sc (.int .i64 (i)),.ptr 0 0,.vl false 5 (l.z.ai.map (aj.val false)),.sc (.int .i64 (l.z.ai.length)),.sc (.int .i64 (k))]) (fun _=>[some (.row [.vl false 1 (s.owner.map (ak.val false)),.sc (.int .u16 s.type.toNat),.sc (.int .u16 s.cls.toNat),.sc (.int .u32 s.ff.toNat),.vl false 4 (s.data.map (aq.val false))] 0 2 33)]) (fun k=>k≤l.z.ai.length∧Ca i s.owner 0 l.z.ai=Ca i s.owner k (l.z.ai.drop k)) (fun k=>l.z.ai.length - k) 0 ⟨Nat.zero_le _,rfl⟩ (by simp only [↓wR,RA,simprocAttr,TF,ae]<;>rfl) (by simp only [↓wR,RA,simprocAttr,TF,ae]<;>rfl) ?_
 rintro k ⟨hk,hx⟩
 simp only [↓wR,RA,simprocAttr,TF,ae]
 rw [bc];refine ⟨fun h4=>?_,fun h4=>?_⟩
 ·obtain ⟨c,hc,hd1,hlt⟩:=ek (decide_eq_true h4)
  rw [hd1,Ca] at hx
  have hcs:=hz.set c (List.mem_of_getElem? hc)
  simp only [↓wR,RA,simprocAttr,TF,ae,h4,hc]
  rw [dr];refine ⟨fun ⟨h5,e5⟩=>?_,fun ⟨h5,e5⟩=>?_⟩
  ·rw [decide_eq_true e5,Bool.true_and] at hx
   simp only [↓wR,RA,simprocAttr,TF,ae,h5,gq,hcs.owner,hs.owner]
   rw [dc];refine ⟨fun h6=>?_,fun h6=>?_⟩
   ·rw [h6,Bool.true_or] at hx
    simp only [↓wR,RA,simprocAttr,TF,ae,h6]
    rw [hx];rfl
   ·rw [h6,Bool.false_or] at hx
    simp only [↓wR,RA,simprocAttr,TF,ae,h6];repeat (simp (disch:=omega) only [ah,be,bf,bd,bg];try simp only [↓wR,RA,simprocAttr,TF,ae,h6])
    exact ⟨k+1,⟨hlt,hx⟩,by omega,by (first|rfl|trivial|omega|((try (simp (disch:=omega) only [ah]));(try (simp only [FB]));first|done|rfl|omega))⟩
  ·rw [decide_eq_false (by omega),Bool.false_and,Bool.false_or] at hx
   simp only [↓wR,RA,simprocAttr,TF,ae,h5];repeat (simp (disch:=omega) only [ah,be,bf,bd,bg];try simp only [↓wR,RA,simprocAttr,TF,ae,h5])
   exact ⟨k+1,⟨hlt,hx⟩,by omega,by (first|rfl|trivial|omega|((try (simp (disch:=omega) only [ah]));(try (simp only [FB]));first|done|rfl|omega))⟩
 ·rw [ig (decide_eq_false h4),Ca] at hx
  simp only [↓wR,RA,simprocAttr,TF,ae,h4]
  rw [hx];rfl
theorem akp (l:s9) (i:Int) (s:ba) (hz:db l.z) (hs:ct s) (hi : 0≤i):wl PP [eb] 0 (Tryz.f25.body.getD .skip) (dv PP Tryz.f25.results.toList (fun r st=>(r1 bo).get true st.h r=some (ja l.z i.toNat s))) (b9 0 [.gn (lq.cells false l),(bk .i64).val false i,aj.val false s]) (bj []):=by
 have:=ana l i.toNat s hz hs
 rwa [Int.toNat_of_nonneg hi] at this
noncomputable def B6 (x:s9 × Int × ba × Unit):Option AV:=if (db x.1.z∧ct x.2.2.1)∧0≤x.2.1 then some ((r1 bo).E true (ja x.1.z x.2.1.toNat x.2.2.1)) else none
set_option maxRecDepth 2000000 in
theorem Mg (x:s9 × Int × ba × Unit) (r:AV) (h:B6 x=some r):br PP 25 ((aP lq (aC (bk .i64) (aC aj a0))).E x) r:=by
 by_cases hc:(db x.1.z∧ct x.2.2.1)∧0≤x.2.1
 case neg=>simp only [B6,if_neg hc] at h;cases h
 simp only [B6,if_pos hc] at h
 cases h
 exact bb (an.cons (ar my) (an.nil PP)) Tryz.func25 (by kernel_rfl) (by kernel_rfl) (by kernel_rfl) (Nat.le_of_ble_eq_true (by kernel_rfl)) (r1 bo) true (ja x.1.z x.2.1.toNat x.2.2.1) (akp x.1 x.2.1 x.2.2.1 hc.1.1 hc.1.2 hc.2)
noncomputable abbrev jg:Nat × Bool × (List AV→M AV):=(25,true,dh (aP lq (aC (bk .i64) (aC aj a0))) B6)
def m9 (s:ba):Bool:=if ¬ (s.cls.toNat:Int)=1 then false else if (s.type.toNat:Int)=0 then false else if (s.type.toNat:Int)=41 then false else !decide ((s.type.toNat:Int)=255)
theorem amn (i:Int) (s:ba):wl PP [] 0 (Tryz.f19.body.getD .skip) (dv PP Tryz.f19.results.toList (fun r st=>(r1 bo).get true st.h r=some (m9 s))) (b9 0 [(bk .i64).val false i,aj.val false s]) (bj []):=by
 unfold Tryz.f19
 simp only [ij]
 simp only [↓wR,RA,simprocAttr,TF,ae]
 unfold m9
 rw [di];refine ⟨fun ⟨h,e⟩=>?_,fun ⟨h,e⟩=>?_⟩
 ·rw [if_neg (by omega)]
  simp only [↓wR,RA,simprocAttr,TF,ae,h]
  rw [dr];refine ⟨fun ⟨h2,e2⟩=>?_,fun ⟨h2,e2⟩=>?_⟩
  ·rw [if_neg e2]
   simp only [↓wR,RA,simprocAttr,TF,ae,h2]
   rw [dr];refine ⟨fun ⟨h3,e3⟩=>?_,fun ⟨h3,e3⟩=>?_⟩
   ·rw [if_neg e3]
    simp only [↓wR,RA,simprocAttr,TF,ae,h3]
    rfl
   ·rw [if_pos e3]
    simp only [↓wR,RA,simprocAttr,TF,ae,h3]
  ·rw [if_pos e2]
   simp only [↓wR,RA,simprocAttr,TF,ae,h2]
 ·rw [if_pos e]
  simp only [↓wR,RA,simprocAttr,TF,ae,h]
noncomputable def To (x:Int × ba × Unit):Option AV:=some ((r1 bo).E true (m9 x.2.1))
set_option maxRecDepth 2000000 in
theorem Nj (x:Int × ba × Unit) (r:AV) (h:To x=some r):br PP 19 ((aC (bk .i64) (aC aj a0)).E x) r:=by
 cases h
 exact bb (an.nil PP) Tryz.func19 (by kernel_rfl) (by kernel_rfl) (by kernel_rfl) (Nat.le_of_ble_eq_true (by kernel_rfl)) (r1 bo) true (m9 x.2.1) (amn x.1 x.2.1)
noncomputable abbrev jf:Nat × Bool × (List AV→M AV):=(19,true,dh (aC (bk .i64) (aC aj a0)) To)
theorem ai6 (i:Int) (s:ba) (z:ca) (hs:ct s) (hz:db z):wl PP [Aq] 0 (Tryz.f20.body.getD .skip) (dv PP Tryz.f20.results.toList (fun r st=>(r1 bo).get true st.h r=some (ir s.owner z.origin))) (b9 0 [(bk .i64).val false i,aj.val false s,.gn (c7.cells false z)]) (bj []):=by
 unfold Tryz.f20
 simp only [ij]
 simp only [↓wR,RA,simprocAttr,TF,ae,z2,pd,hs.owner,hz.origin]
noncomputable def Cg (x:Int × ba × ca × Unit):Option AV:=if ct x.2.1∧db x.2.2.1 then some ((r1 bo).E true (ir x.2.1.owner x.2.2.1.origin)) else none
set_option maxRecDepth 2000000 in
theorem I7 (x:Int × ba × ca × Unit) (r:AV) (h:Cg x=some r):br PP 20 ((aC (bk .i64) (aC aj (aP c7 a0))).E x) r:=by
 by_cases hc:ct x.2.1∧db x.2.2.1
 case neg=>simp only [Cg,if_neg hc] at h;cases h
 simp only [Cg,if_pos hc] at h
 cases h
 exact bb (an.cons (ar vi) (an.nil PP)) Tryz.func20 (by kernel_rfl) (by kernel_rfl) (by kernel_rfl) (Nat.le_of_ble_eq_true (by kernel_rfl)) (r1 bo) true (ir x.2.1.owner x.2.2.1.origin) (ai6 x.1 x.2.1 x.2.2.1 hc.1 hc.2)
noncomputable abbrev ik:Nat × Bool × (List AV→M AV):=(20,true,dh (aC (bk .i64) (aC aj (aP c7 a0))) Cg)
def kh (s:ba):Bool:=if ¬ (s.type.toNat:Int)=2 then true else match s.owner[0]? with|none=>true|some a=>!decide (a=agk)
theorem aqt (i:Int) (s:ba) (hs:ct s):wl PP [] 0 (Tryz.f26.body.getD .skip) (dv PP Tryz.f26.results.toList (fun r st=>(r1 bo).get true st.h r=some (kh s))) (b9 0 [(bk .i64).val false i,aj.val false s]) (bj []):=by
 have hn:=hs.owner.lt
 unfold Tryz.f26
 simp only [ij]
 simp only [↓wR,RA,simprocAttr,TF,ae]
 unfold kh
 rw [dr];refine ⟨fun ⟨h,e⟩=>?_,fun ⟨h,e⟩=>?_⟩
 ·rw [if_pos e]
  simp only [↓wR,RA,simprocAttr,TF,ae,h]
 rw [if_neg (by omega)]
 simp only [↓wR,RA,simprocAttr,TF,ae,h]
 rw [di];refine ⟨fun ⟨h2,e2⟩=>?_,fun ⟨h2,e2⟩=>?_⟩
 ·have hnil:s.owner=[]:=List.eq_nil_of_length_eq_zero (by omega)
  have h0:s.owner[0]? = none:=by rw [hnil];rfl
  rw [h0]
  simp only [↓wR,RA,simprocAttr,TF,ae,h2]
 ·obtain ⟨a,ha⟩:∃ a,s.owner[0]? = some a:=⟨_,List.getElem?_eq_getElem (by omega)⟩
  have h0 : 0<s.owner.length:=by omega
  rw [ha]
  simp only [↓wR,RA,simprocAttr,TF,ae,h2,ha,h0]
  rfl
noncomputable def Gb (x:Int × ba × Unit):Option AV:=if ct x.2.1 then some ((r1 bo).E true (kh x.2.1)) else none
set_option maxRecDepth 2000000 in
theorem Qg (x:Int × ba × Unit) (r:AV) (h:Gb x=some r):br PP 26 ((aC (bk .i64) (aC aj a0)).E x) r:=by
 by_cases hc:ct x.2.1
 case neg=>simp only [Gb,if_neg hc] at h;cases h
 simp only [Gb,if_pos hc] at h
 cases h
 exact bb (an.nil PP) Tryz.func26 (by kernel_rfl) (by kernel_rfl) (by kernel_rfl) (Nat.le_of_ble_eq_true (by kernel_rfl)) (r1 bo) true (kh x.2.1) (aqt x.1 x.2.1 hc)
noncomputable abbrev ki:Nat × Bool × (List AV→M AV):=(26,true,dh (aC (bk .i64) (aC aj a0)) Gb)
def o9 (z:ca) (s:ba):Bool:=
 match ye z s.owner with
 |none=>true
 |some c=>if (s.type.toNat:Int)=1 then true else if (s.type.toNat:Int)=28 then true else if (s.type.toNat:Int)=2 then fu c s.owner else false
theorem aro (i:Int) (s:ba) (z:ca) (hs:ct s) (hz:db z):wl PP [at8,eb] 0 (Tryz.f27.body.getD .skip) (dv PP Tryz.f27.results.toList (fun r st=>(r1 bo).get true st.h r=some (o9 z s))) (b9 0 [(bk .i64).val false i,aj.val false s,.gn (c7.cells false z)]) (bj []):=by
 have hsm:=alq (n:=s.owner) hz z.ai none (fun _ h=>h) (fun m hm=>by cases hm)
 change ∀ m,ye z s.owner=some m→cp m at hsm
 unfold Tryz.f27
 simp only [ij]
 unfold o9
 cases hc:ye z s.owner with
 |none=>
  simp only [↓wR,RA,simprocAttr,TF,ae,z2,K9,hs.owner,hz,hc,Option.isSome_none]
  done
 |some c=>
  simp only [↓wR,RA,simprocAttr,TF,ae,z2,K9,hs.owner,hz,hc]
  rw [di];refine ⟨fun ⟨h,e⟩=>?_,fun ⟨h,e⟩=>?_⟩
  ·rw [if_pos e]
   simp only [↓wR,RA,simprocAttr,TF,ae,h]
  rw [if_neg e]
  simp only [↓wR,RA,simprocAttr,TF,ae,h]
  rw [di];refine ⟨fun ⟨h2,e2⟩=>?_,fun ⟨h2,e2⟩=>?_⟩
  ·rw [if_pos e2]
   simp only [↓wR,RA,simprocAttr,TF,ae,h2]
  rw [if_neg e2]
  simp only [↓wR,RA,simprocAttr,TF,ae,h2]
  rw [di];refine ⟨fun ⟨h3,e3⟩=>?_,fun ⟨h3,e3⟩=>?_⟩
  ·rw [if_pos e3]
   simp only [↓wR,RA,simprocAttr,TF,ae,h3,gq,hs.owner,hsm c hc]
  ·rw [if_neg e3]
   simp only [↓wR,RA,simprocAttr,TF,ae,h3]
noncomputable def Lf (x:Int × ba × ca × Unit):Option AV:=if ct x.2.1∧db x.2.2.1 then some ((r1 bo).E true (o9 x.2.2.1 x.2.1)) else none
set_option maxRecDepth 2000000 in
theorem Vx (x:Int × ba × ca × Unit) (r:AV) (h:Lf x=some r):br PP 27 ((aC (bk .i64) (aC aj (aP c7 a0))).E x) r:=by
 by_cases hc:ct x.2.1∧db x.2.2.1
 case neg=>simp only [Lf,if_neg hc] at h;cases h
 simp only [Lf,if_pos hc] at h
 cases h
 exact bb (an.cons (ar ami) (an.cons (ar my) (an.nil PP))) Tryz.func27 (by kernel_rfl) (by kernel_rfl) (by kernel_rfl) (Nat.le_of_ble_eq_true (by kernel_rfl)) (r1 bo) true (o9 x.2.2.1 x.2.1) (aro x.1 x.2.1 x.2.2.1 hc.1 hc.2)
noncomputable abbrev oc:Nat × Bool × (List AV→M AV):=(27,true,dh (aC (bk .i64) (aC aj (aP c7 a0))) Lf)
def oo (z:ca) (p:Nat × Nat) (s:ba):Nat × Nat:=
 if (s.type.toNat:Int)=6 then (p.1+1,if (fu s.owner z.origin && decide ((s.data.length:Int)=1))=true then p.2+1 else p.2) else p
def gi (z:ca):Nat × Nat:=z.ai.foldl (oo z) (0,0)
theorem apx (k:s9) (hz:db k.z):wl PP [eb] 0 (Tryz.f22.body.getD .skip) (dv PP Tryz.f22.results.toList (fun r st=>(r2 (bk .i64) (bk .i64)).get true st.h r=some (((gi k.z).1:Int),((gi k.z).2:Int)))) (b9 0 [.gn (lq.cells false k)]) (bj []):=by
 have hl:=hz.len
 unfold Tryz.f22
 simp only [↓wR,RA,simprocAttr,TF,ae,zl]
 refine bn (T:=[]) (an.nil PP) mixed Tryz.func24 rfl (by kernel_rfl) (by kernel_rfl) (by kernel_rfl) (by kernel_rfl) ?_;unfold Tryz.f24
 simp only [↓wR,RA,simprocAttr,TF,ae]
 refine ⟨[1,4,5,11],?_⟩
 have hib:uc PP 43=some (Tryz.f43.ntmps,Tryz.f43.body.getD .skip):=by kernel_rfl
 simp only [↓wR,RA,simprocAttr,TF,ae,hib]
 refine ⟨by kernel_rfl,fun l=>?_⟩
 unfold Tryz.f43
 simp only [↓wR,RA,simprocAttr,TF,ae]
 refine Dt [0,2,7,8,9] (fun (x:Nat × Nat × Nat)=>[.sc (.func (.yield l) #[] #[]),.ptr 4 0,.vl false 5 (k.z.ai.map (aj.val false)),.sc (.int .i64 (k.z.ai.length)),.sc (.int .i64 (x.1))]) (fun x=>[some (.row [.gn [.vl false 1 (k.z.origin.map (ak.val false)),.vl false 5 (k.z.ai.map (aj.val false)),.sc (.int .i64 (k.e))]] 0 2 51),some (.row [.sc (.int .i64 (x.2.1:Int))] 0 2 3),some (.row [.sc (.int .i64 (x.2.2:Int))] 0 2 3),some (.row [.vl false 1 (k.z.origin.map (ak.val false)),.vl false 5 (k.z.ai.map (aj.val false))] 0 2 26),some (.row [.sc (.int .u16 6)] 0 2 28)]) (fun x=>x.1≤k.z.ai.length∧x.2.1≤x.1∧x.2.2≤x.1∧gi k.z=(k.z.ai.drop x.1).foldl (oo k.z) x.2) (fun x=>k.z.ai.length - x.1) (0,0,0) ⟨Nat.zero_le _,Nat.le_refl _,Nat.le_refl _,rfl⟩ (by simp only [↓wR,RA,simprocAttr,TF,ae]<;>rfl) (by simp only [↓wR,RA,simprocAttr,TF,ae]<;>rfl) ?_
 rintro ⟨i,n,m⟩ ⟨hi,hn,hm,hx⟩
 simp only at hi hn hm hx
 simp only [↓wR,RA,simprocAttr,TF,ae]
 rw [vd];refine ⟨fun h=>?_,fun h=>?_⟩
 ·obtain ⟨c,hc,hd1,hlt⟩:=ek h
  have hcs:=hz.set c (List.mem_of_getElem? hc)
  have hstep:gi k.z=(k.z.ai.drop (i+1)).foldl (oo k.z) (oo k.z (n,m) c):=by rw [hx,hd1];rfl
  simp only [↓wR,RA,simprocAttr,TF,ae,h,hc]
  rw [vd];refine ⟨fun h2=>?_,fun h2=>?_⟩
  ·have e2:(c.type.toNat:Int)=6:=by simpa using h2
   simp only [↓wR,RA,simprocAttr,TF,ae,h2]
   refine xt [0,2,7,8,9,17,19] ?_
   simp only [↓wR,RA,simprocAttr,TF,ae,y6,nf];repeat (simp (disch:=omega) only [ah,be,bf,bd,bg];try simp only [↓wR,RA,simprocAttr,TF,ae,y6,nf])
   refine ⟨by kernel_rfl,.inl ?_⟩
   simp only [↓wR,RA,simprocAttr,TF,ae,gq,hcs.owner,hz.origin]
   have fin:∀ q,oo k.z (n,m) c=(n+1,q)→q≤i+1→gi k.z=(k.z.ai.drop (i+1)).foldl (oo k.z) (n+1,q):=fun q hq _=>by rw [hstep,hq]
   rw [dc];refine ⟨fun h3=>?_,fun h3=>?_⟩
   ·simp only [↓wR,RA,simprocAttr,TF,ae,h3]
    refine ⟨by kernel_rfl,?_⟩
    rw [di];refine ⟨fun ⟨h4,e4⟩=>?_,fun ⟨h4,e4⟩=>?_⟩
    ·have hq:oo k.z (n,m) c=(n+1,m+1):=by simp [oo,e2,h3,e4]
     simp only [↓wR,RA,simprocAttr,TF,ae,h4];repeat (simp (disch:=omega) only [ah,be,bf,bd,bg];try simp only [↓wR,RA,simprocAttr,TF,ae,h4])
     exact ⟨(i+1,n+1,m+1),⟨hlt,by simp;omega,by simp;omega,fin _ hq (by omega)⟩,by simp;omega,by (first|rfl|trivial|omega|((try (simp (disch:=omega) only [ah]));(try (simp only [FB]));first|done|rfl|omega)),by (first|rfl|trivial|omega|((try (simp (disch:=omega) only [ah]));(try (simp only [FB]));first|done|rfl|omega))⟩
    ·have hq:oo k.z (n,m) c=(n+1,m):=by simp [oo,e2,h3,e4]
     simp only [↓wR,RA,simprocAttr,TF,ae,h4];repeat (simp (disch:=omega) only [ah,be,bf,bd,bg];try simp only [↓wR,RA,simprocAttr,TF,ae,h4])
     exact ⟨(i+1,n+1,m),⟨hlt,by simp;omega,by simp;omega,fin _ hq (by omega)⟩,by simp;omega,by (first|rfl|trivial|omega|((try (simp (disch:=omega) only [ah]));(try (simp only [FB]));first|done|rfl|omega)),by (first|rfl|trivial|omega|((try (simp (disch:=omega) only [ah]));(try (simp only [FB]));first|done|rfl|omega))⟩
   ·have hq:oo k.z (n,m) c=(n+1,m):=by simp [oo,e2,h3]
    simp only [↓wR,RA,simprocAttr,TF,ae,h3]
    refine ⟨by kernel_rfl,?_⟩
    exact ⟨(i+1,n+1,m),⟨hlt,by simp;omega,by simp;omega,fin _ hq (by omega)⟩,by simp;omega,by (first|rfl|trivial|omega|((try (simp (disch:=omega) only [ah]));(try (simp only [FB]));first|done|rfl|omega)),by (first|rfl|trivial|omega|((try (simp (disch:=omega) only [ah]));(try (simp only [FB]));first|done|rfl|omega))⟩
  ·have e2:¬ (c.type.toNat:Int)=6:=by simpa using h2
   have hb2:oo k.z (n,m) c=(n,m):=by simp [oo,e2]
   rw [hb2] at hstep
   simp only [↓wR,RA,simprocAttr,TF,ae,h2];repeat (simp (disch:=omega) only [ah,be,bf,bd,bg];try simp only [↓wR,RA,simprocAttr,TF,ae,h2])
   exact ⟨(i+1,n,m),⟨hlt,by simp;omega,by simp;omega,hstep⟩,by simp;omega,by (first|rfl|trivial|omega|((try (simp (disch:=omega) only [ah]));(try (simp only [FB]));first|done|rfl|omega)),by (first|rfl|trivial|omega|((try (simp (disch:=omega) only [ah]));(try (simp only [FB]));first|done|rfl|omega))⟩
 ·rw [ig h] at hx
  simp only [↓wR,RA,simprocAttr,TF,ae,h]
  refine ⟨by kernel_rfl,.inl ?_⟩
  refine ⟨by kernel_rfl,?_⟩
  rw [hx];rfl
noncomputable def Ix (x:s9 × Unit):Option AV:=if db x.1.z then some ((r2 (bk .i64) (bk .i64)).E true ((((gi x.1.z).1:Int),((gi x.1.z).2:Int)))) else none
set_option maxRecDepth 2000000 in
theorem Oy (x:s9 × Unit) (r:AV) (h:Ix x=some r):br PP 22 ((aP lq a0).E x) r:=by
 by_cases hc:db x.1.z
 case neg=>simp only [Ix,if_neg hc] at h;cases h
 simp only [Ix,if_pos hc] at h
 cases h
 exact bb (an.cons (ar my) (an.nil PP)) Tryz.func22 (by kernel_rfl) (by kernel_rfl) (by kernel_rfl) (Nat.le_of_ble_eq_true (by kernel_rfl)) (r2 (bk .i64) (bk .i64)) true ((((gi x.1.z).1:Int),((gi x.1.z).2:Int))) (apx x.1 hc)
noncomputable abbrev kj:Nat × Bool × (List AV→M AV):=(22,true,dh (aP lq a0) Ix)
def cf (b:Bool) (err e:Int):Int:=if e=0∧b=false then err else e
def fj (err:Int) (p:Nat→ba→Bool):Nat→List ba→Int→Int
 |_,[],e=>e
 |i,s::r,e=>if e≠0 then e else fj err p (i+1) r (cf (p i s) err e)
def mq (l:List ba):Nat:=l.foldl (fun n s=>n+s.data.length) 0
noncomputable def D1:List ba→Int→Int
 | [],e=>e
 |s::r,e=>D1 r (if e=0 then uh s else e)
noncomputable def ui (z:ca):Int:=if eh z.origin≠0 then eh z.origin else D1 z.ai (cf (decide (mq z.ai≤2048)) 3 0)
def Hk (z:ca) (l:List ba):Bool:=l.any fun s=>decide ((s.type.toNat:Int)=2) && fu s.owner z.origin
def gv (z:ca):Bool:=Hk z z.ai
theorem abt {z:ca} {l:List ba} {i:Nat} {c:ba} (h:l.drop i=c::l.drop (i+1)):Hk z (l.drop i)=((decide ((c.type.toNat:Int)=2) && fu c.owner z.origin) || Hk z (l.drop (i+1))):=by rw [h];rfl
noncomputable def Rs (z:ca):Int:=fj 260 (js z) 0 z.ai (ui z)
noncomputable def Sa (z:ca):Int:=fj 261 (fun _ s=>m9 s) 0 z.ai (Rs z)
noncomputable def qm (z:ca):Int:=fj 262 (fun _ s=>ir s.owner z.origin) 0 z.ai (Sa z)
noncomputable def ma (z:ca):Int:=cf (decide ((gi z).1=1) && decide ((gi z).2=1)) 263 (qm z)
noncomputable def C6 (z:ca):Int:=cf (gv z) 264 (ma z)
noncomputable def Ch (z:ca):Int:=fj 265 (ja z) 0 z.ai (C6 z)
noncomputable def Ie (z:ca):Int:=fj 266 (fun _ s=>kh s) 0 z.ai (Ch z)
noncomputable def arb (z:ca):Int:=fj 267 (fun _ s=>o9 z s) 0 z.ai (Ie z)
noncomputable def ji (z:ca):Int:=if ui z≠0 then ui z else arb z
theorem Y2 (l:List ba) (i:Nat) (c:ba) (h:l[i]? = some c):mq (l.take (i+1))=mq (l.take i)+c.data.length:=by
 obtain ⟨hk,rfl⟩:=List.getElem?_eq_some_iff.1 h
 rw [List.take_succ_eq_append_getElem hk];simp only [mq,List.foldl_append,List.foldl_cons,List.foldl_nil]
theorem Zg (l:List ba):∀ k,l.foldl (fun n s=>n+s.data.length) k≤k+gz j7 l:=by
 induction l with
 |nil=>intro k;exact Nat.le_refl _
 |cons a l ih=>
  intro k
  have h1:=ih (k+a.data.length)
  have h2:=B3 A7 a.data
  simp only [gz,List.foldr_cons,List.foldl_cons,j7] at h1 ⊢
  unfold gz at h2
  omega
theorem ahz (l:List ba):mq l≤gz j7 l:=by have:=Zg l 0;unfold mq;omega
theorem am0 {l:List ba} {i:Nat} {c:ba} (h:l.drop i=c::l.drop (i+1)) (e:Int):D1 (l.drop i) e=D1 (l.drop (i+1)) (if e=0 then uh c else e):=by rw [h];rfl
theorem s8 {l:List ba} {i:Nat} {c:ba} (h:l.drop i=c::l.drop (i+1)) (err:Int) (p:Nat→ba→Bool) (e:Int):fj err p i (l.drop i) e=if e≠0 then e else fj err p (i+1) (l.drop (i+1)) (cf (p i c) err e):=by rw [h];rfl
set_option maxHeartbeats 4000000 in
theorem Zi (z:ca) (hz:db z):wl PP [ed,eb,fw,je,jg,jf,ik,ki,oc,kj] 0 (Tryz.f6.body.getD .skip) (dv PP Tryz.f6.results.toList (fun r st=>(r1 (bk .i64)).get true st.h r=some (ji z))) (b9 0 [c7.val false z]) (bj []):=by
 have hl:=hz.len
 have ok:an PP [ed,eb,fw,je,jg,jf,ik,ki,oc,kj]:=an.cons (ar rq) (an.cons (ar my) (an.cons (ar Hn) (an.cons (ar Md) (an.cons (ar Mg) (an.cons (ar Nj) (an.cons (ar I7) (an.cons (ar Qg) (an.cons (ar Vx) (an.cons (ar Oy) (an.nil PP))))))))))
 unfold Tryz.f6
 simp only [kq]
 simp only [↓wR,RA,simprocAttr,TF,ae]
 refine cz (fun r st'=>r = .ea []∧st'=bj [some (.row [.vl false 1 (z.origin.map (ak.val false)),.vl false 5 (z.ai.map (aj.val false))] 0 2 26),some (.row [.vl false 1 (z.origin.map (ak.val false)),.vl false 5 (z.ai.map (aj.val false)),.sc (.int .i64 (ui z))] 0 2 53)]) rfl ?_ ?_
 ·refine bn (T:=[ed,eb,fw,je,jg,jf,ik,ki,oc,kj]) ok mixed Tryz.func16 rfl (by kernel_rfl) (by kernel_rfl) (by kernel_rfl) (by kernel_rfl) ?_;unfold Tryz.f16
  simp only [↓wR,RA,simprocAttr,TF,ae,qs,hz.origin.fit]
  unfold ui
  rw [dc];refine ⟨fun h=>?_,fun h=>?_⟩
  ·have he:eh z.origin≠0:=by simpa using h
   rw [if_pos he]
   simp only [↓wR,RA,simprocAttr,TF,ae,h,ft,fh,eu]
  have he:eh z.origin=0:=by simpa using h
  rw [if_neg (by omega)]
  simp only [↓wR,RA,simprocAttr,TF,ae,h,he]
  refine cq [0,2,25,26,27] (fun (i:Nat)=>[.ptr 1 0,.sc (.int .i64 (mq (z.ai.take i))),.vl false 5 (z.ai.map (aj.val false)),.sc (.int .i64 (z.ai.length)),.sc (.int .i64 (i))]) (fun _=>[some (.row [.vl false 1 (z.origin.map (ak.val false)),.vl false 5 (z.ai.map (aj.val false))] 0 2 26),some (.row [.vl false 1 (z.origin.map (ak.val false)),.vl false 5 (z.ai.map (aj.val false)),.sc (.int .i64 (0))] 0 2 53)]) (fun i=>i≤z.ai.length) (fun i=>z.ai.length - i) 0 (Nat.zero_le _) (by simp only [↓wR,RA,simprocAttr,TF,ae]<;>rfl) (by simp only [↓wR,RA,simprocAttr,TF,ae]<;>rfl) ?_
  clear h
  intro i hi
  have hsum:=ahz (z.ai.take i)
  have hsum2:=ac2 j7 z.ai i
  have hzz:gz j7 z.ai≤16777216:=by unfold db xo at hz;omega
  simp only [↓wR,RA,simprocAttr,TF,ae]
  rw [bc];refine ⟨fun h=>?_,fun h=>?_⟩
  ·obtain ⟨c,hc,hd1,hlt⟩:=ek (decide_eq_true h)
   have hst:=Y2 z.ai i c hc
   have hcl:=(hz.set c (List.mem_of_getElem? hc)).data.len
   simp only [↓wR,RA,simprocAttr,TF,ae,h,hc];repeat (simp (disch:=omega) only [ah,be,bf,bd,bg];try simp only [↓wR,RA,simprocAttr,TF,ae,h,hc])
   exact ⟨i+1,hlt,by omega,by rw [hst];(first|rfl|trivial|omega|((try (simp (disch:=omega) only [ah]));(try (simp only [FB]));first|done|rfl|omega))⟩
  have hin:i=z.ai.length:=by omega
  rw [hin,List.take_length] at hsum ⊢
  simp only [↓wR,RA,simprocAttr,TF,ae,h]
  have hd:decide ((mq z.ai:Int)≤2048)=decide (mq z.ai≤2048):=by rw [decide_eq_decide];omega
  rw [hd]
  refine cz (fun r st'=>r = .ea []∧st'=bj [some (.row [.vl false 1 (z.origin.map (ak.val false)),.vl false 5 (z.ai.map (aj.val false))] 0 2 26),some (.row [.vl false 1 (z.origin.map (ak.val false)),.vl false 5 (z.ai.map (aj.val false)),.sc (.int .i64 (cf (decide (mq z.ai≤2048)) 3 (0)))] 0 2 53)]) rfl ?_ ?_
  ·refine bn (T:=[ed,eb,fw,je,jg,jf,ik,ki,oc,kj]) ok mixed Tryz.func23 rfl (by kernel_rfl) (by kernel_rfl) (by kernel_rfl) (by kernel_rfl) ?_;unfold Tryz.f23
   simp only [↓wR,RA,simprocAttr,TF,ae]
   rw [dc];refine ⟨fun hn2=>?_,fun hn2=>?_⟩
   ·have hb:(decide (mq z.ai≤2048))=false:=by simpa only [Bool.not_eq_true'] using hn2
    have hv:cf (decide (mq z.ai≤2048)) 3 (0)=3:=by unfold cf;rw [if_pos ⟨rfl,hb⟩]
    simp only [↓wR,RA,simprocAttr,TF,ae,hn2,ft,fh,eu]
    try rw [hv]
   ·have hb:(decide (mq z.ai≤2048))=true:=by simpa only [Bool.not_eq_false'] using hn2
    have hv:cf (decide (mq z.ai≤2048)) 3 (0)=0:=by unfold cf;rw [if_neg (fun q=>by rw [hb] at q;cases q.2)]
    simp only [↓wR,RA,simprocAttr,TF,ae,hn2,ft,fh,eu]
    try rw [hv]
  rintro _ _ ⟨rfl,rfl⟩
  simp only [↓wR,RA,simprocAttr,TF,ae,da]
  refine cq [0,45,46,47] (fun (x:Nat × Int)=>[.ptr 1 0,.vl false 5 (z.ai.map (aj.val false)),.sc (.int .i64 (z.ai.length)),.sc (.int .i64 (x.1))]) (fun x=>[some (.row [.vl false 1 (z.origin.map (ak.val false)),.vl false 5 (z.ai.map (aj.val false))] 0 2 26),some (.row [.vl false 1 (z.origin.map (ak.val false)),.vl false 5 (z.ai.map (aj.val false)),.sc (.int .i64 (x.2))] 0 2 53)]) (fun x=>x.1≤z.ai.length∧D1 z.ai (cf (decide (mq z.ai≤2048)) 3 0)=D1 (z.ai.drop x.1) x.2) (fun x=>z.ai.length - x.1) (0,cf (decide (mq z.ai≤2048)) 3 0) ⟨Nat.zero_le _,rfl⟩ (by simp only [↓wR,RA,simprocAttr,TF,ae]<;>rfl) (by simp only [↓wR,RA,simprocAttr,TF,ae]<;>rfl) ?_
  clear h hi hin hd
  rintro ⟨i,e⟩ ⟨hi,hx⟩
  simp only at hi hx
  simp only [↓wR,RA,simprocAttr,TF,ae]
  rw [bc];refine ⟨fun h=>?_,fun h=>?_⟩
  ·obtain ⟨c,hc,hd1,hlt⟩:=ek (decide_eq_true h)
   rw [am0 hd1] at hx
   have hcs:=hz.set c (List.mem_of_getElem? hc)
   simp only [↓wR,RA,simprocAttr,TF,ae,h,hc]
   rw [di];refine ⟨fun ⟨h1,e1⟩=>?_,fun ⟨h1,e1⟩=>?_⟩
   ·rw [if_pos e1] at hx
    simp only [↓wR,RA,simprocAttr,TF,ae,h1,xk,hcs];repeat (simp (disch:=omega) only [ah,be,bf,bd,bg];try simp only [↓wR,RA,simprocAttr,TF,ae,h1,xk,hcs])
    exact ⟨(i+1,uh c),⟨hlt,hx⟩,by simp;omega,by (first|rfl|trivial|omega|((try (simp (disch:=omega) only [ah]));(try (simp only [FB]));first|done|rfl|omega)),by (first|rfl|trivial|omega|((try (simp (disch:=omega) only [ah]));(try (simp only [FB]));first|done|rfl|omega))⟩
   ·rw [if_neg e1] at hx
    simp only [↓wR,RA,simprocAttr,TF,ae,h1];repeat (simp (disch:=omega) only [ah,be,bf,bd,bg];try simp only [↓wR,RA,simprocAttr,TF,ae,h1])
    exact ⟨(i+1,e),⟨hlt,hx⟩,by simp;omega,by (first|rfl|trivial|omega|((try (simp (disch:=omega) only [ah]));(try (simp only [FB]));first|done|rfl|omega)),by (first|rfl|trivial|omega|((try (simp (disch:=omega) only [ah]));(try (simp only [FB]));first|done|rfl|omega))⟩
  ·rw [ig (decide_eq_false h)] at hx
   simp only [↓wR,RA,simprocAttr,TF,ae,h,ft,fh,eu]
   rw [hx];rfl
 rintro _ _ ⟨rfl,rfl⟩
 simp only [↓wR,RA,simprocAttr,TF,ae,da]
 unfold ji
 rw [dc];refine ⟨fun h=>?_,fun h=>?_⟩
 ·have he:ui z≠0:=by simpa using h
  rw [if_pos he]
  simp only [↓wR,RA,simprocAttr,TF,ae,h]
 have he:ui z=0:=by simpa using h
 rw [if_neg (by omega)]
 simp only [↓wR,RA,simprocAttr,TF,ae,h]
 clear h he
 obtain ⟨e0,he0⟩:∃ e0,ui z=e0:=⟨_,rfl⟩
 rw [he0]
 refine cz (fun r st'=>r = .ea []∧st'=bj [some (.row [.vl false 1 (z.origin.map (ak.val false)),.vl false 5 (z.ai.map (aj.val false))] 0 2 26),some (.row [.vl false 1 (z.origin.map (ak.val false)),.vl false 5 (z.ai.map (aj.val false)),.sc (.int .i64 (fj 260 (js z) 0 z.ai e0))] 0 2 53)]) rfl ?_ ?_
 ·refine bn (T:=[ed,eb,fw,je,jg,jf,ik,ki,oc,kj]) ok mixed Tryz.func17 rfl (by kernel_rfl) (by kernel_rfl) (by kernel_rfl) (by kernel_rfl) ?_;unfold Tryz.f17
  simp only [↓wR,RA,simprocAttr,TF,ae]
  refine cq [0,1,2,12,13,14] (fun (x:Nat × Int)=>[.ptr 1 0,.sc (.int .i64 (260)),.fn (.func 18) [.ptr 1 0] [],.vl false 5 (z.ai.map (aj.val false)),.sc (.int .i64 (z.ai.length)),.sc (.int .i64 (x.1))]) (fun x=>[some (.row [.vl false 1 (z.origin.map (ak.val false)),.vl false 5 (z.ai.map (aj.val false))] 0 2 26),some (.row [.vl false 1 (z.origin.map (ak.val false)),.vl false 5 (z.ai.map (aj.val false)),.sc (.int .i64 (x.2))] 0 2 53)]) (fun x=>x.1≤z.ai.length∧fj 260 (js z) 0 z.ai e0=fj 260 (js z) x.1 (z.ai.drop x.1) x.2) (fun x=>z.ai.length - x.1) (0,e0) ⟨Nat.zero_le _,rfl⟩ (by simp only [↓wR,RA,simprocAttr,TF,ae]<;>rfl) (by simp only [↓wR,RA,simprocAttr,TF,ae]<;>rfl) ?_
  rintro ⟨i,e⟩ ⟨hi,hx⟩
  simp only at hi hx
  simp only [↓wR,RA,simprocAttr,TF,ae]
  rw [bc];refine ⟨fun h=>?_,fun h=>?_⟩
  ·obtain ⟨c,hc,hd1,hlt⟩:=ek (decide_eq_true h)
   rw [s8 hd1] at hx
   have hcs:=hz.set c (List.mem_of_getElem? hc)
   have hi2:(0:Int)≤i∧(i:Int)≤z.ai.length:=by omega
   simp only [↓wR,RA,simprocAttr,TF,ae,h,hc]
   rw [dr];refine ⟨fun ⟨h1,e1⟩=>?_,fun ⟨h1,e1⟩=>?_⟩
   ·rw [if_pos e1] at hx
    simp only [↓wR,RA,simprocAttr,TF,ae,h1,ft,fh,eu]
    rw [hx]
   ·rw [if_neg (by omega)] at hx
    simp only [↓wR,RA,simprocAttr,TF,ae,h1,hcs,hz,hi2,Fy]
    refine cz (fun r st'=>r = .ea []∧st'=bj [some (.row [.vl false 1 (z.origin.map (ak.val false)),.vl false 5 (z.ai.map (aj.val false))] 0 2 26),some (.row [.vl false 1 (z.origin.map (ak.val false)),.vl false 5 (z.ai.map (aj.val false)),.sc (.int .i64 (cf ((js z) i c) 260 e))] 0 2 53),some (.row [.vl false 1 (c.owner.map (ak.val false)),.sc (.int .u16 c.type.toNat),.sc (.int .u16 c.cls.toNat),.sc (.int .u32 c.ff.toNat),.vl false 4 (c.data.map (aq.val false))] 0 2 33)]) rfl ?_ ?_
    ·refine bn (T:=[ed,eb,fw,je,jg,jf,ik,ki,oc,kj]) ok mixed Tryz.func23 rfl (by kernel_rfl) (by kernel_rfl) (by kernel_rfl) (by kernel_rfl) ?_;unfold Tryz.f23
     simp only [↓wR,RA,simprocAttr,TF,ae,e1]
     rw [dc];refine ⟨fun hn2=>?_,fun hn2=>?_⟩
     ·have hb:((js z) i c)=false:=by simpa only [Bool.not_eq_true'] using hn2
      have hv:cf ((js z) i c) 260 0=260:=by unfold cf;rw [if_pos ⟨rfl,hb⟩]
      simp only [↓wR,RA,simprocAttr,TF,ae,hn2,ft,fh,eu]
      try rw [hv]
     ·have hb:((js z) i c)=true:=by simpa only [Bool.not_eq_false'] using hn2
      have hv:cf ((js z) i c) 260 0=0:=by unfold cf;rw [if_neg (fun q=>by rw [hb] at q;cases q.2)]
      simp only [↓wR,RA,simprocAttr,TF,ae,hn2,ft,fh,eu]
      try rw [hv]
    rintro _ _ ⟨rfl,rfl⟩
    simp only [↓wR,RA,simprocAttr,TF,ae,da];repeat (simp (disch:=omega) only [ah,be,bf,bd,bg];try simp only [↓wR,RA,simprocAttr,TF,ae,da])
    exact ⟨(i+1,cf ((js z) i c) 260 e),⟨hlt,hx⟩,by simp;omega,by (first|rfl|trivial|omega|((try (simp (disch:=omega) only [ah]));(try (simp only [FB]));first|done|rfl|omega)),by (first|rfl|trivial|omega|((try (simp (disch:=omega) only [ah]));(try (simp only [FB]));first|done|rfl|omega))⟩
  ·rw [ig (decide_eq_false h)] at hx
   simp only [↓wR,RA,simprocAttr,TF,ae,h,ft,fh,eu]
   rw [hx];rfl
 rintro _ _ ⟨rfl,rfl⟩
 rw [← he0]
 clear he0
 simp only [↓wR,RA,simprocAttr,TF,ae,da]
 rw [show fj 260 (js z) 0 z.ai (ui z)=Rs z from rfl]
 obtain ⟨e0,he0⟩:∃ e0,Rs z=e0:=⟨_,rfl⟩
 rw [he0]
 refine cz (fun r st'=>r = .ea []∧st'=bj [some (.row [.vl false 1 (z.origin.map (ak.val false)),.vl false 5 (z.ai.map (aj.val false))] 0 2 26),some (.row [.vl false 1 (z.origin.map (ak.val false)),.vl false 5 (z.ai.map (aj.val false)),.sc (.int .i64 (fj 261 (fun _ s=>m9 s) 0 z.ai e0))] 0 2 53)]) rfl ?_ ?_
 ·refine bn (T:=[ed,eb,fw,je,jg,jf,ik,ki,oc,kj]) ok mixed Tryz.func17 rfl (by kernel_rfl) (by kernel_rfl) (by kernel_rfl) (by kernel_rfl) ?_;unfold Tryz.f17
  simp only [↓wR,RA,simprocAttr,TF,ae]
  refine cq [0,1,2,12,13,14] (fun (x:Nat × Int)=>[.ptr 1 0,.sc (.int .i64 (261)),.sc (.func (.func 19) #[] #[]),.vl false 5 (z.ai.map (aj.val false)),.sc (.int .i64 (z.ai.length)),.sc (.int .i64 (x.1))]) (fun x=>[some (.row [.vl false 1 (z.origin.map (ak.val false)),.vl false 5 (z.ai.map (aj.val false))] 0 2 26),some (.row [.vl false 1 (z.origin.map (ak.val false)),.vl false 5 (z.ai.map (aj.val false)),.sc (.int .i64 (x.2))] 0 2 53)]) (fun x=>x.1≤z.ai.length∧fj 261 (fun _ s=>m9 s) 0 z.ai e0=fj 261 (fun _ s=>m9 s) x.1 (z.ai.drop x.1) x.2) (fun x=>z.ai.length - x.1) (0,e0) ⟨Nat.zero_le _,rfl⟩ (by simp only [↓wR,RA,simprocAttr,TF,ae]<;>rfl) (by simp only [↓wR,RA,simprocAttr,TF,ae]<;>rfl) ?_
  rintro ⟨i,e⟩ ⟨hi,hx⟩
  simp only at hi hx
  simp only [↓wR,RA,simprocAttr,TF,ae]
  rw [bc];refine ⟨fun h=>?_,fun h=>?_⟩
  ·obtain ⟨c,hc,hd1,hlt⟩:=ek (decide_eq_true h)
   rw [s8 hd1] at hx
   have hcs:=hz.set c (List.mem_of_getElem? hc)
   have hi2:(0:Int)≤i∧(i:Int)≤z.ai.length:=by omega
   simp only [↓wR,RA,simprocAttr,TF,ae,h,hc]
   rw [dr];refine ⟨fun ⟨h1,e1⟩=>?_,fun ⟨h1,e1⟩=>?_⟩
   ·rw [if_pos e1] at hx
    simp only [↓wR,RA,simprocAttr,TF,ae,h1,ft,fh,eu]
    rw [hx]
   ·rw [if_neg (by omega)] at hx
    simp only [↓wR,RA,simprocAttr,TF,ae,h1,hcs,hz,hi2,To]
    refine cz (fun r st'=>r = .ea []∧st'=bj [some (.row [.vl false 1 (z.origin.map (ak.val false)),.vl false 5 (z.ai.map (aj.val false))] 0 2 26),some (.row [.vl false 1 (z.origin.map (ak.val false)),.vl false 5 (z.ai.map (aj.val false)),.sc (.int .i64 (cf ((fun _ s=>m9 s) i c) 261 e))] 0 2 53),some (.row [.vl false 1 (c.owner.map (ak.val false)),.sc (.int .u16 c.type.toNat),.sc (.int .u16 c.cls.toNat),.sc (.int .u32 c.ff.toNat),.vl false 4 (c.data.map (aq.val false))] 0 2 33)]) rfl ?_ ?_
    ·refine bn (T:=[ed,eb,fw,je,jg,jf,ik,ki,oc,kj]) ok mixed Tryz.func23 rfl (by kernel_rfl) (by kernel_rfl) (by kernel_rfl) (by kernel_rfl) ?_;unfold Tryz.f23
     simp only [↓wR,RA,simprocAttr,TF,ae,e1]
     rw [dc];refine ⟨fun hn2=>?_,fun hn2=>?_⟩
     ·have hb:((fun _ s=>m9 s) i c)=false:=by simpa only [Bool.not_eq_true'] using hn2
      have hv:cf ((fun _ s=>m9 s) i c) 261 0=261:=by unfold cf;rw [if_pos ⟨rfl,hb⟩]
      simp only [↓wR,RA,simprocAttr,TF,ae,hn2,ft,fh,eu]
      try rw [hv]
     ·have hb:((fun _ s=>m9 s) i c)=true:=by simpa only [Bool.not_eq_false'] using hn2
      have hv:cf ((fun _ s=>m9 s) i c) 261 0=0:=by unfold cf;rw [if_neg (fun q=>by rw [hb] at q;cases q.2)]
      simp only [↓wR,RA,simprocAttr,TF,ae,hn2,ft,fh,eu]
      try rw [hv]
    rintro _ _ ⟨rfl,rfl⟩
    simp only [↓wR,RA,simprocAttr,TF,ae,da];repeat (simp (disch:=omega) only [ah,be,bf,bd,bg];try simp only [↓wR,RA,simprocAttr,TF,ae,da])
    exact ⟨(i+1,cf ((fun _ s=>m9 s) i c) 261 e),⟨hlt,hx⟩,by simp;omega,by (first|rfl|trivial|omega|((try (simp (disch:=omega) only [ah]));(try (simp only [FB]));first|done|rfl|omega)),by (first|rfl|trivial|omega|((try (simp (disch:=omega) only [ah]));(try (simp only [FB]));first|done|rfl|omega))⟩
  ·rw [ig (decide_eq_false h)] at hx
   simp only [↓wR,RA,simprocAttr,TF,ae,h,ft,fh,eu]
   rw [hx];rfl
 rintro _ _ ⟨rfl,rfl⟩
 rw [← he0]
 clear he0
 simp only [↓wR,RA,simprocAttr,TF,ae,da]
 rw [show fj 261 (fun _ s=>m9 s) 0 z.ai (Rs z)=Sa z from rfl]
 obtain ⟨e0,he0⟩:∃ e0,Sa z=e0:=⟨_,rfl⟩
 rw [he0]
 refine cz (fun r st'=>r = .ea []∧st'=bj [some (.row [.vl false 1 (z.origin.map (ak.val false)),.vl false 5 (z.ai.map (aj.val false))] 0 2 26),some (.row [.vl false 1 (z.origin.map (ak.val false)),.vl false 5 (z.ai.map (aj.val false)),.sc (.int .i64 (fj 262 (fun _ s=>ir s.owner z.origin) 0 z.ai e0))] 0 2 53)]) rfl ?_ ?_
 ·refine bn (T:=[ed,eb,fw,je,jg,jf,ik,ki,oc,kj]) ok mixed Tryz.func17 rfl (by kernel_rfl) (by kernel_rfl) (by kernel_rfl) (by kernel_rfl) ?_;unfold Tryz.f17
  simp only [↓wR,RA,simprocAttr,TF,ae]
  refine cq [0,1,2,12,13,14] (fun (x:Nat × Int)=>[.ptr 1 0,.sc (.int .i64 (262)),.fn (.func 20) [] [.ptr 0 0],.vl false 5 (z.ai.map (aj.val false)),.sc (.int .i64 (z.ai.length)),.sc (.int .i64 (x.1))]) (fun x=>[some (.row [.vl false 1 (z.origin.map (ak.val false)),.vl false 5 (z.ai.map (aj.val false))] 0 2 26),some (.row [.vl false 1 (z.origin.map (ak.val false)),.vl false 5 (z.ai.map (aj.val false)),.sc (.int .i64 (x.2))] 0 2 53)]) (fun x=>x.1≤z.ai.length∧fj 262 (fun _ s=>ir s.owner z.origin) 0 z.ai e0=fj 262 (fun _ s=>ir s.owner z.origin) x.1 (z.ai.drop x.1) x.2) (fun x=>z.ai.length - x.1) (0,e0) ⟨Nat.zero_le _,rfl⟩ (by simp only [↓wR,RA,simprocAttr,TF,ae]<;>rfl) (by simp only [↓wR,RA,simprocAttr,TF,ae]<;>rfl) ?_
  rintro ⟨i,e⟩ ⟨hi,hx⟩
  simp only at hi hx
  simp only [↓wR,RA,simprocAttr,TF,ae]
  rw [bc];refine ⟨fun h=>?_,fun h=>?_⟩
  ·obtain ⟨c,hc,hd1,hlt⟩:=ek (decide_eq_true h)
   rw [s8 hd1] at hx
   have hcs:=hz.set c (List.mem_of_getElem? hc)
   have hi2:(0:Int)≤i∧(i:Int)≤z.ai.length:=by omega
   simp only [↓wR,RA,simprocAttr,TF,ae,h,hc]
   rw [dr];refine ⟨fun ⟨h1,e1⟩=>?_,fun ⟨h1,e1⟩=>?_⟩
   ·rw [if_pos e1] at hx
    simp only [↓wR,RA,simprocAttr,TF,ae,h1,ft,fh,eu]
    rw [hx]
   ·rw [if_neg (by omega)] at hx
    simp only [↓wR,RA,simprocAttr,TF,ae,h1,hcs,hz,hi2,Cg]
    refine cz (fun r st'=>r = .ea []∧st'=bj [some (.row [.vl false 1 (z.origin.map (ak.val false)),.vl false 5 (z.ai.map (aj.val false))] 0 2 26),some (.row [.vl false 1 (z.origin.map (ak.val false)),.vl false 5 (z.ai.map (aj.val false)),.sc (.int .i64 (cf ((fun _ s=>ir s.owner z.origin) i c) 262 e))] 0 2 53),some (.row [.vl false 1 (c.owner.map (ak.val false)),.sc (.int .u16 c.type.toNat),.sc (.int .u16 c.cls.toNat),.sc (.int .u32 c.ff.toNat),.vl false 4 (c.data.map (aq.val false))] 0 2 33)]) rfl ?_ ?_
    ·refine bn (T:=[ed,eb,fw,je,jg,jf,ik,ki,oc,kj]) ok mixed Tryz.func23 rfl (by kernel_rfl) (by kernel_rfl) (by kernel_rfl) (by kernel_rfl) ?_;unfold Tryz.f23
     simp only [↓wR,RA,simprocAttr,TF,ae,e1]
     rw [dc];refine ⟨fun hn2=>?_,fun hn2=>?_⟩
     ·have hb:((fun _ s=>ir s.owner z.origin) i c)=false:=by simpa only [Bool.not_eq_true'] using hn2
      have hv:cf ((fun _ s=>ir s.owner z.origin) i c) 262 0=262:=by unfold cf;rw [if_pos ⟨rfl,hb⟩]
      simp only [↓wR,RA,simprocAttr,TF,ae,hn2,ft,fh,eu]
      try rw [hv]
     ·have hb:((fun _ s=>ir s.owner z.origin) i c)=true:=by simpa only [Bool.not_eq_false'] using hn2
      have hv:cf ((fun _ s=>ir s.owner z.origin) i c) 262 0=0:=by unfold cf;rw [if_neg (fun q=>by rw [hb] at q;cases q.2)]
      simp only [↓wR,RA,simprocAttr,TF,ae,hn2,ft,fh,eu]
      try rw [hv]
    rintro _ _ ⟨rfl,rfl⟩
    simp only [↓wR,RA,simprocAttr,TF,ae,da];repeat (simp (disch:=omega) only [ah,be,bf,bd,bg];try simp only [↓wR,RA,simprocAttr,TF,ae,da])
    exact ⟨(i+1,cf ((fun _ s=>ir s.owner z.origin) i c) 262 e),⟨hlt,hx⟩,by simp;omega,by (first|rfl|trivial|omega|((try (simp (disch:=omega) only [ah]));(try (simp only [FB]));first|done|rfl|omega)),by (first|rfl|trivial|omega|((try (simp (disch:=omega) only [ah]));(try (simp only [FB]));first|done|rfl|omega))⟩
  ·rw [ig (decide_eq_false h)] at hx
   simp only [↓wR,RA,simprocAttr,TF,ae,h,ft,fh,eu]
   rw [hx];rfl
 rintro _ _ ⟨rfl,rfl⟩
 rw [← he0]
 clear he0
 simp only [↓wR,RA,simprocAttr,TF,ae,da,Ix,hz]
 rw [show fj 262 (fun _ s=>ir s.owner z.origin) 0 z.ai (Sa z)=qm z from rfl]
 rw [di];refine ⟨fun ⟨hs1,es1⟩=>?_,fun ⟨hs1,es1⟩=>?_⟩
 ·simp only [↓wR,RA,simprocAttr,TF,ae,hs1]
  rw [show (((gi z).2:Int) == 1)=(decide ((gi z).1=1) && decide ((gi z).2=1)) from by rw [decide_eq_true (show (gi z).1=1 by omega),Bool.true_and,Bool.eq_iff_iff];simp;omega]
  refine cz (fun r st'=>r = .ea []∧st'=bj [some (.row [.vl false 1 (z.origin.map (ak.val false)),.vl false 5 (z.ai.map (aj.val false))] 0 2 26),some (.row [.vl false 1 (z.origin.map (ak.val false)),.vl false 5 (z.ai.map (aj.val false)),.sc (.int .i64 (cf (decide ((gi z).1=1) && decide ((gi z).2=1)) 263 (qm z)))] 0 2 53)]) rfl ?_ ?_
  ·refine bn (T:=[ed,eb,fw,je,jg,jf,ik,ki,oc,kj]) ok mixed Tryz.func23 rfl (by kernel_rfl) (by kernel_rfl) (by kernel_rfl) (by kernel_rfl) ?_;unfold Tryz.f23
   simp only [↓wR,RA,simprocAttr,TF,ae]
   rw [di];refine ⟨fun ⟨hn1,en1⟩=>?_,fun ⟨hn1,en1⟩=>?_⟩
   ·simp only [↓wR,RA,simprocAttr,TF,ae,hn1]
    rw [dc];refine ⟨fun hn2=>?_,fun hn2=>?_⟩
    ·have hb:(decide ((gi z).1=1) && decide ((gi z).2=1))=false:=by simpa only [Bool.not_eq_true'] using hn2
     have hv:cf (decide ((gi z).1=1) && decide ((gi z).2=1)) 263 (qm z)=263:=by unfold cf;rw [if_pos ⟨en1,hb⟩]
     simp only [↓wR,RA,simprocAttr,TF,ae,hn1,hn2,ft,fh,eu]
     try rw [hv]
    ·have hb:(decide ((gi z).1=1) && decide ((gi z).2=1))=true:=by simpa only [Bool.not_eq_false'] using hn2
     have hv:cf (decide ((gi z).1=1) && decide ((gi z).2=1)) 263 (qm z)=qm z:=by unfold cf;rw [if_neg (fun q=>by rw [hb] at q;cases q.2)]
     simp only [↓wR,RA,simprocAttr,TF,ae,hn1,hn2,ft,fh,eu]
     try rw [hv]
   ·have hv:cf (decide ((gi z).1=1) && decide ((gi z).2=1)) 263 (qm z)=qm z:=by unfold cf;rw [if_neg (fun q=>en1 q.1)]
    simp only [↓wR,RA,simprocAttr,TF,ae,hn1,ft,fh,eu]
    try rw [hv]
  rintro _ _ ⟨rfl,rfl⟩
  rw [show cf (decide ((gi z).1=1) && decide ((gi z).2=1)) 263 (qm z)=ma z from rfl]
  simp only [↓wR,RA,simprocAttr,TF,ae,da]
  refine bn (T:=[]) (an.nil PP) mixed Tryz.func24 rfl (by kernel_rfl) (by kernel_rfl) (by kernel_rfl) (by kernel_rfl) ?_;unfold Tryz.f24
  simp only [↓wR,RA,simprocAttr,TF,ae]
  refine ⟨[1,3,6,45],?_⟩
  have hib:uc PP 43=some (Tryz.f43.ntmps,Tryz.f43.body.getD .skip):=by kernel_rfl
  simp only [↓wR,RA,simprocAttr,TF,ae,hib]
  refine ⟨by kernel_rfl,fun l=>?_⟩
  unfold Tryz.f43
  simp only [↓wR,RA,simprocAttr,TF,ae]
  refine Dt [0,2,7,8,9] (fun (x:Nat × Bool)=>[.sc (.func (.yield l) #[] #[]),.ptr 4 0,.vl false 5 (z.ai.map (aj.val false)),.sc (.int .i64 (z.ai.length)),.sc (.int .i64 (x.1))]) (fun x=>[some (.row [.vl false 1 (z.origin.map (ak.val false)),.vl false 5 (z.ai.map (aj.val false))] 0 2 26),some (.row [.vl false 1 (z.origin.map (ak.val false)),.vl false 5 (z.ai.map (aj.val false)),.sc (.int .i64 (ma z))] 0 2 53),some (.row [.sc (.bool (x.2))] 0 2 4),some (.row [.vl false 1 (z.origin.map (ak.val false)),.vl false 5 (z.ai.map (aj.val false))] 0 2 26),some (.row [.sc (.int .u16 2)] 0 2 28)]) (fun x=>x.1≤z.ai.length∧gv z=(x.2 || Hk z (z.ai.drop x.1))) (fun x=>z.ai.length - x.1) (0,false) ⟨Nat.zero_le _,by rw [Bool.false_or];rfl⟩ (by simp only [↓wR,RA,simprocAttr,TF,ae]<;>rfl) (by simp only [↓wR,RA,simprocAttr,TF,ae]<;>rfl) ?_
  rintro ⟨i,b⟩ ⟨hi,hx⟩
  simp only at hi hx
  simp only [↓wR,RA,simprocAttr,TF,ae]
  rw [vd];refine ⟨fun h=>?_,fun h=>?_⟩
  ·obtain ⟨c,hc,hd1,hlt⟩:=ek h
   have hcs:=hz.set c (List.mem_of_getElem? hc)
   rw [abt hd1] at hx
   simp only [↓wR,RA,simprocAttr,TF,ae,h,hc]
   rw [vd];refine ⟨fun h2=>?_,fun h2=>?_⟩
   ·have e2:(c.type.toNat:Int)=2:=by simpa using h2
    rw [decide_eq_true e2,Bool.true_and] at hx
    simp only [↓wR,RA,simprocAttr,TF,ae,h2]
    refine xt [0,2,7,8,9,17,19] ?_
    simp only [↓wR,RA,simprocAttr,TF,ae,y6,nf]
    cases b with
    |true=>
     simp only [↓wR,RA,simprocAttr,TF,ae];repeat (simp (disch:=omega) only [ah,be,bf,bd,bg];try simp only [↓wR,RA,simprocAttr,TF,ae])
     exact ⟨(i+1,true),⟨hlt,by rw [hx];rfl⟩,by simp;omega,by (first|rfl|trivial|omega|((try (simp (disch:=omega) only [ah]));(try (simp only [FB]));first|done|rfl|omega)),by (first|rfl|trivial|omega|((try (simp (disch:=omega) only [ah]));(try (simp only [FB]));first|done|rfl|omega))⟩
    |false=>
     simp only [↓wR,RA,simprocAttr,TF,ae,gq,hcs.owner,hz.origin];repeat (simp (disch:=omega) only [ah,be,bf,bd,bg];try simp only [↓wR,RA,simprocAttr,TF,ae,gq,hcs.owner,hz.origin])
     exact ⟨(i+1,fu c.owner z.origin),⟨hlt,by rw [hx,Bool.false_or]⟩,by simp;omega,by (first|rfl|trivial|omega|((try (simp (disch:=omega) only [ah]));(try (simp only [FB]));first|done|rfl|omega)),by (first|rfl|trivial|omega|((try (simp (disch:=omega) only [ah]));(try (simp only [FB]));first|done|rfl|omega))⟩
   ·have e2:¬ (c.type.toNat:Int)=2:=by simpa using h2
    rw [decide_eq_false e2,Bool.false_and,Bool.false_or] at hx
    simp only [↓wR,RA,simprocAttr,TF,ae,h2];repeat (simp (disch:=omega) only [ah,be,bf,bd,bg];try simp only [↓wR,RA,simprocAttr,TF,ae,h2])
    exact ⟨(i+1,b),⟨hlt,hx⟩,by simp;omega,by (first|rfl|trivial|omega|((try (simp (disch:=omega) only [ah]));(try (simp only [FB]));first|done|rfl|omega)),by (first|rfl|trivial|omega|((try (simp (disch:=omega) only [ah]));(try (simp only [FB]));first|done|rfl|omega))⟩
  rw [ig h] at hx
  have hb:b=gv z:=by rw [hx];simp [Hk]
  simp only [↓wR,RA,simprocAttr,TF,ae,h]
  rw [hb]
  clear h hx hb
  refine cz (fun r st'=>r = .ea []∧st'=bj [some (.row [.vl false 1 (z.origin.map (ak.val false)),.vl false 5 (z.ai.map (aj.val false))] 0 2 26),some (.row [.vl false 1 (z.origin.map (ak.val false)),.vl false 5 (z.ai.map (aj.val false)),.sc (.int .i64 (cf (gv z) 264 (ma z)))] 0 2 53),some (.row [.sc (.bool (gv z))] 0 2 4),some (.row [.vl false 1 (z.origin.map (ak.val false)),.vl false 5 (z.ai.map (aj.val false))] 0 2 26),some (.row [.sc (.int .u16 2)] 0 2 28)]) rfl ?_ ?_
  ·refine bn (T:=[ed,eb,fw,je,jg,jf,ik,ki,oc,kj]) ok mixed Tryz.func23 rfl (by kernel_rfl) (by kernel_rfl) (by kernel_rfl) (by kernel_rfl) ?_;unfold Tryz.f23
   simp only [↓wR,RA,simprocAttr,TF,ae]
   rw [di];refine ⟨fun ⟨hn1,en1⟩=>?_,fun ⟨hn1,en1⟩=>?_⟩
   ·simp only [↓wR,RA,simprocAttr,TF,ae,hn1]
    rw [dc];refine ⟨fun hn2=>?_,fun hn2=>?_⟩
    ·have hb:(gv z)=false:=by simpa only [Bool.not_eq_true'] using hn2
     have hv:cf (gv z) 264 (ma z)=264:=by unfold cf;rw [if_pos ⟨en1,hb⟩]
     simp only [↓wR,RA,simprocAttr,TF,ae,hn1,hn2,ft,fh,eu]
     try rw [hv]
    ·have hb:(gv z)=true:=by simpa only [Bool.not_eq_false'] using hn2
     have hv:cf (gv z) 264 (ma z)=ma z:=by unfold cf;rw [if_neg (fun q=>by rw [hb] at q;cases q.2)]
     simp only [↓wR,RA,simprocAttr,TF,ae,hn1,hn2,ft,fh,eu]
     try rw [hv]
   ·have hv:cf (gv z) 264 (ma z)=ma z:=by unfold cf;rw [if_neg (fun q=>en1 q.1)]
    simp only [↓wR,RA,simprocAttr,TF,ae,hn1,ft,fh,eu]
    try rw [hv]
  rintro _ _ ⟨rfl,rfl⟩
  rw [show cf (gv z) 264 (ma z)=C6 z from rfl]
  simp only [↓wR,RA,simprocAttr,TF,ae,da]
  obtain ⟨e0,he0⟩:∃ e0,C6 z=e0:=⟨_,rfl⟩
  rw [he0]
  refine cz (fun r st'=>r = .ea []∧st'=bj [some (.row [.vl false 1 (z.origin.map (ak.val false)),.vl false 5 (z.ai.map (aj.val false))] 0 2 26),some (.row [.vl false 1 (z.origin.map (ak.val false)),.vl false 5 (z.ai.map (aj.val false)),.sc (.int .i64 (fj 265 (ja z) 0 z.ai e0))] 0 2 53),some (.row [.sc (.bool (gv z))] 0 2 4),some (.row [.vl false 1 (z.origin.map (ak.val false)),.vl false 5 (z.ai.map (aj.val false))] 0 2 26),some (.row [.sc (.int .u16 2)] 0 2 28)]) rfl ?_ ?_
  ·refine bn (T:=[ed,eb,fw,je,jg,jf,ik,ki,oc,kj]) ok mixed Tryz.func17 rfl (by kernel_rfl) (by kernel_rfl) (by kernel_rfl) (by kernel_rfl) ?_;unfold Tryz.f17
   simp only [↓wR,RA,simprocAttr,TF,ae]
   refine cq [0,1,2,12,13,14] (fun (x:Nat × Int)=>[.ptr 1 0,.sc (.int .i64 (265)),.fn (.func 25) [.ptr 1 0] [],.vl false 5 (z.ai.map (aj.val false)),.sc (.int .i64 (z.ai.length)),.sc (.int .i64 (x.1))]) (fun x=>[some (.row [.vl false 1 (z.origin.map (ak.val false)),.vl false 5 (z.ai.map (aj.val false))] 0 2 26),some (.row [.vl false 1 (z.origin.map (ak.val false)),.vl false 5 (z.ai.map (aj.val false)),.sc (.int .i64 (x.2))] 0 2 53),some (.row [.sc (.bool (gv z))] 0 2 4),some (.row [.vl false 1 (z.origin.map (ak.val false)),.vl false 5 (z.ai.map (aj.val false))] 0 2 26),some (.row [.sc (.int .u16 2)] 0 2 28)]) (fun x=>x.1≤z.ai.length∧fj 265 (ja z) 0 z.ai e0=fj 265 (ja z) x.1 (z.ai.drop x.1) x.2) (fun x=>z.ai.length - x.1) (0,e0) ⟨Nat.zero_le _,rfl⟩ (by simp only [↓wR,RA,simprocAttr,TF,ae]<;>rfl) (by simp only [↓wR,RA,simprocAttr,TF,ae]<;>rfl) ?_
   rintro ⟨i,e⟩ ⟨hi,hx⟩
   simp only at hi hx
   simp only [↓wR,RA,simprocAttr,TF,ae]
   rw [bc];refine ⟨fun h=>?_,fun h=>?_⟩
   ·obtain ⟨c,hc,hd1,hlt⟩:=ek (decide_eq_true h)
    rw [s8 hd1] at hx
    have hcs:=hz.set c (List.mem_of_getElem? hc)
    have hi2:(0:Int)≤i∧(i:Int)≤z.ai.length:=by omega
    simp only [↓wR,RA,simprocAttr,TF,ae,h,hc]
    rw [dr];refine ⟨fun ⟨h1,e1⟩=>?_,fun ⟨h1,e1⟩=>?_⟩
    ·rw [if_pos e1] at hx
     simp only [↓wR,RA,simprocAttr,TF,ae,h1,ft,fh,eu]
     rw [hx]
    ·rw [if_neg (by omega)] at hx
     simp only [↓wR,RA,simprocAttr,TF,ae,h1,hcs,hz,hi2,B6]
     refine cz (fun r st'=>r = .ea []∧st'=bj [some (.row [.vl false 1 (z.origin.map (ak.val false)),.vl false 5 (z.ai.map (aj.val false))] 0 2 26),some (.row [.vl false 1 (z.origin.map (ak.val false)),.vl false 5 (z.ai.map (aj.val false)),.sc (.int .i64 (cf ((ja z) i c) 265 e))] 0 2 53),some (.row [.sc (.bool (gv z))] 0 2 4),some (.row [.vl false 1 (z.origin.map (ak.val false)),.vl false 5 (z.ai.map (aj.val false))] 0 2 26),some (.row [.sc (.int .u16 2)] 0 2 28),some (.row [.vl false 1 (c.owner.map (ak.val false)),.sc (.int .u16 c.type.toNat),.sc (.int .u16 c.cls.toNat),.sc (.int .u32 c.ff.toNat),.vl false 4 (c.data.map (aq.val false))] 0 2 33)]) rfl ?_ ?_
     ·refine bn (T:=[ed,eb,fw,je,jg,jf,ik,ki,oc,kj]) ok mixed Tryz.func23 rfl (by kernel_rfl) (by kernel_rfl) (by kernel_rfl) (by kernel_rfl) ?_;unfold Tryz.f23
      simp only [↓wR,RA,simprocAttr,TF,ae,e1]
      rw [dc];refine ⟨fun hn2=>?_,fun hn2=>?_⟩
      ·have hb:((ja z) i c)=false:=by simpa only [Bool.not_eq_true'] using hn2
       have hv:cf ((ja z) i c) 265 0=265:=by unfold cf;rw [if_pos ⟨rfl,hb⟩]
       simp only [↓wR,RA,simprocAttr,TF,ae,hn2,ft,fh,eu]
       try rw [hv]
      ·have hb:((ja z) i c)=true:=by simpa only [Bool.not_eq_false'] using hn2
       have hv:cf ((ja z) i c) 265 0=0:=by unfold cf;rw [if_neg (fun q=>by rw [hb] at q;cases q.2)]
       simp only [↓wR,RA,simprocAttr,TF,ae,hn2,ft,fh,eu]
       try rw [hv]
     rintro _ _ ⟨rfl,rfl⟩
     simp only [↓wR,RA,simprocAttr,TF,ae,da];repeat (simp (disch:=omega) only [ah,be,bf,bd,bg];try simp only [↓wR,RA,simprocAttr,TF,ae,da])
     exact ⟨(i+1,cf ((ja z) i c) 265 e),⟨hlt,hx⟩,by simp;omega,by (first|rfl|trivial|omega|((try (simp (disch:=omega) only [ah]));(try (simp only [FB]));first|done|rfl|omega)),by (first|rfl|trivial|omega|((try (simp (disch:=omega) only [ah]));(try (simp only [FB]));first|done|rfl|omega))⟩
   ·rw [ig (decide_eq_false h)] at hx
    simp only [↓wR,RA,simprocAttr,TF,ae,h,ft,fh,eu]
    rw [hx];rfl
  rintro _ _ ⟨rfl,rfl⟩
  rw [← he0]
  clear he0
  simp only [↓wR,RA,simprocAttr,TF,ae,da]
  rw [show fj 265 (ja z) 0 z.ai (C6 z)=Ch z from rfl]
  obtain ⟨e0,he0⟩:∃ e0,Ch z=e0:=⟨_,rfl⟩
  rw [he0]
  refine cz (fun r st'=>r = .ea []∧st'=bj [some (.row [.vl false 1 (z.origin.map (ak.val false)),.vl false 5 (z.ai.map (aj.val false))] 0 2 26),some (.row [.vl false 1 (z.origin.map (ak.val false)),.vl false 5 (z.ai.map (aj.val false)),.sc (.int .i64 (fj 266 (fun _ s=>kh s) 0 z.ai e0))] 0 2 53),some (.row [.sc (.bool (gv z))] 0 2 4),some (.row [.vl false 1 (z.origin.map (ak.val false)),.vl false 5 (z.ai.map (aj.val false))] 0 2 26),some (.row [.sc (.int .u16 2)] 0 2 28)]) rfl ?_ ?_
  ·refine bn (T:=[ed,eb,fw,je,jg,jf,ik,ki,oc,kj]) ok mixed Tryz.func17 rfl (by kernel_rfl) (by kernel_rfl) (by kernel_rfl) (by kernel_rfl) ?_;unfold Tryz.f17
   simp only [↓wR,RA,simprocAttr,TF,ae]
   refine cq [0,1,2,12,13,14] (fun (x:Nat × Int)=>[.ptr 1 0,.sc (.int .i64 (266)),.sc (.func (.func 26) #[] #[]),.vl false 5 (z.ai.map (aj.val false)),.sc (.int .i64 (z.ai.length)),.sc (.int .i64 (x.1))]) (fun x=>[some (.row [.vl false 1 (z.origin.map (ak.val false)),.vl false 5 (z.ai.map (aj.val false))] 0 2 26),some (.row [.vl false 1 (z.origin.map (ak.val false)),.vl false 5 (z.ai.map (aj.val false)),.sc (.int .i64 (x.2))] 0 2 53),some (.row [.sc (.bool (gv z))] 0 2 4),some (.row [.vl false 1 (z.origin.map (ak.val false)),.vl false 5 (z.ai.map (aj.val false))] 0 2 26),some (.row [.sc (.int .u16 2)] 0 2 28)]) (fun x=>x.1≤z.ai.length∧fj 266 (fun _ s=>kh s) 0 z.ai e0=fj 266 (fun _ s=>kh s) x.1 (z.ai.drop x.1) x.2) (fun x=>z.ai.length - x.1) (0,e0) ⟨Nat.zero_le _,rfl⟩ (by simp only [↓wR,RA,simprocAttr,TF,ae]<;>rfl) (by simp only [↓wR,RA,simprocAttr,TF,ae]<;>rfl) ?_
   rintro ⟨i,e⟩ ⟨hi,hx⟩
   simp only at hi hx
   simp only [↓wR,RA,simprocAttr,TF,ae]
   rw [bc];refine ⟨fun h=>?_,fun h=>?_⟩
   ·obtain ⟨c,hc,hd1,hlt⟩:=ek (decide_eq_true h)
    rw [s8 hd1] at hx
    have hcs:=hz.set c (List.mem_of_getElem? hc)
    have hi2:(0:Int)≤i∧(i:Int)≤z.ai.length:=by omega
    simp only [↓wR,RA,simprocAttr,TF,ae,h,hc]
    rw [dr];refine ⟨fun ⟨h1,e1⟩=>?_,fun ⟨h1,e1⟩=>?_⟩
    ·rw [if_pos e1] at hx
     simp only [↓wR,RA,simprocAttr,TF,ae,h1,ft,fh,eu]
     rw [hx]
    ·rw [if_neg (by omega)] at hx
     simp only [↓wR,RA,simprocAttr,TF,ae,h1,hcs,hz,hi2,Gb]
     refine cz (fun r st'=>r = .ea []∧st'=bj [some (.row [.vl false 1 (z.origin.map (ak.val false)),.vl false 5 (z.ai.map (aj.val false))] 0 2 26),some (.row [.vl false 1 (z.origin.map (ak.val false)),.vl false 5 (z.ai.map (aj.val false)),.sc (.int .i64 (cf ((fun _ s=>kh s) i c) 266 e))] 0 2 53),some (.row [.sc (.bool (gv z))] 0 2 4),some (.row [.vl false 1 (z.origin.map (ak.val false)),.vl false 5 (z.ai.map (aj.val false))] 0 2 26),some (.row [.sc (.int .u16 2)] 0 2 28),some (.row [.vl false 1 (c.owner.map (ak.val false)),.sc (.int .u16 c.type.toNat),.sc (.int .u16 c.cls.toNat),.sc (.int .u32 c.ff.toNat),.vl false 4 (c.data.map (aq.val false))] 0 2 33)]) rfl ?_ ?_
     ·refine bn (T:=[ed,eb,fw,je,jg,jf,ik,ki,oc,kj]) ok mixed Tryz.func23 rfl (by kernel_rfl) (by kernel_rfl) (by kernel_rfl) (by kernel_rfl) ?_;unfold Tryz.f23
      simp only [↓wR,RA,simprocAttr,TF,ae,e1]
      rw [dc];refine ⟨fun hn2=>?_,fun hn2=>?_⟩
      ·have hb:((fun _ s=>kh s) i c)=false:=by simpa only [Bool.not_eq_true'] using hn2
       have hv:cf ((fun _ s=>kh s) i c) 266 0=266:=by unfold cf;rw [if_pos ⟨rfl,hb⟩]
       simp only [↓wR,RA,simprocAttr,TF,ae,hn2,ft,fh,eu]
       try rw [hv]
      ·have hb:((fun _ s=>kh s) i c)=true:=by simpa only [Bool.not_eq_false'] using hn2
       have hv:cf ((fun _ s=>kh s) i c) 266 0=0:=by unfold cf;rw [if_neg (fun q=>by rw [hb] at q;cases q.2)]
       simp only [↓wR,RA,simprocAttr,TF,ae,hn2,ft,fh,eu]
       try rw [hv]
     rintro _ _ ⟨rfl,rfl⟩
     simp only [↓wR,RA,simprocAttr,TF,ae,da];repeat (simp (disch:=omega) only [ah,be,bf,bd,bg];try simp only [↓wR,RA,simprocAttr,TF,ae,da])
     exact ⟨(i+1,cf ((fun _ s=>kh s) i c) 266 e),⟨hlt,hx⟩,by simp;omega,by (first|rfl|trivial|omega|((try (simp (disch:=omega) only [ah]));(try (simp only [FB]));first|done|rfl|omega)),by (first|rfl|trivial|omega|((try (simp (disch:=omega) only [ah]));(try (simp only [FB]));first|done|rfl|omega))⟩
   ·rw [ig (decide_eq_false h)] at hx
    simp only [↓wR,RA,simprocAttr,TF,ae,h,ft,fh,eu]
    rw [hx];rfl
  rintro _ _ ⟨rfl,rfl⟩
  rw [← he0]
  clear he0
  simp only [↓wR,RA,simprocAttr,TF,ae,da]
  rw [show fj 266 (fun _ s=>kh s) 0 z.ai (Ch z)=Ie z from rfl]
  obtain ⟨e0,he0⟩:∃ e0,Ie z=e0:=⟨_,rfl⟩
  rw [he0]
  refine cz (fun r st'=>r = .ea []∧st'=bj [some (.row [.vl false 1 (z.origin.map (ak.val false)),.vl false 5 (z.ai.map (aj.val false))] 0 2 26),some (.row [.vl false 1 (z.origin.map (ak.val false)),.vl false 5 (z.ai.map (aj.val false)),.sc (.int .i64 (fj 267 (fun _ s=>o9 z s) 0 z.ai e0))] 0 2 53),some (.row [.sc (.bool (gv z))] 0 2 4),some (.row [.vl false 1 (z.origin.map (ak.val false)),.vl false 5 (z.ai.map (aj.val false))] 0 2 26),some (.row [.sc (.int .u16 2)] 0 2 28)]) rfl ?_ ?_
  ·refine bn (T:=[ed,eb,fw,je,jg,jf,ik,ki,oc,kj]) ok mixed Tryz.func17 rfl (by kernel_rfl) (by kernel_rfl) (by kernel_rfl) (by kernel_rfl) ?_;unfold Tryz.f17
   simp only [↓wR,RA,simprocAttr,TF,ae]
   refine cq [0,1,2,12,13,14] (fun (x:Nat × Int)=>[.ptr 1 0,.sc (.int .i64 (267)),.fn (.func 27) [] [.ptr 0 0],.vl false 5 (z.ai.map (aj.val false)),.sc (.int .i64 (z.ai.length)),.sc (.int .i64 (x.1))]) (fun x=>[some (.row [.vl false 1 (z.origin.map (ak.val false)),.vl false 5 (z.ai.map (aj.val false))] 0 2 26),some (.row [.vl false 1 (z.origin.map (ak.val false)),.vl false 5 (z.ai.map (aj.val false)),.sc (.int .i64 (x.2))] 0 2 53),some (.row [.sc (.bool (gv z))] 0 2 4),some (.row [.vl false 1 (z.origin.map (ak.val false)),.vl false 5 (z.ai.map (aj.val false))] 0 2 26),some (.row [.sc (.int .u16 2)] 0 2 28)]) (fun x=>x.1≤z.ai.length∧fj 267 (fun _ s=>o9 z s) 0 z.ai e0=fj 267 (fun _ s=>o9 z s) x.1 (z.ai.drop x.1) x.2) (fun x=>z.ai.length - x.1) (0,e0) ⟨Nat.zero_le _,rfl⟩ (by simp only [↓wR,RA,simprocAttr,TF,ae]<;>rfl) (by simp only [↓wR,RA,simprocAttr,TF,ae]<;>rfl) ?_
   rintro ⟨i,e⟩ ⟨hi,hx⟩
   simp only at hi hx
   simp only [↓wR,RA,simprocAttr,TF,ae]
   rw [bc];refine ⟨fun h=>?_,fun h=>?_⟩
   ·obtain ⟨c,hc,hd1,hlt⟩:=ek (decide_eq_true h)
    rw [s8 hd1] at hx
    have hcs:=hz.set c (List.mem_of_getElem? hc)
    have hi2:(0:Int)≤i∧(i:Int)≤z.ai.length:=by omega
    simp only [↓wR,RA,simprocAttr,TF,ae,h,hc]
    rw [dr];refine ⟨fun ⟨h1,e1⟩=>?_,fun ⟨h1,e1⟩=>?_⟩
    ·rw [if_pos e1] at hx
     simp only [↓wR,RA,simprocAttr,TF,ae,h1,ft,fh,eu]
     rw [hx]
    ·rw [if_neg (by omega)] at hx
     simp only [↓wR,RA,simprocAttr,TF,ae,h1,hcs,hz,hi2,Lf]
     refine cz (fun r st'=>r = .ea []∧st'=bj [some (.row [.vl false 1 (z.origin.map (ak.val false)),.vl false 5 (z.ai.map (aj.val false))] 0 2 26),some (.row [.vl false 1 (z.origin.map (ak.val false)),.vl false 5 (z.ai.map (aj.val false)),.sc (.int .i64 (cf ((fun _ s=>o9 z s) i c) 267 e))] 0 2 53),some (.row [.sc (.bool (gv z))] 0 2 4),some (.row [.vl false 1 (z.origin.map (ak.val false)),.vl false 5 (z.ai.map (aj.val false))] 0 2 26),some (.row [.sc (.int .u16 2)] 0 2 28),some (.row [.vl false 1 (c.owner.map (ak.val false)),.sc (.int .u16 c.type.toNat),.sc (.int .u16 c.cls.toNat),.sc (.int .u32 c.ff.toNat),.vl false 4 (c.data.map (aq.val false))] 0 2 33)]) rfl ?_ ?_
     ·refine bn (T:=[ed,eb,fw,je,jg,jf,ik,ki,oc,kj]) ok mixed Tryz.func23 rfl (by kernel_rfl) (by kernel_rfl) (by kernel_rfl) (by kernel_rfl) ?_;unfold Tryz.f23
      simp only [↓wR,RA,simprocAttr,TF,ae,e1]
      rw [dc];refine ⟨fun hn2=>?_,fun hn2=>?_⟩
      ·have hb:((fun _ s=>o9 z s) i c)=false:=by simpa only [Bool.not_eq_true'] using hn2
       have hv:cf ((fun _ s=>o9 z s) i c) 267 0=267:=by unfold cf;rw [if_pos ⟨rfl,hb⟩]
       simp only [↓wR,RA,simprocAttr,TF,ae,hn2,ft,fh,eu]
       try rw [hv]
      ·have hb:((fun _ s=>o9 z s) i c)=true:=by simpa only [Bool.not_eq_false'] using hn2
       have hv:cf ((fun _ s=>o9 z s) i c) 267 0=0:=by unfold cf;rw [if_neg (fun q=>by rw [hb] at q;cases q.2)]
       simp only [↓wR,RA,simprocAttr,TF,ae,hn2,ft,fh,eu]
       try rw [hv]
     rintro _ _ ⟨rfl,rfl⟩
     simp only [↓wR,RA,simprocAttr,TF,ae,da];repeat (simp (disch:=omega) only [ah,be,bf,bd,bg];try simp only [↓wR,RA,simprocAttr,TF,ae,da])
     exact ⟨(i+1,cf ((fun _ s=>o9 z s) i c) 267 e),⟨hlt,hx⟩,by simp;omega,by (first|rfl|trivial|omega|((try (simp (disch:=omega) only [ah]));(try (simp only [FB]));first|done|rfl|omega)),by (first|rfl|trivial|omega|((try (simp (disch:=omega) only [ah]));(try (simp only [FB]));first|done|rfl|omega))⟩
   ·rw [ig (decide_eq_false h)] at hx
    simp only [↓wR,RA,simprocAttr,TF,ae,h,ft,fh,eu]
    rw [hx];rfl
  rintro _ _ ⟨rfl,rfl⟩
  rw [← he0]
  clear he0
  simp only [↓wR,RA,simprocAttr,TF,ae,da]
  rfl
 ·simp only [↓wR,RA,simprocAttr,TF,ae,hs1]
  have hbf:(decide ((gi z).1=1) && decide ((gi z).2=1))=false:=by rw [decide_eq_false (show ¬ (gi z).1=1 by omega),Bool.false_and]
  refine cz (fun r st'=>r = .ea []∧st'=bj [some (.row [.vl false 1 (z.origin.map (ak.val false)),.vl false 5 (z.ai.map (aj.val false))] 0 2 26),some (.row [.vl false 1 (z.origin.map (ak.val false)),.vl false 5 (z.ai.map (aj.val false)),.sc (.int .i64 (cf (decide ((gi z).1=1) && decide ((gi z).2=1)) 263 (qm z)))] 0 2 53)]) rfl ?_ ?_
  ·refine bn (T:=[ed,eb,fw,je,jg,jf,ik,ki,oc,kj]) ok mixed Tryz.func23 rfl (by kernel_rfl) (by kernel_rfl) (by kernel_rfl) (by kernel_rfl) ?_;unfold Tryz.f23
   simp only [↓wR,RA,simprocAttr,TF,ae]
   rw [di];refine ⟨fun ⟨hn1,en1⟩=>?_,fun ⟨hn1,en1⟩=>?_⟩
   ·have hv:cf (decide ((gi z).1=1) && decide ((gi z).2=1)) 263 (qm z)=263:=by unfold cf;rw [if_pos ⟨en1,hbf⟩]
    simp only [↓wR,RA,simprocAttr,TF,ae,hn1,ft,fh,eu]
    try rw [hv]
   ·have hv:cf (decide ((gi z).1=1) && decide ((gi z).2=1)) 263 (qm z)=qm z:=by unfold cf;rw [if_neg (fun q=>en1 q.1)]
    simp only [↓wR,RA,simprocAttr,TF,ae,hn1,ft,fh,eu]
    try rw [hv]
  rintro _ _ ⟨rfl,rfl⟩
  rw [show cf (decide ((gi z).1=1) && decide ((gi z).2=1)) 263 (qm z)=ma z from rfl]
  simp only [↓wR,RA,simprocAttr,TF,ae,da]
  refine bn (T:=[]) (an.nil PP) mixed Tryz.func24 rfl (by kernel_rfl) (by kernel_rfl) (by kernel_rfl) (by kernel_rfl) ?_;unfold Tryz.f24
  simp only [↓wR,RA,simprocAttr,TF,ae]
  refine ⟨[1,3,6,45],?_⟩
  have hib:uc PP 43=some (Tryz.f43.ntmps,Tryz.f43.body.getD .skip):=by kernel_rfl
  simp only [↓wR,RA,simprocAttr,TF,ae,hib]
  refine ⟨by kernel_rfl,fun l=>?_⟩
  unfold Tryz.f43
  simp only [↓wR,RA,simprocAttr,TF,ae]
  refine Dt [0,2,7,8,9] (fun (x:Nat × Bool)=>[.sc (.func (.yield l) #[] #[]),.ptr 4 0,.vl false 5 (z.ai.map (aj.val false)),.sc (.int .i64 (z.ai.length)),.sc (.int .i64 (x.1))]) (fun x=>[some (.row [.vl false 1 (z.origin.map (ak.val false)),.vl false 5 (z.ai.map (aj.val false))] 0 2 26),some (.row [.vl false 1 (z.origin.map (ak.val false)),.vl false 5 (z.ai.map (aj.val false)),.sc (.int .i64 (ma z))] 0 2 53),some (.row [.sc (.bool (x.2))] 0 2 4),some (.row [.vl false 1 (z.origin.map (ak.val false)),.vl false 5 (z.ai.map (aj.val false))] 0 2 26),some (.row [.sc (.int .u16 2)] 0 2 28)]) (fun x=>x.1≤z.ai.length∧gv z=(x.2 || Hk z (z.ai.drop x.1))) (fun x=>z.ai.length - x.1) (0,false) ⟨Nat.zero_le _,by rw [Bool.false_or];rfl⟩ (by simp only [↓wR,RA,simprocAttr,TF,ae]<;>rfl) (by simp only [↓wR,RA,simprocAttr,TF,ae]<;>rfl) ?_
  rintro ⟨i,b⟩ ⟨hi,hx⟩
  simp only at hi hx
  simp only [↓wR,RA,simprocAttr,TF,ae]
  rw [vd];refine ⟨fun h=>?_,fun h=>?_⟩
  ·obtain ⟨c,hc,hd1,hlt⟩:=ek h
   have hcs:=hz.set c (List.mem_of_getElem? hc)
   rw [abt hd1] at hx
   simp only [↓wR,RA,simprocAttr,TF,ae,h,hc]
   rw [vd];refine ⟨fun h2=>?_,fun h2=>?_⟩
   ·have e2:(c.type.toNat:Int)=2:=by simpa using h2
    rw [decide_eq_true e2,Bool.true_and] at hx
    simp only [↓wR,RA,simprocAttr,TF,ae,h2]
    refine xt [0,2,7,8,9,17,19] ?_
    simp only [↓wR,RA,simprocAttr,TF,ae,y6,nf]
    cases b with
    |true=>
     simp only [↓wR,RA,simprocAttr,TF,ae];repeat (simp (disch:=omega) only [ah,be,bf,bd,bg];try simp only [↓wR,RA,simprocAttr,TF,ae])
     exact ⟨(i+1,true),⟨hlt,by rw [hx];rfl⟩,by simp;omega,by (first|rfl|trivial|omega|((try (simp (disch:=omega) only [ah]));(try (simp only [FB]));first|done|rfl|omega)),by (first|rfl|trivial|omega|((try (simp (disch:=omega) only [ah]));(try (simp only [FB]));first|done|rfl|omega))⟩
    |false=>
     simp only [↓wR,RA,simprocAttr,TF,ae,gq,hcs.owner,hz.origin];repeat (simp (disch:=omega) only [ah,be,bf,bd,bg];try simp only [↓wR,RA,simprocAttr,TF,ae,gq,hcs.owner,hz.origin])
     exact ⟨(i+1,fu c.owner z.origin),⟨hlt,by rw [hx,Bool.false_or]⟩,by simp;omega,by (first|rfl|trivial|omega|((try (simp (disch:=omega) only [ah]));(try (simp only [FB]));first|done|rfl|omega)),by (first|rfl|trivial|omega|((try (simp (disch:=omega) only [ah]));(try (simp only [FB]));first|done|rfl|omega))⟩
   ·have e2:¬ (c.type.toNat:Int)=2:=by simpa using h2
    rw [decide_eq_false e2,Bool.false_and,Bool.false_or] at hx
    simp only [↓wR,RA,simprocAttr,TF,ae,h2];repeat (simp (disch:=omega) only [ah,be,bf,bd,bg];try simp only [↓wR,RA,simprocAttr,TF,ae,h2])
    exact ⟨(i+1,b),⟨hlt,hx⟩,by simp;omega,by (first|rfl|trivial|omega|((try (simp (disch:=omega) only [ah]));(try (simp only [FB]));first|done|rfl|omega)),by (first|rfl|trivial|omega|((try (simp (disch:=omega) only [ah]));(try (simp only [FB]));first|done|rfl|omega))⟩
  rw [ig h] at hx
  have hb:b=gv z:=by rw [hx];simp [Hk]
  simp only [↓wR,RA,simprocAttr,TF,ae,h]
  rw [hb]
  clear h hx hb
  refine cz (fun r st'=>r = .ea []∧st'=bj [some (.row [.vl false 1 (z.origin.map (ak.val false)),.vl false 5 (z.ai.map (aj.val false))] 0 2 26),some (.row [.vl false 1 (z.origin.map (ak.val false)),.vl false 5 (z.ai.map (aj.val false)),.sc (.int .i64 (cf (gv z) 264 (ma z)))] 0 2 53),some (.row [.sc (.bool (gv z))] 0 2 4),some (.row [.vl false 1 (z.origin.map (ak.val false)),.vl false 5 (z.ai.map (aj.val false))] 0 2 26),some (.row [.sc (.int .u16 2)] 0 2 28)]) rfl ?_ ?_
  ·refine bn (T:=[ed,eb,fw,je,jg,jf,ik,ki,oc,kj]) ok mixed Tryz.func23 rfl (by kernel_rfl) (by kernel_rfl) (by kernel_rfl) (by kernel_rfl) ?_;unfold Tryz.f23
   simp only [↓wR,RA,simprocAttr,TF,ae]
   rw [di];refine ⟨fun ⟨hn1,en1⟩=>?_,fun ⟨hn1,en1⟩=>?_⟩
   ·simp only [↓wR,RA,simprocAttr,TF,ae,hn1]
    rw [dc];refine ⟨fun hn2=>?_,fun hn2=>?_⟩
    ·have hb:(gv z)=false:=by simpa only [Bool.not_eq_true'] using hn2
     have hv:cf (gv z) 264 (ma z)=264:=by unfold cf;rw [if_pos ⟨en1,hb⟩]
     simp only [↓wR,RA,simprocAttr,TF,ae,hn1,hn2,ft,fh,eu]
     try rw [hv]
    ·have hb:(gv z)=true:=by simpa only [Bool.not_eq_false'] using hn2
     have hv:cf (gv z) 264 (ma z)=ma z:=by unfold cf;rw [if_neg (fun q=>by rw [hb] at q;cases q.2)]
     simp only [↓wR,RA,simprocAttr,TF,ae,hn1,hn2,ft,fh,eu]
     try rw [hv]
   ·have hv:cf (gv z) 264 (ma z)=ma z:=by unfold cf;rw [if_neg (fun q=>en1 q.1)]
    simp only [↓wR,RA,simprocAttr,TF,ae,hn1,ft,fh,eu]
    try rw [hv]
  rintro _ _ ⟨rfl,rfl⟩
  rw [show cf (gv z) 264 (ma z)=C6 z from rfl]
  simp only [↓wR,RA,simprocAttr,TF,ae,da]
  obtain ⟨e0,he0⟩:∃ e0,C6 z=e0:=⟨_,rfl⟩
  rw [he0]
  refine cz (fun r st'=>r = .ea []∧st'=bj [some (.row [.vl false 1 (z.origin.map (ak.val false)),.vl false 5 (z.ai.map (aj.val false))] 0 2 26),some (.row [.vl false 1 (z.origin.map (ak.val false)),.vl false 5 (z.ai.map (aj.val false)),.sc (.int .i64 (fj 265 (ja z) 0 z.ai e0))] 0 2 53),some (.row [.sc (.bool (gv z))] 0 2 4),some (.row [.vl false 1 (z.origin.map (ak.val false)),.vl false 5 (z.ai.map (aj.val false))] 0 2 26),some (.row [.sc (.int .u16 2)] 0 2 28)]) rfl ?_ ?_
  ·refine bn (T:=[ed,eb,fw,je,jg,jf,ik,ki,oc,kj]) ok mixed Tryz.func17 rfl (by kernel_rfl) (by kernel_rfl) (by kernel_rfl) (by kernel_rfl) ?_;unfold Tryz.f17
   simp only [↓wR,RA,simprocAttr,TF,ae]
   refine cq [0,1,2,12,13,14] (fun (x:Nat × Int)=>[.ptr 1 0,.sc (.int .i64 (265)),.fn (.func 25) [.ptr 1 0] [],.vl false 5 (z.ai.map (aj.val false)),.sc (.int .i64 (z.ai.length)),.sc (.int .i64 (x.1))]) (fun x=>[some (.row [.vl false 1 (z.origin.map (ak.val false)),.vl false 5 (z.ai.map (aj.val false))] 0 2 26),some (.row [.vl false 1 (z.origin.map (ak.val false)),.vl false 5 (z.ai.map (aj.val false)),.sc (.int .i64 (x.2))] 0 2 53),some (.row [.sc (.bool (gv z))] 0 2 4),some (.row [.vl false 1 (z.origin.map (ak.val false)),.vl false 5 (z.ai.map (aj.val false))] 0 2 26),some (.row [.sc (.int .u16 2)] 0 2 28)]) (fun x=>x.1≤z.ai.length∧fj 265 (ja z) 0 z.ai e0=fj 265 (ja z) x.1 (z.ai.drop x.1) x.2) (fun x=>z.ai.length - x.1) (0,e0) ⟨Nat.zero_le _,rfl⟩ (by simp only [↓wR,RA,simprocAttr,TF,ae]<;>rfl) (by simp only [↓wR,RA,simprocAttr,TF,ae]<;>rfl) ?_
   rintro ⟨i,e⟩ ⟨hi,hx⟩
   simp only at hi hx
   simp only [↓wR,RA,simprocAttr,TF,ae]
   rw [bc];refine ⟨fun h=>?_,fun h=>?_⟩
   ·obtain ⟨c,hc,hd1,hlt⟩:=ek (decide_eq_true h)
    rw [s8 hd1] at hx
    have hcs:=hz.set c (List.mem_of_getElem? hc)
    have hi2:(0:Int)≤i∧(i:Int)≤z.ai.length:=by omega
    simp only [↓wR,RA,simprocAttr,TF,ae,h,hc]
    rw [dr];refine ⟨fun ⟨h1,e1⟩=>?_,fun ⟨h1,e1⟩=>?_⟩
    ·rw [if_pos e1] at hx
     simp only [↓wR,RA,simprocAttr,TF,ae,h1,ft,fh,eu]
     rw [hx]
    ·rw [if_neg (by omega)] at hx
     simp only [↓wR,RA,simprocAttr,TF,ae,h1,hcs,hz,hi2,B6]
     refine cz (fun r st'=>r = .ea []∧st'=bj [some (.row [.vl false 1 (z.origin.map (ak.val false)),.vl false 5 (z.ai.map (aj.val false))] 0 2 26),some (.row [.vl false 1 (z.origin.map (ak.val false)),.vl false 5 (z.ai.map (aj.val false)),.sc (.int .i64 (cf ((ja z) i c) 265 e))] 0 2 53),some (.row [.sc (.bool (gv z))] 0 2 4),some (.row [.vl false 1 (z.origin.map (ak.val false)),.vl false 5 (z.ai.map (aj.val false))] 0 2 26),some (.row [.sc (.int .u16 2)] 0 2 28),some (.row [.vl false 1 (c.owner.map (ak.val false)),.sc (.int .u16 c.type.toNat),.sc (.int .u16 c.cls.toNat),.sc (.int .u32 c.ff.toNat),.vl false 4 (c.data.map (aq.val false))] 0 2 33)]) rfl ?_ ?_
     ·refine bn (T:=[ed,eb,fw,je,jg,jf,ik,ki,oc,kj]) ok mixed Tryz.func23 rfl (by kernel_rfl) (by kernel_rfl) (by kernel_rfl) (by kernel_rfl) ?_;unfold Tryz.f23
      simp only [↓wR,RA,simprocAttr,TF,ae,e1]
      rw [dc];refine ⟨fun hn2=>?_,fun hn2=>?_⟩
      ·have hb:((ja z) i c)=false:=by simpa only [Bool.not_eq_true'] using hn2
       have hv:cf ((ja z) i c) 265 0=265:=by unfold cf;rw [if_pos ⟨rfl,hb⟩]
       simp only [↓wR,RA,simprocAttr,TF,ae,hn2,ft,fh,eu]
       try rw [hv]
      ·have hb:((ja z) i c)=true:=by simpa only [Bool.not_eq_false'] using hn2
       have hv:cf ((ja z) i c) 265 0=0:=by unfold cf;rw [if_neg (fun q=>by rw [hb] at q;cases q.2)]
       simp only [↓wR,RA,simprocAttr,TF,ae,hn2,ft,fh,eu]
       try rw [hv]
     rintro _ _ ⟨rfl,rfl⟩
     simp only [↓wR,RA,simprocAttr,TF,ae,da];repeat (simp (disch:=omega) only [ah,be,bf,bd,bg];try simp only [↓wR,RA,simprocAttr,TF,ae,da])
     exact ⟨(i+1,cf ((ja z) i c) 265 e),⟨hlt,hx⟩,by simp;omega,by (first|rfl|trivial|omega|((try (simp (disch:=omega) only [ah]));(try (simp only [FB]));first|done|rfl|omega)),by (first|rfl|trivial|omega|((try (simp (disch:=omega) only [ah]));(try (simp only [FB]));first|done|rfl|omega))⟩
   ·rw [ig (decide_eq_false h)] at hx
    simp only [↓wR,RA,simprocAttr,TF,ae,h,ft,fh,eu]
    rw [hx];rfl
  rintro _ _ ⟨rfl,rfl⟩
  rw [← he0]
  clear he0
  simp only [↓wR,RA,simprocAttr,TF,ae,da]
  rw [show fj 265 (ja z) 0 z.ai (C6 z)=Ch z from rfl]
  obtain ⟨e0,he0⟩:∃ e0,Ch z=e0:=⟨_,rfl⟩
  rw [he0]
  refine cz (fun r st'=>r = .ea []∧st'=bj [some (.row [.vl false 1 (z.origin.map (ak.val false)),.vl false 5 (z.ai.map (aj.val false))] 0 2 26),some (.row [.vl false 1 (z.origin.map (ak.val false)),.vl false 5 (z.ai.map (aj.val false)),.sc (.int .i64 (fj 266 (fun _ s=>kh s) 0 z.ai e0))] 0 2 53),some (.row [.sc (.bool (gv z))] 0 2 4),some (.row [.vl false 1 (z.origin.map (ak.val false)),.vl false 5 (z.ai.map (aj.val false))] 0 2 26),some (.row [.sc (.int .u16 2)] 0 2 28)]) rfl ?_ ?_
  ·refine bn (T:=[ed,eb,fw,je,jg,jf,ik,ki,oc,kj]) ok mixed Tryz.func17 rfl (by kernel_rfl) (by kernel_rfl) (by kernel_rfl) (by kernel_rfl) ?_;unfold Tryz.f17
   simp only [↓wR,RA,simprocAttr,TF,ae]
   refine cq [0,1,2,12,13,14] (fun (x:Nat × Int)=>[.ptr 1 0,.sc (.int .i64 (266)),.sc (.func (.func 26) #[] #[]),.vl false 5 (z.ai.map (aj.val false)),.sc (.int .i64 (z.ai.length)),.sc (.int .i64 (x.1))]) (fun x=>[some (.row [.vl false 1 (z.origin.map (ak.val false)),.vl false 5 (z.ai.map (aj.val false))] 0 2 26),some (.row [.vl false 1 (z.origin.map (ak.val false)),.vl false 5 (z.ai.map (aj.val false)),.sc (.int .i64 (x.2))] 0 2 53),some (.row [.sc (.bool (gv z))] 0 2 4),some (.row [.vl false 1 (z.origin.map (ak.val false)),.vl false 5 (z.ai.map (aj.val false))] 0 2 26),some (.row [.sc (.int .u16 2)] 0 2 28)]) (fun x=>x.1≤z.ai.length∧fj 266 (fun _ s=>kh s) 0 z.ai e0=fj 266 (fun _ s=>kh s) x.1 (z.ai.drop x.1) x.2) (fun x=>z.ai.length - x.1) (0,e0) ⟨Nat.zero_le _,rfl⟩ (by simp only [↓wR,RA,simprocAttr,TF,ae]<;>rfl) (by simp only [↓wR,RA,simprocAttr,TF,ae]<;>rfl) ?_
   rintro ⟨i,e⟩ ⟨hi,hx⟩
   simp only at hi hx
   simp only [↓wR,RA,simprocAttr,TF,ae]
   rw [bc];refine ⟨fun h=>?_,fun h=>?_⟩
   ·obtain ⟨c,hc,hd1,hlt⟩:=ek (decide_eq_true h)
    rw [s8 hd1] at hx
    have hcs:=hz.set c (List.mem_of_getElem? hc)
    have hi2:(0:Int)≤i∧(i:Int)≤z.ai.length:=by omega
    simp only [↓wR,RA,simprocAttr,TF,ae,h,hc]
    rw [dr];refine ⟨fun ⟨h1,e1⟩=>?_,fun ⟨h1,e1⟩=>?_⟩
    ·rw [if_pos e1] at hx
     simp only [↓wR,RA,simprocAttr,TF,ae,h1,ft,fh,eu]
     rw [hx]
    ·rw [if_neg (by omega)] at hx
     simp only [↓wR,RA,simprocAttr,TF,ae,h1,hcs,hz,hi2,Gb]
     refine cz (fun r st'=>r = .ea []∧st'=bj [some (.row [.vl false 1 (z.origin.map (ak.val false)),.vl false 5 (z.ai.map (aj.val false))] 0 2 26),some (.row [.vl false 1 (z.origin.map (ak.val false)),.vl false 5 (z.ai.map (aj.val false)),.sc (.int .i64 (cf ((fun _ s=>kh s) i c) 266 e))] 0 2 53),some (.row [.sc (.bool (gv z))] 0 2 4),some (.row [.vl false 1 (z.origin.map (ak.val false)),.vl false 5 (z.ai.map (aj.val false))] 0 2 26),some (.row [.sc (.int .u16 2)] 0 2 28),some (.row [.vl false 1 (c.owner.map (ak.val false)),.sc (.int .u16 c.type.toNat),.sc (.int .u16 c.cls.toNat),.sc (.int .u32 c.ff.toNat),.vl false 4 (c.data.map (aq.val false))] 0 2 33)]) rfl ?_ ?_
     ·refine bn (T:=[ed,eb,fw,je,jg,jf,ik,ki,oc,kj]) ok mixed Tryz.func23 rfl (by kernel_rfl) (by kernel_rfl) (by kernel_rfl) (by kernel_rfl) ?_;unfold Tryz.f23
      simp only [↓wR,RA,simprocAttr,TF,ae,e1]
      rw [dc];refine ⟨fun hn2=>?_,fun hn2=>?_⟩
      ·have hb:((fun _ s=>kh s) i c)=false:=by simpa only [Bool.not_eq_true'] using hn2
       have hv:cf ((fun _ s=>kh s) i c) 266 0=266:=by unfold cf;rw [if_pos ⟨rfl,hb⟩]
       simp only [↓wR,RA,simprocAttr,TF,ae,hn2,ft,fh,eu]
       try rw [hv]
      ·have hb:((fun _ s=>kh s) i c)=true:=by simpa only [Bool.not_eq_false'] using hn2
       have hv:cf ((fun _ s=>kh s) i c) 266 0=0:=by unfold cf;rw [if_neg (fun q=>by rw [hb] at q;cases q.2)]
       simp only [↓wR,RA,simprocAttr,TF,ae,hn2,ft,fh,eu]
       try rw [hv]
     rintro _ _ ⟨rfl,rfl⟩
     simp only [↓wR,RA,simprocAttr,TF,ae,da];repeat (simp (disch:=omega) only [ah,be,bf,bd,bg];try simp only [↓wR,RA,simprocAttr,TF,ae,da])
     exact ⟨(i+1,cf ((fun _ s=>kh s) i c) 266 e),⟨hlt,hx⟩,by simp;omega,by (first|rfl|trivial|omega|((try (simp (disch:=omega) only [ah]));(try (simp only [FB]));first|done|rfl|omega)),by (first|rfl|trivial|omega|((try (simp (disch:=omega) only [ah]));(try (simp only [FB]));first|done|rfl|omega))⟩
   ·rw [ig (decide_eq_false h)] at hx
    simp only [↓wR,RA,simprocAttr,TF,ae,h,ft,fh,eu]
    rw [hx];rfl
  rintro _ _ ⟨rfl,rfl⟩
  rw [← he0]
  clear he0
  simp only [↓wR,RA,simprocAttr,TF,ae,da]
  rw [show fj 266 (fun _ s=>kh s) 0 z.ai (Ch z)=Ie z from rfl]
  obtain ⟨e0,he0⟩:∃ e0,Ie z=e0:=⟨_,rfl⟩
  rw [he0]
  refine cz (fun r st'=>r = .ea []∧st'=bj [some (.row [.vl false 1 (z.origin.map (ak.val false)),.vl false 5 (z.ai.map (aj.val false))] 0 2 26),some (.row [.vl false 1 (z.origin.map (ak.val false)),.vl false 5 (z.ai.map (aj.val false)),.sc (.int .i64 (fj 267 (fun _ s=>o9 z s) 0 z.ai e0))] 0 2 53),some (.row [.sc (.bool (gv z))] 0 2 4),some (.row [.vl false 1 (z.origin.map (ak.val false)),.vl false 5 (z.ai.map (aj.val false))] 0 2 26),some (.row [.sc (.int .u16 2)] 0 2 28)]) rfl ?_ ?_
  ·refine bn (T:=[ed,eb,fw,je,jg,jf,ik,ki,oc,kj]) ok mixed Tryz.func17 rfl (by kernel_rfl) (by kernel_rfl) (by kernel_rfl) (by kernel_rfl) ?_;unfold Tryz.f17
   simp only [↓wR,RA,simprocAttr,TF,ae]
   refine cq [0,1,2,12,13,14] (fun (x:Nat × Int)=>[.ptr 1 0,.sc (.int .i64 (267)),.fn (.func 27) [] [.ptr 0 0],.vl false 5 (z.ai.map (aj.val false)),.sc (.int .i64 (z.ai.length)),.sc (.int .i64 (x.1))]) (fun x=>[some (.row [.vl false 1 (z.origin.map (ak.val false)),.vl false 5 (z.ai.map (aj.val false))] 0 2 26),some (.row [.vl false 1 (z.origin.map (ak.val false)),.vl false 5 (z.ai.map (aj.val false)),.sc (.int .i64 (x.2))] 0 2 53),some (.row [.sc (.bool (gv z))] 0 2 4),some (.row [.vl false 1 (z.origin.map (ak.val false)),.vl false 5 (z.ai.map (aj.val false))] 0 2 26),some (.row [.sc (.int .u16 2)] 0 2 28)]) (fun x=>x.1≤z.ai.length∧fj 267 (fun _ s=>o9 z s) 0 z.ai e0=fj 267 (fun _ s=>o9 z s) x.1 (z.ai.drop x.1) x.2) (fun x=>z.ai.length - x.1) (0,e0) ⟨Nat.zero_le _,rfl⟩ (by simp only [↓wR,RA,simprocAttr,TF,ae]<;>rfl) (by simp only [↓wR,RA,simprocAttr,TF,ae]<;>rfl) ?_
   rintro ⟨i,e⟩ ⟨hi,hx⟩
   simp only at hi hx
   simp only [↓wR,RA,simprocAttr,TF,ae]
   rw [bc];refine ⟨fun h=>?_,fun h=>?_⟩
   ·obtain ⟨c,hc,hd1,hlt⟩:=ek (decide_eq_true h)
    rw [s8 hd1] at hx
    have hcs:=hz.set c (List.mem_of_getElem? hc)
    have hi2:(0:Int)≤i∧(i:Int)≤z.ai.length:=by omega
    simp only [↓wR,RA,simprocAttr,TF,ae,h,hc]
    rw [dr];refine ⟨fun ⟨h1,e1⟩=>?_,fun ⟨h1,e1⟩=>?_⟩
    ·rw [if_pos e1] at hx
     simp only [↓wR,RA,simprocAttr,TF,ae,h1,ft,fh,eu]
     rw [hx]
    ·rw [if_neg (by omega)] at hx
     simp only [↓wR,RA,simprocAttr,TF,ae,h1,hcs,hz,hi2,Lf]
     refine cz (fun r st'=>r = .ea []∧st'=bj [some (.row [.vl false 1 (z.origin.map (ak.val false)),.vl false 5 (z.ai.map (aj.val false))] 0 2 26),some (.row [.vl false 1 (z.origin.map (ak.val false)),.vl false 5 (z.ai.map (aj.val false)),.sc (.int .i64 (cf ((fun _ s=>o9 z s) i c) 267 e))] 0 2 53),some (.row [.sc (.bool (gv z))] 0 2 4),some (.row [.vl false 1 (z.origin.map (ak.val false)),.vl false 5 (z.ai.map (aj.val false))] 0 2 26),some (.row [.sc (.int .u16 2)] 0 2 28),some (.row [.vl false 1 (c.owner.map (ak.val false)),.sc (.int .u16 c.type.toNat),.sc (.int .u16 c.cls.toNat),.sc (.int .u32 c.ff.toNat),.vl false 4 (c.data.map (aq.val false))] 0 2 33)]) rfl ?_ ?_
     ·refine bn (T:=[ed,eb,fw,je,jg,jf,ik,ki,oc,kj]) ok mixed Tryz.func23 rfl (by kernel_rfl) (by kernel_rfl) (by kernel_rfl) (by kernel_rfl) ?_;unfold Tryz.f23
      simp only [↓wR,RA,simprocAttr,TF,ae,e1]
      rw [dc];refine ⟨fun hn2=>?_,fun hn2=>?_⟩
      ·have hb:((fun _ s=>o9 z s) i c)=false:=by simpa only [Bool.not_eq_true'] using hn2
       have hv:cf ((fun _ s=>o9 z s) i c) 267 0=267:=by unfold cf;rw [if_pos ⟨rfl,hb⟩]
       simp only [↓wR,RA,simprocAttr,TF,ae,hn2,ft,fh,eu]
       try rw [hv]
      ·have hb:((fun _ s=>o9 z s) i c)=true:=by simpa only [Bool.not_eq_false'] using hn2
       have hv:cf ((fun _ s=>o9 z s) i c) 267 0=0:=by unfold cf;rw [if_neg (fun q=>by rw [hb] at q;cases q.2)]
       simp only [↓wR,RA,simprocAttr,TF,ae,hn2,ft,fh,eu]
       try rw [hv]
     rintro _ _ ⟨rfl,rfl⟩
     simp only [↓wR,RA,simprocAttr,TF,ae,da];repeat (simp (disch:=omega) only [ah,be,bf,bd,bg];try simp only [↓wR,RA,simprocAttr,TF,ae,da])
     exact ⟨(i+1,cf ((fun _ s=>o9 z s) i c) 267 e),⟨hlt,hx⟩,by simp;omega,by (first|rfl|trivial|omega|((try (simp (disch:=omega) only [ah]));(try (simp only [FB]));first|done|rfl|omega)),by (first|rfl|trivial|omega|((try (simp (disch:=omega) only [ah]));(try (simp only [FB]));first|done|rfl|omega))⟩
   ·rw [ig (decide_eq_false h)] at hx
    simp only [↓wR,RA,simprocAttr,TF,ae,h,ft,fh,eu]
    rw [hx];rfl
  rintro _ _ ⟨rfl,rfl⟩
  rw [← he0]
  clear he0
  simp only [↓wR,RA,simprocAttr,TF,ae,da]
  rfl
noncomputable def xj (x:ca × Unit):Option AV:=if db x.1 then some ((r1 (bk .i64)).E true (ji x.1)) else none
set_option maxRecDepth 2000000 in
theorem Ae (x:ca × Unit) (r:AV) (h:xj x=some r):br PP 6 ((aC c7 a0).E x) r:=by
 by_cases hc:db x.1
 case neg=>simp only [xj,if_neg hc] at h;cases h
 simp only [xj,if_pos hc] at h
 cases h
 exact bb (an.cons (ar rq) (an.cons (ar my) (an.cons (ar Hn) (an.cons (ar Md) (an.cons (ar Mg) (an.cons (ar Nj) (an.cons (ar I7) (an.cons (ar Qg) (an.cons (ar Vx) (an.cons (ar Oy) (an.nil PP))))))))))) Tryz.func6 (by kernel_rfl) (by kernel_rfl) (by kernel_rfl) (Nat.le_of_ble_eq_true (by kernel_rfl)) (r1 (bk .i64)) true (ji x.1) (Zi x.1 hc)
noncomputable abbrev I9:Nat × Bool × (List AV→M AV):=(6,true,dh (aC c7 a0) xj)
def Tj (l:List ba):Bool:=l.all fun s=>!decide ((20:Int)<s.data.length)
def Jf (z:ca):Bool:=Tj z.ai && decide ((z.ai.length:Int)≤40)
theorem ash (z:ca) (hz:db z):wl PP [] 0 (Tryz.f5.body.getD .skip) (dv PP Tryz.f5.results.toList (fun r st=>(r1 bo).get true st.h r=some (Jf z))) (b9 0 [c7.val false z]) (bj []):=by
 have hl:=hz.len
 unfold Tryz.f5
 simp only [kq]
 simp only [↓wR,RA,simprocAttr,TF,ae]
 refine cq [1,3] (fun (i:Nat)=>[.ptr 0 0,.sc (.int .i64 (i))]) (fun _=>[some (.row [.vl false 1 (z.origin.map (ak.val false)),.vl false 5 (z.ai.map (aj.val false))] 0 2 26)]) (fun i=>i≤z.ai.length∧Tj z.ai=Tj (z.ai.drop i)) (fun i=>z.ai.length - i) 0 ⟨Nat.zero_le _,rfl⟩ (by simp only [↓wR,RA,simprocAttr,TF,ae]<;>rfl) (by simp only [↓wR,RA,simprocAttr,TF,ae]<;>rfl) ?_
 rintro i ⟨hi,hx⟩
 simp only [↓wR,RA,simprocAttr,TF,ae]
 rw [bc];refine ⟨fun h=>?_,fun h=>?_⟩
 ·obtain ⟨c,hc,hd1,hlt⟩:=ek (decide_eq_true h)
  have hx':Tj z.ai=(!decide ((20:Int)<c.data.length) && Tj (z.ai.drop (i+1))):=by rw [hx,hd1];rfl
  simp only [↓wR,RA,simprocAttr,TF,ae,h,hc];repeat (simp (disch:=omega) only [ah,be,bf,bd,bg];try simp only [↓wR,RA,simprocAttr,TF,ae,h,hc])
  rw [bc];refine ⟨fun h2=>?_,fun h2=>?_⟩
  ·rw [decide_eq_true h2,Bool.not_true,Bool.false_and] at hx'
   simp only [↓wR,RA,simprocAttr,TF,ae,h2];repeat (simp (disch:=omega) only [ah,be,bf,bd,bg];try simp only [↓wR,RA,simprocAttr,TF,ae,h2])
   rw [Jf,hx'];rfl
  ·rw [decide_eq_false h2,Bool.not_false,Bool.true_and] at hx'
   simp only [↓wR,RA,simprocAttr,TF,ae,h2];repeat (simp (disch:=omega) only [ah,be,bf,bd,bg];try simp only [↓wR,RA,simprocAttr,TF,ae,h2])
   exact ⟨i+1,⟨hlt,hx'⟩,by omega,by (first|rfl|trivial|omega|((try (simp (disch:=omega) only [ah]));(try (simp only [FB]));first|done|rfl|omega))⟩
 ·rw [ig (decide_eq_false h)] at hx
  simp only [↓wR,RA,simprocAttr,TF,ae,h]
  rw [Jf,hx];rfl
noncomputable def Qy (x:ca × Unit):Option AV:=if db x.1 then some ((r1 bo).E true (Jf x.1)) else none
set_option maxRecDepth 2000000 in
theorem alp (x:ca × Unit) (r:AV) (h:Qy x=some r):br PP 5 ((aC c7 a0).E x) r:=by
 by_cases hc:db x.1
 case neg=>simp only [Qy,if_neg hc] at h;cases h
 simp only [Qy,if_pos hc] at h
 cases h
 exact bb (an.nil PP) Tryz.func5 (by kernel_rfl) (by kernel_rfl) (by kernel_rfl) (Nat.le_of_ble_eq_true (by kernel_rfl)) (r1 bo) true (Jf x.1) (ash x.1 hc)
noncomputable abbrev ary:Nat × Bool × (List AV→M AV):=(5,true,dh (aC c7 a0) Qy)
noncomputable def Zy (z:ca) (n:Name):Int:=if ji z≠0 then ji z else if eh n≠0 then eh n else if ir n z.origin=false then 2 else 0
def uk (z:ca):Name→Name
 | []=>[]
 |a::r=>if aic z (a::r)=true then a::r else uk z r
noncomputable def ahu (z:ca) (n:Name):Xs × Int:=
 if Zy z n≠0 then (mkP 0 [] [],Zy z n)
 else match ye z n with
  |some c=>(mkP 4 c [],0)
  |none=>
   if 0<(Rz z n).length then (mkP 1 n (uk z n),0)
   else if (uk z n).length=n.length then (mkP 2 [] (uk z n),0)
   else if aic z (agk::uk z n)=true then (mkP 3 (agk::uk z n) (uk z n),0)
   else (mkP 0 [] (uk z n),0)
end Go.Proofs.YtldcaajoheeipaaGreat
end
section
namespace Go.Proofs.YtldcaajoheeipaaGreat
open Go.Vm
theorem vg {err:Int} (he:err≠0) (p:Nat→ba→Bool):∀ (l:List ba) (i:Nat) (e:Int),fj err p i l e=0→e=0∧∀ k s,l[k]? = some s→p (i+k) s=true:=by
 intro l
 induction l with
 |nil=>intro i e h;exact ⟨h,fun k s hs=>by simp at hs⟩
 |cons a l ih=>
  intro i e h
  rw [fj] at h
  split at h
  ·contradiction
  ·rename_i h0
   have h0:e=0:=by omega
   obtain ⟨h1,h2⟩:=ih (i+1) _ h
   refine ⟨h0,fun k s hs=>?_⟩
   cases k with
   |zero=>
    simp at hs
    subst hs
    cases hp:p i a with
    |true=>simp [hp]
    |false=>rw [cf,if_pos ⟨h0,hp⟩] at h1;exact (he h1).elim
   |succ k=>
    have:=h2 k s (by simpa using hs)
    rwa [show i+1+k=i+(k+1) from by omega] at this
theorem Qt {b:Bool} {err e:Int} (he:err≠0) (h:cf b err e=0):e=0∧b=true:=by
 unfold cf at h
 split at h
 ·exact (he h).elim
 ·rename_i hn
  refine ⟨h,?_⟩
  cases b with
  |true=>rfl
  |false=>exact (hn ⟨h,rfl⟩).elim
structure aps (z:ca):Prop where
 first:ui z=0
 apn:∀ k s,z.ai[k]? = some s→js z k s=true
 cls:∀ s ∈ z.ai,m9 s=true
 inside:∀ s ∈ z.ai,ir s.owner z.origin=true
 auw:(gi z).1=1∧(gi z).2=1
 auy:gv z=true
 alone:∀ k s,z.ai[k]? = some s→ja z k s=true
 star:∀ s ∈ z.ai,kh s=true
 occ:∀ s ∈ z.ai,o9 z s=true
theorem Xq {z:ca} (h:ji z=0):aps z:=by
 unfold ji at h
 split at h
 ·contradiction
 rename_i h0
 obtain ⟨h7,p8⟩:=vg (by decide) _ _ _ _ h
 obtain ⟨h6,p7⟩:=vg (by decide) _ _ _ _ h7
 obtain ⟨h5,p6⟩:=vg (by decide) _ _ _ _ h6
 obtain ⟨h4,p5⟩:=Qt (by decide) h5
 obtain ⟨h3,p4⟩:=Qt (by decide) h4
 obtain ⟨h2,p3⟩:=vg (by decide) _ _ _ _ h3
 obtain ⟨h1,p2⟩:=vg (by decide) _ _ _ _ h2
 obtain ⟨_,p1⟩:=vg (by decide) _ _ _ _ h1
 have mem:∀ (p:ba→Bool),(∀ k s,z.ai[k]? = some s→p s=true)→∀ s ∈ z.ai,p s=true:=fun p hp s hs=>by
  obtain ⟨k,hk,rfl⟩:=List.getElem_of_mem hs
  exact hp k _ (List.getElem?_eq_getElem hk)
 simp only [Bool.and_eq_true,decide_eq_true_eq] at p4
 exact ⟨by omega,fun k s hs=>by simpa using p1 k s hs,mem _ p2,mem _ p3,p4,p5,fun k s hs=>by simpa using p6 k s hs,mem _ p7,mem _ p8⟩
theorem mw {a b:Name}:fu a b=true↔g6 a=g6 b:=by simp [fu]
end Go.Proofs.YtldcaajoheeipaaGreat
end
section
namespace Go.Proofs.YtldcaajoheeipaaGreat
open Go.Vm
set_option maxRecDepth 2000000
def wa (l:List ba):Prop:=gz j7 l≤16777216
instance (l:List ba):Decidable (wa l):=inferInstanceAs (Decidable (_≤_))
theorem wa.mem {l:List ba} (h:wa l):∀ s ∈ l,ct s:=fun s hs=>by
 have h1:j7 s<gz j7 l:=E8 hs
 unfold wa at h;unfold ct;omega
theorem wa.len {l:List ba} (h:wa l):l.length≤16777216:=Nat.le_trans (B3 j7 l) h
theorem db.ai {z:ca} (h:db z):wa z.ai:=by unfold db xo at h;unfold wa;omega
def Bf (l:List ba):Prop:=l.length≤281474976710656∧∀ s ∈ l,ct s
instance (l:List ba):Decidable (Bf l):=inferInstanceAs (Decidable (_∧_))
theorem db.mid {z:ca} (h:db z):Bf z.ai:=⟨Nat.le_trans h.ai.len (by decide),h.ai.mem⟩
def as3 (n:Name) (t:UInt16) (s:ba):Bool:=decide ((s.type.toNat:Int)=t.toNat) && (decide ((s.cls.toNat:Int)=1) && fu s.owner n)
def ao6 (l:List ba) (n:Name) (t:UInt16):Option ba:=l.find? (as3 n t)
def as0:ba:=Mr [] 0 0 0 []
noncomputable def al5 (z:ca) (n:Name) (t:UInt16):Xs × Int:=
 if (ahu z n).2=0∧((t.toNat:Int)=0∨(t.toNat:Int)=41) then (mkP 0 [] [],6) else ahu z n
theorem ahf {s:ba} (h:uh s=0):∀ d ∈ s.data,ef s.type d=0:=by
 have key:∀ (l pre:List bq),sv s.type pre l=0→∀ d ∈ l,ef s.type d=0:=by
  intro l
  induction l with
  |nil=>intro pre _ d hd;cases hd
  |cons a l ih=>
   intro pre h d hd
   rw [sv] at h
   split at h
   ·contradiction
   split at h
   ·cases h
   rcases List.mem_cons.1 hd with rfl|hd
   ·omega
   ·exact ih _ h d hd
 unfold uh at h
 split at h
 ·contradiction
 split at h
 ·cases h
 split at h
 ·cases h
 exact key _ _ h
theorem ajt {z:ca} (h:ji z=0):∀ s ∈ z.ai,uh s=0:=by
 have hf:=(Xq h).first
 unfold ui at hf
 split at hf
 ·contradiction
 have key:∀ (l:List ba) (e:Int),D1 l e=0→e=0∧∀ s ∈ l,uh s=0:=by
  intro l
  induction l with
  |nil=>intro e h;exact ⟨h,fun s hs=>by cases hs⟩
  |cons a l ih=>
   intro e h
   rw [D1] at h
   obtain ⟨h1,h2⟩:=ih _ h
   split at h1
   ·rename_i e0
    exact ⟨e0,fun s hs=>(List.mem_cons.1 hs).elim (fun q=>q ▸ h1) (h2 s)⟩
   ·rename_i e0;exact (e0 h1).elim
 exact (key _ _ hf).2
def aul (n:Name) (s:ba):ba:=Mr n s.type s.cls s.ff s.data
end Go.Proofs.YtldcaajoheeipaaGreat
end
namespace Go.Vm
def g5 {α:Type} (lt : α → α→Bool) (x : α):List α→List α
 | []=>[x]
 |y::l=>bif lt x y then x::y::l else y::g5 lt x l
def c8 {α:Type} (lt : α → α→Bool):List α→List α:=List.foldl (fun acc x=>g5 lt x acc) []
def dp {α:Type} (lt : α → α→Bool):List α→List α→List α
 | [],r=>r
 |x::l,[]=>x::l
 |x::l,y::r=>bif lt y x then y::dp lt (x::l) r else x::dp lt l (y::r)
termination_by l r=>l.length+r.length
structure s5 {α:Type} (lt : α → α→Bool) (V : α→Prop):Prop where
 S3:∀ x y,V x→V y→lt x y=true→lt y x=false
 trans:∀ x y z,V x→V y→V z→lt y x=false→lt z y=false→lt z x=false
def gu {α:Type} (lt : α → α→Bool) (l:List α):Prop:=l.Pairwise fun x y=>lt y x=false
theorem i3 {α:Type} {lt : α → α→Bool} (r:List α):dp lt [] r=r:=by rw [dp]
theorem g8 {α:Type} {lt : α → α→Bool} (l:List α):dp lt l []=l:=by cases l<;>rw [dp]
theorem j6 {α:Type} {lt : α → α→Bool} (x y : α) (l r:List α):dp lt (x::l) (y::r)=bif lt y x then y::dp lt (x::l) r else x::dp lt l (y::r):=by rw [dp]
theorem Gm {α:Type} {lt : α → α→Bool} {x z : α}:∀ {l:List α},z ∈ g5 lt x l↔z=x∨z ∈ l
 | []=>by simp [g5]
 |y::l=>by
  rw [g5]
  cases lt x y with
  |true=>simp
  |false=>simp only [cond_false,List.mem_cons,Gm (l:=l)];constructor<;>(rintro (h|h|h)<;>simp [h])
theorem Ob {α:Type} {lt : α → α→Bool} {x : α}:∀ {l:List α},(g5 lt x l).length=l.length+1
 | []=>rfl
 |y::l=>by
  rw [g5]
  cases lt x y with
  |true=>rfl
  |false=>simp [Ob (l:=l)]
theorem I0 {α:Type} {lt : α → α→Bool} {x : α}:∀ {l:List α},(g5 lt x l).Perm (x::l)
 | []=>.refl _
 |y::l=>by
  rw [g5]
  cases lt x y with
  |true=>exact .refl _
  |false=>exact (List.Perm.cons y (I0 (l:=l))).trans (List.Perm.swap x y l)
theorem Va {α:Type} {lt : α → α→Bool}:c8 lt []=[]:=rfl
theorem qo {α:Type} {lt : α → α→Bool} (l:List α) (x : α):c8 lt (l++[x])=g5 lt x (c8 lt l):=by simp [c8,List.foldl_append]
theorem G2 {α:Type} {p:List α→Prop} (l:List α) (h0:p []) (h1:∀ l x,p l→p (l++[x])):p l:=by
 have key:∀ r:List α,p r.reverse:=fun r=>by
  induction r with
  |nil=>exact h0
  |cons a r ih=>rw [List.reverse_cons];exact h1 _ _ ih
 rw [← List.reverse_reverse l];exact key _
theorem Bq {α:Type} {lt : α → α→Bool} (l:List α):(c8 lt l).Perm l:=by
 refine G2 (p:=fun l=>(c8 lt l).Perm l) l (.refl _) fun l x ih=>?_
 rw [qo]
 exact I0.trans ((List.Perm.cons x ih).trans (List.perm_append_singleton x l).symm)
theorem jh {α:Type} {lt : α → α→Bool} {l:List α} {z : α}:z ∈ c8 lt l↔z ∈ l:=(Bq l).mem_iff
theorem dn {α:Type} {lt : α → α→Bool} (l:List α):(c8 lt l).length=l.length:=(Bq l).length_eq
theorem Eu {α:Type} {lt : α → α→Bool}:∀ (l r:List α),(dp lt l r).Perm (l++r)
 | [],r=>by rw [i3];exact .refl _
 |x::l,[]=>by rw [g8,List.append_nil]
 |x::l,y::r=>by
  rw [j6]
  cases lt y x with
  |true=>exact (List.Perm.cons y (Eu (x::l) r)).trans (List.perm_middle (l₁:=x::l)).symm
  |false=>exact List.Perm.cons x (Eu l (y::r))
termination_by l r=>l.length+r.length
theorem Qj {α:Type} {lt : α → α→Bool} (l r:List α):(dp lt l r).length=l.length+r.length:=by rw [(Eu l r).length_eq,List.length_append]
theorem s5.le_of_lt {α:Type} {lt : α → α→Bool} {V : α→Prop} (O:s5 lt V) {x y z : α} (hx:V x) (hy:V y) (hz:V z) (h:lt x y=true) (k:lt z y=false):lt z x=false:=O.trans x y z hx hy hz (O.S3 x y hx hy h) k
theorem Pk {α:Type} {lt : α → α→Bool} {V : α→Prop} (O:s5 lt V) {x : α} (hx:V x):∀ {l:List α},(∀ y ∈ l,V y)→gu lt l→gu lt (g5 lt x l)
 | [],_,_=>by simp [g5,gu]
 |y::l,hV,h=>by
  have h1:=List.pairwise_cons.1 h
  have hy:=hV y List.mem_cons_self
  have hl:∀ z ∈ l,V z:=fun z hz=>hV z (List.mem_cons_of_mem _ hz)
  rw [g5]
  cases e:lt x y with
  |true=>
   rw [cond_true]
   refine List.pairwise_cons.2 ⟨fun z hz=>?_,h⟩
   rcases List.mem_cons.1 hz with rfl|hz
   ·exact O.S3 _ _ hx hy e
   ·exact O.le_of_lt hx hy (hl z hz) e (h1.1 z hz)
  |false=>
   rw [cond_false]
   refine List.pairwise_cons.2 ⟨fun z hz=>?_,Pk O hx hl h1.2⟩
   rcases Gm.1 hz with rfl|hz
   ·exact e
   ·exact h1.1 z hz
theorem l6 {α:Type} {lt : α → α→Bool} {V : α→Prop} (O:s5 lt V) (l:List α) (hV:∀ y ∈ l,V y):gu lt (c8 lt l):=by
 revert hV
 refine G2 (p:=fun l=>(∀ y ∈ l,V y)→gu lt (c8 lt l)) l (fun _=>List.Pairwise.nil) fun l x ih hV=>?_
 rw [qo]
 exact Pk O (hV x (by simp)) (fun y hy=>hV y (by simp [jh.1 hy])) (ih fun y hy=>hV y (by simp [hy]))
theorem Ec {α:Type} {lt : α → α→Bool} {V : α→Prop} (O:s5 lt V) {x : α} (hx:V x):∀ (a b:List α),(∀ y ∈ a,V y)→(∀ y ∈ b,V y)→dp lt a (g5 lt x b)=g5 lt x (dp lt a b)
 | [],b,_,_=>by rw [i3,i3]
 |a::s,[],ha,hb=>by
  have ih:=Ec O hx s [] (fun y hy=>ha y (List.mem_cons_of_mem _ hy)) hb
  rw [g8] at ih ⊢
  rw [g5,j6,g5]
  cases lt x a with
  |true=>rw [cond_true,cond_true,g8]
  |false=>rw [cond_false,cond_false];rw [g5] at ih;rw [ih]
 |a::s,b::r,ha,hb=>by
  have va:=ha a List.mem_cons_self
  have vb:=hb b List.mem_cons_self
  have ih1:=Ec O hx s (b::r) (fun y hy=>ha y (List.mem_cons_of_mem _ hy)) hb
  have ih2:=Ec O hx (a::s) r ha (fun y hy=>hb y (List.mem_cons_of_mem _ hy))
  rw [j6]
  rw [g5] at ih1 ⊢
  cases e1:lt x b with
  |true=>
   rw [e1,cond_true] at ih1
   rw [cond_true,j6]
   cases e2:lt b a with
   |true=>
    have e3:lt x a=true:=by
     cases e3:lt x a with
     |true=>rfl
     |false=>
      have:=O.trans a x b va hx vb e3 (O.S3 _ _ hx vb e1)
      rw [e2] at this;cases this
    rw [e3,cond_true,cond_true,g5,e1,cond_true,j6,e2,cond_true]
   |false=>
    rw [cond_false,g5]
    cases e3:lt x a with
    |true=>rw [cond_true,cond_true,j6,e2,cond_false]
    |false=>rw [cond_false,cond_false,ih1]
  |false=>
   rw [e1,cond_false] at ih1
   rw [cond_false,j6]
   cases e2:lt b a with
   |true=>rw [cond_true,cond_true,g5,e1,cond_false,ih2]
   |false=>
    have e3:=O.trans a b x va vb hx e2 e1
    rw [cond_false,cond_false,g5,e3,cond_false,ih1]
termination_by a b=>a.length+b.length
theorem Bt {α:Type} {lt : α → α→Bool} {V : α→Prop} (O:s5 lt V) (a b:List α) (ha:∀ y ∈ a,V y) (hb:∀ y ∈ b,V y):dp lt (c8 lt a) (c8 lt b)=c8 lt (a++b):=by
 revert hb
 refine G2 (p:=fun b=>(∀ y ∈ b,V y)→dp lt (c8 lt a) (c8 lt b)=c8 lt (a++b)) b (fun _=>by rw [Va,g8,List.append_nil]) fun b x ih hb=>?_
 rw [qo,← List.append_assoc,qo,Ec O (hb x (by simp)) _ _ (fun y hy=>ha y (jh.1 hy)) (fun y hy=>hb y (by simp [jh.1 hy])),ih fun y hy=>hb y (by simp [hy])]
theorem Fs {α:Type} {lt : α → α→Bool} {x : α}:∀ (A B:List α),(∀ y ∈ A,lt x y=false)→(∀ y ∈ B.head?,lt x y=true)→g5 lt x (A++B)=A++x::B
 | [],[],_,_=>rfl
 | [],b::B,_,h=>by rw [List.nil_append,g5,h b rfl];rfl
 |a::A,B,h,h2=>by rw [List.cons_append,g5,h a List.mem_cons_self,cond_false,Fs A B (fun y hy=>h y (List.mem_cons_of_mem _ hy)) h2];rfl
theorem T8 {α:Type} {lt : α → α→Bool} {l:List α} (h:gu lt l):c8 lt l=l:=by
 revert h
 refine G2 (p:=fun l=>gu lt l→c8 lt l=l) l (fun _=>rfl) fun l x ih h=>?_
 have h1:=List.pairwise_append.1 h
 rw [qo,ih h1.1]
 have:=Fs (lt:=lt) (x:=x) l [] (fun y hy=>h1.2.2 y hy x (by simp)) (fun y hy=>by cases hy)
 rw [List.append_nil] at this
 exact this
theorem nr {α:Type} {lt : α → α→Bool}:∀ (A B C D:List α),(∀ x ∈ A,∀ y ∈ D,lt y x=false)→(∀ x ∈ B,∀ y ∈ C,lt y x=true)→dp lt (A++B) (C++D)=dp lt A C++dp lt B D
 | [],B,[],D,_,_=>by rw [i3];rfl
 | [],[],c::C,D,_,_=>by rw [List.append_nil,i3,i3,i3]
 | [],b::B,c::C,D,h1,h2=>by
  have ih:=nr [] (b::B) C D (by simp) (fun x hx y hy=>h2 x hx y (List.mem_cons_of_mem _ hy))
  rw [List.nil_append,List.cons_append,j6,h2 b List.mem_cons_self c List.mem_cons_self,cond_true,i3]
  rw [List.nil_append,i3] at ih
  rw [ih];rfl
 |a::A,B,[],[],_,_=>by rw [List.append_nil,g8,g8,g8]
 |a::A,B,[],d::D,h1,h2=>by
  have ih:=nr A B [] (d::D) (fun x hx=>h1 x (List.mem_cons_of_mem _ hx)) (by simp)
  rw [List.nil_append,g8] at ih ⊢
  rw [List.cons_append,j6,h1 a List.mem_cons_self d List.mem_cons_self,cond_false,ih];rfl
 |a::A,B,c::C,D,h1,h2=>by
  have ih1:=nr A B (c::C) D (fun x hx=>h1 x (List.mem_cons_of_mem _ hx)) h2
  have ih2:=nr (a::A) B C D h1 (fun x hx y hy=>h2 x hx y (List.mem_cons_of_mem _ hy))
  rw [List.cons_append,List.cons_append,j6,j6]
  cases lt c a with
  |true=>rw [cond_true,cond_true];rw [List.cons_append] at ih2;rw [ih2];rfl
  |false=>rw [cond_false,cond_false];rw [List.cons_append] at ih1;rw [ih1];rfl
termination_by A _ C _=>A.length+C.length
theorem Ju {α:Type} {lt : α → α→Bool} {V : α→Prop} (O:s5 lt V) {A:List α} {x y : α} {D:List α} (hA:∀ z ∈ A++[x],V z) (hD:∀ z ∈ y::D,V z) (h1:gu lt (A++[x])) (h2:gu lt (y::D)) (h:lt y x=false):∀ a ∈ A++[x],∀ d ∈ y::D,lt d a=false:=by
 have k1:=List.pairwise_append.1 h1
 have k2:=List.pairwise_cons.1 h2
 intro a ha d hd
 have vx:=hA x (by simp)
 have vy:=hD y (by simp)
 have e1:lt y a=false:=by
  rcases List.mem_append.1 ha with q|q
  ·exact O.trans a x y (hA a ha) vx vy (k1.2.2 a q x (by simp)) h
  ·simp at q;subst q;exact h
 rcases List.mem_cons.1 hd with rfl|q
 ·exact e1
 ·exact O.trans a y d (hA a ha) vy (hD d hd) e1 (k2.1 d q)
theorem G7 {α:Type} {lt : α → α→Bool} {V : α→Prop} (O:s5 lt V) {B:List α} {x y : α} {C:List α} (hB:∀ z ∈ x::B,V z) (hC:∀ z ∈ C++[y],V z) (h1:gu lt (x::B)) (h2:gu lt (C++[y])) (h:lt y x=true):∀ b ∈ x::B,∀ c ∈ C++[y],lt c b=true:=by
 have k1:=List.pairwise_cons.1 h1
 have k2:=List.pairwise_append.1 h2
 intro b hb c hc
 have vx:=hB x (by simp)
 have vy:=hC y (by simp)
 cases e:lt c b with
 |true=>rfl
 |false=>
  have e1:lt y b=false:=by
   rcases List.mem_append.1 hc with q|q
   ·exact O.trans b c y (hB b hb) (hC c hc) vy e (k2.2.2 c q y (by simp))
   ·simp at q;subst q;exact e
  have e2:lt y x=false:=by
   rcases List.mem_cons.1 hb with rfl|q
   ·exact e1
   ·exact O.trans x b y vx (hB b hb) vy (k1.1 b q) e1
  rw [h] at e2;cases e2
end Go.Vm
section
namespace Go.Proofs.YtldcaajoheeipaaGreat
open Go.Vm
set_option maxRecDepth 2000000
theorem C7 {α:Type} (c:Bool) (x : α):(bif c then x else x)=x:=by cases c<;>rfl
theorem ox {α:Type} (X Y:List α) (p q : α):(X++p::Y).set X.length q=X++q::Y:=by
 rw [List.set_append];simp
theorem get_at {α:Type} (X Y:List α) (p : α):(X++p::Y)[X.length]? = some p:=by
 rw [List.getElem?_append_right (Nat.le_refl _),Nat.sub_self];rfl
theorem ab2 {α:Type} (C:cr α) {xs:List α} {i:Nat} {c : α} (hc:xs[i]? = some c):((cellsOf C true xs).drop (i * C.sz)).take C.sz=C.cells true c∧C.sz≤((cellsOf C true xs).drop (i * C.sz)).length:=by
 obtain ⟨hi,rfl⟩:=List.getElem?_eq_some_iff.1 hc
 rw [Kr,List.drop_eq_getElem_cons hi,Is]
 refine ⟨by rw [← C.len true xs[i],List.take_left],by rw [List.length_append,C.len];omega⟩
theorem Wd {α:Type} (C:cr α) {xs:List α} {i:Nat} {c : α} (y : α) (k:Nat) (et:TypeId) (id:Nat) (hc:xs[i]? = some c) :
 su id (i * C.sz) C.sz (C.cells true y) (.row (cellsOf C true xs) 0 k et)=(ia id (.row (cellsOf C true (xs.set i y)) 0 k et)).bind fun _=>.pure (.sc undef):=by
 obtain ⟨hi,rfl⟩:=List.getElem?_eq_some_iff.1 hc
 have hl:(cellsOf C true xs).length=xs.length * C.sz:=vw C true xs
 have h1:(cellsOf C true xs).take (i * C.sz)=cellsOf C true (xs.take i):=aax C true xs i
 have h3:(cellsOf C true xs).drop (i * C.sz+C.sz)=cellsOf C true (xs.drop (i+1)):=by
  rw [show i * C.sz+C.sz=(i+1) * C.sz by rw [Nat.succ_mul],Kr]
 have hlt:i * C.sz+C.sz≤xs.length * C.sz:=by rw [← Nat.succ_mul];exact Nat.mul_le_mul_right _ hi
 have h4:(cellsOf C true xs).take (i * C.sz)++C.cells true y++(cellsOf C true xs).drop (i * C.sz+C.sz)=cellsOf C true (xs.set i y):=by
  rw [h1,h3,List.set_eq_take_append_cons_drop,if_pos hi,Ew,Is,List.append_assoc]
 have hone:(C.cells true y).all AV.one=true:=akt C true y
 have hb:Nat.beq (C.cells true y).length C.sz=true:=by rw [C.len];exact Nat.beq_refl _
 unfold su
 simp only [hl,Nat.ble_eq_true_of_le hlt,h4,hone,hb]
 rfl
theorem kb {xs:List ba} {i:Nat} {c:ba} (k st et) (hc:xs[i]? = some c):rj PP 33 (i * 5) (.row (cellsOf aj true xs) k st et) = .pure (aj.val true c):=by
 have h:=ab2 aj hc
 have h1:mb PP 33=some true:=by kernel_rfl
 have h2:c9 PP 33=some 5:=by kernel_rfl
 have h3:((cellsOf aj true xs).drop (i * 5)).take 5=aj.cells true c:=h.1
 have h4:Nat.ble 5 ((cellsOf aj true xs).drop (i * 5)).length=true:=Nat.ble_eq_true_of_le h.2
 unfold rj oj
 simp only [h1,h2,h3,h4,cond_true]
 rfl
theorem sf {xs:List ba} {i:Nat} {c:ba} (y:ba) (k:Nat) (et:TypeId) (id:Nat) (hc:xs[i]? = some c) :
 su id (i * 5) 5 [.vl true 1 (y.owner.map (ak.val false)),.sc (.int .u16 y.type.toNat),.sc (.int .u16 y.cls.toNat),.sc (.int .u32 y.ff.toNat),.vl true 4 (y.data.map (aq.val true))] (.row (cellsOf aj true xs) 0 k et)=(ia id (.row (cellsOf aj true (xs.set i y)) 0 k et)).bind fun _=>.pure (.sc undef):=
 Wd aj y k et id hc
theorem jn {xs:List bq} {i:Nat} {c:bq} (k st et) (hc:xs[i]? = some c):rj PP 71 (i * 4) (.row (cellsOf aq true xs) k st et) = .pure (aq.val true c):=by
 have h:=ab2 aq hc
 have h1:mb PP 71=some true:=by kernel_rfl
 have h2:c9 PP 71=some 4:=by kernel_rfl
 have h3:((cellsOf aq true xs).drop (i * 4)).take 4=aq.cells true c:=h.1
 have h4:Nat.ble 4 ((cellsOf aq true xs).drop (i * 4)).length=true:=Nat.ble_eq_true_of_le h.2
 unfold rj oj
 simp only [h1,h2,h3,h4,cond_true]
 rfl
theorem qk {xs:List bq} {i:Nat} {c:bq} (y:bq) (k:Nat) (et:TypeId) (id:Nat) (hc:xs[i]? = some c) :
 su id (i * 4) 4 [.vl true 1 (y.names.map (aw.val true)),.vl true 1 (y.nums.map (c0.val false)),.vl true 1 (y.texts.map (ak.val false)),.vl true 1 (y.raw.map (bu.val false))] (.row (cellsOf aq true xs) 0 k et)=(ia id (.row (cellsOf aq true (xs.set i y)) 0 k et)).bind fun _=>.pure (.sc undef):=
 Wd aq y k et id hc
theorem dq {P:Program} {f:Nat} {args:List AV} {st:St} {R0 R:AV→St→Prop} (h1:gp P f args st R0) (h2:∀ r st',R0 r st'→R r st'):gp P f args st R:=by
 intro g w vs hok hfr hrel
 rcases h1 g w vs hok hfr hrel with ⟨v,w',g',r,st',q1,q2,q3⟩|⟨q1,q2⟩
 ·exact .inl ⟨v,w',g',r,st',q1,h2 _ _ q2,q3⟩
 ·refine .inr ⟨q1,q2.mono ?_⟩
  rintro e w' ⟨v,g',r,st',rfl,q2,q3⟩
  exact ⟨v,g',r,st',rfl,h2 _ _ q2,q3⟩
end Go.Proofs.YtldcaajoheeipaaGreat
end
section
namespace Go.Proofs.YtldcaajoheeipaaGreat
open Go.Vm
theorem age:∀ a:List UInt8,Lib.compareBytes a a=0
 | []=>rfl
 |a::r=>by rw [Lib.compareBytes,if_neg (UInt8.lt_irrefl a),if_neg (UInt8.lt_irrefl a)];exact age r
theorem Te:∀ a b:List UInt8,Lib.compareBytes a b=0→a=b
 | [],[],_=>rfl
 | [],_::_,h=>by cases h
 |_::_,[],h=>by cases h
 |a::r,b::q,h=>by
  rw [Lib.compareBytes] at h
  split at h
  ·cases h
  ·rename_i h1
   split at h
   ·cases h
   ·rename_i h2
    rw [UInt8.lt_iff_toNat_lt] at h1 h2
    rw [UInt8.toNat_inj.1 (show a.toNat=b.toNat by omega),Te r q h]
theorem Nr:∀ a b c:List UInt8,Lib.compareBytes a b<0→Lib.compareBytes b c<0→Lib.compareBytes a c<0
 |_,[],[],_,h=>by cases h
 |_,_::_,[],_,h=>by cases h
 | [],_,_::_,_,_=>by show (-1:Int)<0;decide
 |_::_,[],_::_,h,_=>by cases h
 |a::r,b::q,c::p,h1,h2=>by
  have ih:=Nr r q p
  rw [Lib.compareBytes] at h1 h2 ⊢
  simp only [UInt8.lt_iff_toNat_lt] at h1 h2 ⊢
  split at h1
  ·split at h2
   ·rw [if_pos (by omega)];decide
   ·split at h2
    ·cases h2
    ·rw [if_pos (by omega)];decide
  ·split at h1
   ·cases h1
   ·split at h2
    ·rw [if_pos (by omega)];decide
    ·split at h2
     ·cases h2
     ·rw [if_neg (by omega),if_neg (by omega)];exact ih h1 h2
theorem F8:∀ a b:List UInt8,Lib.compareBytes a b = - Lib.compareBytes b a
 | [],[]=>rfl
 | [],_::_=>rfl
 |_::_,[]=>rfl
 |a::r,b::q=>by
  have ih:=F8 r q
  rw [Lib.compareBytes,Lib.compareBytes]
  simp only [UInt8.lt_iff_toNat_lt]
  by_cases h1:a.toNat<b.toNat
  ·rw [if_pos h1,if_neg (show ¬ b.toNat<a.toNat by omega),if_pos h1]
  ·by_cases h2:b.toNat<a.toNat
   ·rw [if_neg h1,if_pos h2,if_pos h2];rfl
   ·rw [if_neg h1,if_neg h2,if_neg h2,if_neg h1];exact ih
theorem akn (a:ByteArray):zw a a=0:=age _
theorem aj7 {a b:ByteArray} (h:zw a b=0):a=b:=by
 have:=Te _ _ h
 obtain ⟨⟨a⟩⟩:=a
 obtain ⟨⟨b⟩⟩:=b
 simp only at this
 rw [this]
noncomputable def m6:List ByteArray→List ByteArray→Int
 | [],[]=>0
 | [],_::_=>-1
 |_::_,[]=>1
 |a::r,b::q=>if a=b then m6 r q else zw a b
theorem V9:∀ r q:List ByteArray,m6 r q=0↔r=q
 | [],[]=>by simp [m6]
 | [],_::_=>by simp [m6]
 |_::_,[]=>by simp [m6]
 |a::r,b::q=>by
  rw [m6]
  split
  ·rename_i h;rw [V9 r q,h];simp
  ·rename_i h
   constructor
   ·intro e;exact (h (aj7 e)).elim
   ·intro e;exact (h (List.cons.inj e).1).elim
theorem Sy:∀ r q p:List ByteArray,m6 r q<0→m6 q p<0→m6 r p<0
 |_,[],[],_,h=>by rw [m6] at h;cases h
 |_,_::_,[],_,h=>by rw [m6] at h;cases h
 | [],_,_::_,_,_=>by rw [m6];decide
 |_::_,[],_::_,h,_=>by rw [m6] at h;cases h
 |a::r,b::q,c::p,h1,h2=>by
  have ih:=Sy r q p
  rw [m6] at h1 h2 ⊢
  by_cases e1:a=b
  ·subst e1
   rw [if_pos rfl] at h1
   by_cases e2:a=c
   ·rw [if_pos e2] at h2 ⊢;exact ih h1 h2
   ·rw [if_neg e2] at h2 ⊢;exact h2
  ·rw [if_neg e1] at h1
   by_cases e2:b=c
   ·subst e2
    rw [if_neg e1];exact h1
   ·rw [if_neg e2] at h2
    have h3:zw a c<0:=Nr _ _ _ h1 h2
    rw [if_neg (fun e=>by rw [e,akn] at h3;cases h3)];exact h3
theorem Uo:∀ r q:List ByteArray,m6 r q = - m6 q r
 | [],[]=>by simp [m6]
 | [],_::_=>by simp [m6]
 |_::_,[]=>by simp [m6]
 |a::r,b::q=>by
  rw [m6,m6]
  by_cases e:a=b
  ·rw [if_pos e,if_pos e.symm];exact Uo r q
  ·rw [if_neg e,if_neg (fun q=>e q.symm)];exact F8 _ _
theorem aap:∀ r q:List ByteArray,(if ec r q=r.length∧ec r q=q.length then (0:Int) else if ec r q=r.length then -1 else if ec r q=q.length then 1 else
 match r[ec r q]?,q[ec r q]? with|some x,some y=>zw (fold x) (fold y)|_,_=>0)=m6 (r.map fold) (q.map fold)
 | [],[]=>by simp [ec,m6]
 | [],_::_=>by simp [ec,m6]
 |_::_,[]=>by simp [ec,m6]
 |a::r,b::q=>by
  have ih:=aap r q
  rw [List.map_cons,List.map_cons,m6]
  by_cases e:fold a=fold b
  ·rw [if_pos e,← ih]
   have hc:ec (a::r) (b::q)=ec r q+1:=by rw [ec,if_pos e]
   simp only [hc,List.length_cons,Nat.add_right_cancel_iff,List.getElem?_cons_succ]
  ·rw [if_neg e]
   have hc:ec (a::r) (b::q)=0:=by rw [ec,if_neg e]
   simp only [hc,List.length_cons,List.getElem?_cons_zero]
   rw [if_neg (by omega),if_neg (by omega),if_neg (by omega)]
theorem Al (a b:Name):n6 a b=m6 (g6 a).reverse (g6 b).reverse:=by
 have h:=aap a.reverse b.reverse
 rw [List.map_reverse,List.map_reverse,List.length_reverse,List.length_reverse] at h
 unfold n6
 change _=m6 (a.map fold).reverse (b.map fold).reverse
 rw [← h]
 have hk:common a b=ec a.reverse b.reverse:=rfl
 rw [hk]
 by_cases h1:ec a.reverse b.reverse=a.length∧ec a.reverse b.reverse=b.length
 ·rw [if_pos h1,if_pos h1]
 rw [if_neg h1,if_neg h1]
 by_cases h2:ec a.reverse b.reverse=a.length
 ·rw [if_pos h2,if_pos h2]
 rw [if_neg h2,if_neg h2]
 by_cases h3:ec a.reverse b.reverse=b.length
 ·rw [if_pos h3,if_pos h3]
 rw [if_neg h3,if_neg h3]
 have l1:=Dg a.reverse b.reverse
 have l2:=Ge a.reverse b.reverse
 rw [List.length_reverse] at l1 l2
 unfold ag6
 rw [List.getElem?_reverse (by omega),List.getElem?_reverse (by omega)]
 rfl
theorem uj {a b:Name}:n6 a b=0↔fu a b=true:=by
 rw [Al,V9,mw]
 constructor
 ·intro h;have:=congrArg List.reverse h;simpa using this
 ·intro h;rw [h]
theorem Ha {a b c:Name} (h:fu b c=true):n6 a b=n6 a c:=by rw [Al,Al,mw.1 h]
theorem Mq {a b c:Name} (h:fu a b=true):n6 a c=n6 b c:=by rw [Al,Al,mw.1 h]
theorem P5 {a b c:Name} (h1:n6 a b<0) (h2:n6 b c<0):n6 a c<0:=by rw [Al] at *;exact Sy _ _ _ h1 h2
theorem D9 (a b:Name):n6 a b = - n6 b a:=by rw [Al,Al];exact Uo _ _
theorem af3 {a b:UInt16}:rn a b<0↔a.toNat<b.toNat:=by
 unfold rn
 split
 ·constructor<;>intro<;>omega
 ·split<;>constructor<;>intro<;>omega
theorem Mc {a b:ba}:rk a b<0↔n6 a.owner b.owner<0∨(fu a.owner b.owner=true∧a.type.toNat<b.type.toNat):=by
 unfold rk
 rw [Bn]
 by_cases h:n6 a.owner b.owner=0
 ·rw [if_neg (fun q=>q h),Bn,← uj]
  by_cases h2:rn a.type b.type=0
  ·rw [if_neg (fun q=>q h2),Bn,← af3,h,h2];simp
  ·rw [if_pos h2,af3,h];simp
 ·rw [if_pos h,← uj];simp [h]
theorem aha {a b c:ba} (h1:rk a b<0) (h2:rk b c<0):rk a c<0:=by
 rw [Mc] at *
 rcases h1 with h1|⟨h1,t1⟩<;>rcases h2 with h2|⟨h2,t2⟩
 ·exact .inl (P5 h1 h2)
 ·exact .inl (by rw [← Ha h2];exact h1)
 ·exact .inl (by rw [Mq h1];exact h2)
 ·exact .inr ⟨mw.2 ((mw.1 h1).trans (mw.1 h2)),by omega⟩
theorem ad5 {z:ca} (hg:aps z):z.ai.Pairwise fun a b=>rk a b<0:=by
 rw [List.pairwise_iff_getElem]
 have step:∀ (i:Nat) (h:i+1<z.ai.length),rk z.ai[i] z.ai[i+1]<0:=fun i h=>by
  have:=hg.apn (i+1) z.ai[i+1] (List.getElem?_eq_getElem h)
  unfold js at this
  simp only [List.getElem?_eq_getElem (show i<z.ai.length by omega),Bool.and_eq_true,decide_eq_true_eq] at this
  omega
 intro i j hi hj hij
 induction j with
 |zero=>omega
 |succ j ih=>
  by_cases e:i=j
  ·subst e;exact step i hj
  ·exact aha (ih (by omega) (by omega)) (step j hj)
end Go.Proofs.YtldcaajoheeipaaGreat
end
namespace Go.Vm
def iw {α:Type} (lt : α → α→Bool) (k:Nat) (l:List α):List α:=
 if h:l.length≤k∨k=0 then c8 lt l else c8 lt (l.take k)++iw lt k (l.drop k)
termination_by l.length
decreasing_by simp at *;omega
theorem n7 {α:Type} {lt : α → α→Bool} {k:Nat} {l:List α} (h:l.length≤k):iw lt k l=c8 lt l:=by rw [iw,dif_pos (.inl h)]
theorem yd {α:Type} {lt : α → α→Bool} {k:Nat} {l:List α} (hk : 0<k) (h:k≤l.length):iw lt k l=c8 lt (l.take k)++iw lt k (l.drop k):=by
 by_cases e:l.length≤k
 ·have h1:l.take k=l:=List.take_of_length_le e
  have h2:l.drop k=[]:=List.drop_eq_nil_of_le e
  rw [h1,h2,n7 e,n7 (Nat.zero_le _),Va,List.append_nil]
 ·rw [iw,dif_neg (by omega)]
theorem agb {α:Type} {lt : α → α→Bool} {k:Nat} {l:List α} (hk : 0<k) (h:k+k≤l.length):iw lt k l=c8 lt (l.take k)++(c8 lt ((l.drop k).take k)++iw lt k (l.drop (k+k))):=by
 rw [yd hk (by omega),yd (l:=l.drop k) hk (by rw [List.length_drop];omega),List.drop_drop]
theorem acg {α:Type} {lt : α → α→Bool} {k:Nat} {l:List α} (hk : 0<k) (h:k<l.length) (h2:l.length≤k+k):iw lt k l=c8 lt (l.take k)++c8 lt (l.drop k):=by
 rw [yd hk (by omega),n7 (l:=l.drop k) (by rw [List.length_drop];omega)]
theorem acf {α:Type} {k:Nat} (l:List α):l.take k++(l.drop k).take k=l.take (k+k):=by rw [List.take_add]
theorem aun {α:Type} {lt : α → α→Bool} {k:Nat} {z : α} (hk : 0<k) (n:Nat):∀ l:List α,l.length≤n→(z ∈ iw lt k l↔z ∈ l):=by
 induction n with
 |zero=>intro l h;rw [n7 (by omega),jh]
 |succ n ih=>
  intro l h
  by_cases e:l.length≤k
  ·rw [n7 e,jh]
  ·rw [yd hk (by omega),List.mem_append,jh,ih _ (by rw [List.length_drop];omega),← List.mem_append,List.take_append_drop]
theorem af2 {α:Type} {lt : α → α→Bool} {k:Nat} (hk : 0<k) (n:Nat):∀ l:List α,l.length≤n→(iw lt k l).length=l.length:=by
 induction n with
 |zero=>intro l h;rw [n7 (by omega),dn]
 |succ n ih=>
  intro l h
  by_cases e:l.length≤k
  ·rw [n7 e,dn]
  ·rw [yd hk (by omega),List.length_append,dn,ih _ (by rw [List.length_drop];omega),← List.length_append,List.take_append_drop]
theorem aij {α:Type} {lt : α → α→Bool} {V : α→Prop} (O:s5 lt V) {A:List α} {x y : α} (hA:∀ z ∈ A++[x],V z) (hy:V y) (h:gu lt (A++[x])) (e:lt y x=false):∀ a ∈ A++[x],lt y a=false:=
 fun a ha=>Ju O (D:=[]) hA (by simpa using hy) h (by simp [gu]) e a ha y (by simp)
theorem iq {α:Type} {l:List α} {i:Nat} {c : α} (h:l[i]? = some c):l.take (i+1)=l.take i++[c]:=by rw [List.take_add_one,h];rfl
theorem lj {α:Type} {l:List α} {i:Nat} {c : α} (h:l[i]? = some c):l.drop i=c::l.drop (i+1):=by
 obtain ⟨_,rfl⟩:=List.getElem?_eq_some_iff.1 h;exact List.drop_eq_getElem_cons _
theorem gu.take {α:Type} {lt : α → α→Bool} {l:List α} (h:gu lt l) (i:Nat):gu lt (l.take i):=List.Pairwise.sublist (List.take_sublist i l) h
theorem gu.drop {α:Type} {lt : α → α→Bool} {l:List α} (h:gu lt l) (i:Nat):gu lt (l.drop i):=List.Pairwise.sublist (List.drop_sublist i l) h
theorem Dr {α:Type} {lt : α → α→Bool} {V : α→Prop} (O:s5 lt V) {l:List α} (hl:∀ z ∈ l,V z) (h:gu lt l) {y : α} (hy:V y) {i:Nat} (hi:i≤l.length) (e:∀ c,0<i→l[i - 1]? = some c→lt y c=false):∀ a ∈ l.take i,lt y a=false:=by
 cases i with
 |zero=>intro a ha;simp at ha
 |succ i=>
  have hc:l[i]? = some l[i]:=List.getElem?_eq_getElem (by omega)
  have h1:=iq hc
  intro a ha
  rw [h1] at ha
  exact aij O (fun z hz=>hl z (List.mem_of_mem_take (i:=i+1) (by rw [h1];exact hz))) hy (by rw [← h1];exact h.take _) (e _ (by omega) hc) a ha
theorem Ul {α:Type} {lt : α → α→Bool} {V : α→Prop} (O:s5 lt V) {l:List α} (hl:∀ z ∈ l,V z) (h:gu lt l) {y : α} (hy:V y) {i:Nat} (e:∀ c,l[i]? = some c→lt y c=true):∀ a ∈ l.drop i,lt y a=true:=by
 intro a ha
 by_cases hi:i<l.length
 ·have hc:l[i]? = some l[i]:=List.getElem?_eq_getElem hi
  have h1:=lj hc
  rw [h1] at ha
  exact G7 O (C:=[]) (y:=y) (x:=l[i]) (B:=l.drop (i+1)) (fun z hz=>hl z (List.mem_of_mem_drop (i:=i) (by rw [h1];exact hz))) (by simpa using hy) (by rw [← h1];exact h.drop _) (by simp [gu]) (e _ hc) a ha y (by simp)
 ·rw [List.drop_eq_nil_of_le (by omega)] at ha;cases ha
theorem Wn {α:Type} {lt : α → α→Bool} {V : α→Prop} (O:s5 lt V) {l:List α} (hl:∀ z ∈ l,V z) (h:gu lt l) {x : α} (hx:V x) {i:Nat} (hi:i≤l.length) (e:∀ c,0<i→l[i - 1]? = some c→lt c x=true):∀ a ∈ l.take i,lt a x=true:=by
 cases i with
 |zero=>intro a ha;simp at ha
 |succ i=>
  have hc:l[i]? = some l[i]:=List.getElem?_eq_getElem (by omega)
  have h1:=iq hc
  intro a ha
  rw [h1] at ha
  exact G7 O (B:=[]) (x:=x) (C:=l.take i) (y:=l[i]) (by simpa using hx) (fun z hz=>hl z (List.mem_of_mem_take (i:=i+1) (by rw [h1];exact hz))) (by simp [gu]) (by rw [← h1];exact h.take _) (e _ (by omega) hc) x (by simp) a ha
theorem V2 {α:Type} {lt : α → α→Bool} {x : α} {l:List α} {i:Nat} (h1:∀ a ∈ l.take i,lt a x=true) (h2:∀ c,l[i]? = some c→lt c x=false):dp lt [x] l=l.take i++x::l.drop i:=by
 have:=nr (lt:=lt) [] [x] (l.take i) (l.drop i) (by simp) (fun z hz y hy=>by simp at hz;subst hz;exact h1 y hy)
 rw [List.take_append_drop,List.nil_append,i3] at this
 rw [this]
 congr 1
 cases hd:l.drop i with
 |nil=>rw [g8]
 |cons c r=>
  have hc:l[i]? = some c:=by rw [← List.head?_drop,hd];rfl
  rw [j6,h2 c hc,cond_false,i3]
theorem Qc {α:Type} {lt : α → α→Bool} {y : α} {l:List α} {i:Nat} (h1:∀ a ∈ l.take i,lt y a=false) (h2:∀ a ∈ l.drop i,lt y a=true):dp lt l [y]=l.take i++y::l.drop i:=by
 have:=nr (lt:=lt) (l.take i) (l.drop i) [y] [] (by simp) (fun z hz u hu=>by simp at hu;subst hu;exact h2 z hz)
 rw [List.take_append_drop,List.append_nil,g8] at this
 rw [this]
 have h3:=nr (lt:=lt) (l.take i) [] [] [y] (fun z hz u hu=>by simp at hu;subst hu;exact h1 z hz) (by simp)
 rw [List.append_nil,List.nil_append,g8,i3] at h3
 rw [h3,List.append_assoc];rfl
end Go.Vm
section
namespace Go.Proofs.YtldcaajoheeipaaGreat
open Go.Vm
set_option maxRecDepth 2000000
theorem ajw (t:UInt16):wl PP [] 0 (Tryz.f89.body.getD .skip) (dv PP Tryz.f89.results.toList (fun r st=>(r1 bo).get true st.h r=some false)) (b9 0 [cw.val false t]) (bj []):=by
 unfold Tryz.f89
 simp only [↓wR,RA,simprocAttr,TF,ae,bne_self_eq_false]
noncomputable def T0 (x:UInt16 × Unit):Option AV:=some ((r1 bo).E true (false))
set_option maxRecDepth 2000000 in
theorem ads (x:UInt16 × Unit) (r:AV) (h:T0 x=some r):br PP 89 ((aC cw a0).E x) r:=by
 cases h
 exact bb (an.nil PP) Tryz.func89 (by kernel_rfl) (by kernel_rfl) (by kernel_rfl) (Nat.le_of_ble_eq_true (by kernel_rfl)) (r1 bo) true (false) (ajw x.1)
noncomputable abbrev asw:Nat × Bool × (List AV→M AV):=(89,true,dh (aC cw a0) T0)
theorem aqg (a b:UInt16):wl PP [asw] 0 (Tryz.f68.body.getD .skip) (dv PP Tryz.f68.results.toList (fun r st=>(r1 (bk .i64)).get true st.h r=some (rn a b))) (b9 0 [cw.val false a,cw.val false b]) (bj []):=by
 unfold Tryz.f68
 unfold rn
 simp only [↓wR,RA,simprocAttr,TF,ae,T0]
 rw [bc];refine ⟨fun h=>?_,fun h=>?_⟩
 ·rw [if_pos h]
  simp only [↓wR,RA,simprocAttr,TF,ae,h]
 ·rw [if_neg h]
  simp only [↓wR,RA,simprocAttr,TF,ae,h]
  rw [bc];refine ⟨fun h2=>?_,fun h2=>?_⟩
  ·rw [if_pos h2]
   simp only [↓wR,RA,simprocAttr,TF,ae,h2]
  ·rw [if_neg h2]
   simp only [↓wR,RA,simprocAttr,TF,ae,h2]
noncomputable def acx (x:UInt16 × UInt16 × Unit):Option AV:=some ((r1 (bk .i64)).E true (rn x.1 x.2.1))
set_option maxRecDepth 2000000 in
theorem aiv (x:UInt16 × UInt16 × Unit) (r:AV) (h:acx x=some r):br PP 68 ((aC cw (aC cw a0)).E x) r:=by
 cases h
 exact bb (an.cons (ar ads) (an.nil PP)) Tryz.func68 (by kernel_rfl) (by kernel_rfl) (by kernel_rfl) (Nat.le_of_ble_eq_true (by kernel_rfl)) (r1 (bk .i64)) true (rn x.1 x.2.1) (aqg x.1 x.2.1)
noncomputable abbrev att:Nat × Bool × (List AV→M AV):=(68,true,dh (aC cw (aC cw a0)) acx)
noncomputable def D6 (a b:ba):Int:=Bn [n6 a.owner b.owner,rn a.type b.type,rn a.cls b.cls]
theorem aeb (a b:ba) (ha:ct a) (hb:ct b):wl PP [M3,ao9,att,orC] 0 (Tryz.f67.body.getD .skip) (dv PP Tryz.f67.results.toList (fun r st=>(r1 (bk .i64)).get true st.h r=some (D6 a b))) (b9 0 [aj.val false a,aj.val false b]) (bj []):=by
 have hq:∀ a b c d,dj a b c=d→dj a b c=d:=fun _ _ _ _ h=>h
 unfold Tryz.f67
 simp only [ij]
 simp only [↓wR,RA,simprocAttr,TF,ae]
 refine ⟨by kernel_rfl,.inl ?_⟩
 simp only [↓wR,RA,simprocAttr,TF,ae,re,Ox,acx,S8,ha.owner,hb.owner]
 exact ⟨by apply hq;kernel_rfl,rfl⟩
noncomputable def ko (x:ba × ba × Unit):Option AV:=if ct x.1∧ct x.2.1 then some ((r1 (bk .i64)).E true (D6 x.1 x.2.1)) else none
set_option maxRecDepth 2000000 in
theorem Hr (x:ba × ba × Unit) (r:AV) (h:ko x=some r):br PP 67 ((aC aj (aC aj a0)).E x) r:=by
 by_cases hc:ct x.1∧ct x.2.1
 case neg=>simp only [ko,if_neg hc] at h;cases h
 simp only [ko,if_pos hc] at h
 cases h
 exact bb (an.cons (ar Cr) (an.cons (ar Qo) (an.cons (ar aiv) (an.cons (ar Yx) (an.nil PP))))) Tryz.func67 (by kernel_rfl) (by kernel_rfl) (by kernel_rfl) (Nat.le_of_ble_eq_true (by kernel_rfl)) (r1 (bk .i64)) true (D6 x.1 x.2.1) (aeb x.1 x.2.1 hc.1 hc.2)
noncomputable abbrev aa9:Nat × Bool × (List AV→M AV):=(67,true,dh (aC aj (aC aj a0)) ko)
noncomputable def dk (a b:ba):Bool:=decide (D6 a b<0)
theorem Ig {a b:UInt16}:rn a b=0↔a.toNat=b.toNat:=by
 unfold rn;split
 ·constructor<;>intro h<;>omega
 ·split<;>constructor<;>intro h<;>omega
theorem ab1 {a b:UInt16}:rn a b<0↔a.toNat<b.toNat:=by
 unfold rn;split
 ·constructor<;>intro h<;>omega
 ·split<;>constructor<;>intro h<;>omega
theorem aie {a b:ba}:D6 a b<0↔n6 a.owner b.owner<0∨(fu a.owner b.owner=true∧(a.type.toNat<b.type.toNat∨(a.type.toNat=b.type.toNat∧a.cls.toNat<b.cls.toNat))):=by
 unfold D6 Bn
 by_cases h:n6 a.owner b.owner=0
 ·rw [if_neg (fun q=>q h)]
  have hs:=uj.1 h
  unfold Bn
  by_cases h2:rn a.type b.type=0
  ·rw [if_neg (fun q=>q h2)]
   have h3:=Ig.1 h2
   unfold Bn
   by_cases h4:rn a.cls b.cls=0
   ·have h5:=Ig.1 h4
    rw [if_neg (fun q=>q h4)]
    unfold Bn
    constructor
    ·intro q;omega
    ·rintro (q|⟨_,q|q⟩)<;>omega
   ·rw [if_pos h4,ab1]
    constructor
    ·intro q;exact .inr ⟨hs,.inr ⟨h3,q⟩⟩
    ·rintro (q|⟨_,q|q⟩)<;>omega
  ·rw [if_pos h2,ab1]
   have h3:a.type.toNat≠b.type.toNat:=fun q=>h2 (Ig.2 q)
   constructor
   ·intro q;exact .inr ⟨hs,.inl q⟩
   ·rintro (q|⟨_,q|q⟩)<;>omega
 ·rw [if_pos h]
  constructor
  ·intro q;exact .inl q
  ·rintro (q|⟨q,_⟩)
   ·exact q
   ·exact (h (uj.2 q)).elim
theorem Re {a b:Name} (h:fu a b=true):fu b a=true:=mw.2 (mw.1 h).symm
theorem aob {a b c:Name} (h:fu a b=true) (k:fu b c=true):fu a c=true:=mw.2 ((mw.1 h).trans (mw.1 k))
theorem Of (a b:Name):n6 a b<0∨fu a b=true∨n6 b a<0:=by
 have h:=D9 a b
 by_cases h1:n6 a b=0
 ·exact .inr (.inl (uj.1 h1))
 ·omega
theorem Ts:s5 dk (fun _=>True):=by
 have flip:∀ a b:ba,D6 a b<0→¬ D6 b a<0:=by
  intro a b h k
  rw [aie] at h k
  have e:=D9 a.owner b.owner
  rcases h with h|⟨h,h'⟩<;>rcases k with k|⟨k,k'⟩
  ·omega
  ·have:=uj.2 k;omega
  ·have:=uj.2 h;omega
  ·omega
 refine ⟨fun x y _ _ h=>?_,fun x y z _ _ _ h k=>?_⟩
 ·unfold dk at *
  exact decide_eq_false (flip x y (of_decide_eq_true h))
 ·unfold dk at *
  have h:=of_decide_eq_false h
  have k:=of_decide_eq_false k
  refine decide_eq_false fun q=>?_
  rw [aie] at h k q
  rcases q with q|⟨q,q'⟩
  ·rcases Of x.owner y.owner with e|e|e
   ·rcases Of y.owner z.owner with f|f|f
    ·have:=P5 e f;have:=D9 z.owner x.owner;omega
    ·have:=Ha (a:=x.owner) f;have:=D9 z.owner x.owner;omega
    ·exact k (.inl f)
   ·rw [← Ha (a:=z.owner) (Re e)] at q
    exact k (.inl q)
   ·exact h (.inl e)
  ·rcases Of x.owner y.owner with e|e|e
   ·have h1:n6 z.owner y.owner<0:=by rw [Mq q];exact e
    exact k (.inl h1)
   ·have h1:fu z.owner y.owner=true:=aob q e
    have h2:¬ (y.type.toNat<x.type.toNat∨y.type.toNat=x.type.toNat∧y.cls.toNat<x.cls.toNat):=fun p=>h (.inr ⟨Re e,p⟩)
    have h3:¬ (z.type.toNat<y.type.toNat∨z.type.toNat=y.type.toNat∧z.cls.toNat<y.cls.toNat):=fun p=>k (.inr ⟨h1,p⟩)
    omega
   ·exact h (.inl e)
theorem nl:s5 dk ct:=⟨fun x y _ _ h=>Ts.S3 x y trivial trivial h,fun x y z _ _ _ h k=>Ts.trans x y z trivial trivial trivial h k⟩
theorem aaq (a b:bq) (s:ba) (ha:de a) (hb:de b):wl PP [Ac] 0 (Tryz.f70.body.getD .skip) (dv PP Tryz.f70.results.toList (fun r st=>(r1 (bk .i64)).get true st.h r=some (zv s.type a b))) (b9 0 [aq.val false a,aq.val false b,.gn (aj.cells false s)]) (bj []):=by
 have hq:∀ a b c d,dj a b c=d→dj a b c=d:=fun _ _ _ _ h=>h
 unfold Tryz.f70
 simp only [ky]
 simp only [↓wR,RA,simprocAttr,TF,ae,W4,kz,ha,hb]
noncomputable def kg (x:bq × bq × ba × Unit):Option AV:=if de x.1∧de x.2.1 then some ((r1 (bk .i64)).E true (zv x.2.2.1.type x.1 x.2.1)) else none
set_option maxRecDepth 2000000 in
theorem Hq (x:bq × bq × ba × Unit) (r:AV) (h:kg x=some r):br PP 70 ((aC aq (aC aq (aP aj a0))).E x) r:=by
 by_cases hc:de x.1∧de x.2.1
 case neg=>simp only [kg,if_neg hc] at h;cases h
 simp only [kg,if_pos hc] at h
 cases h
 exact bb (an.cons (ar wz) (an.nil PP)) Tryz.func70 (by kernel_rfl) (by kernel_rfl) (by kernel_rfl) (Nat.le_of_ble_eq_true (by kernel_rfl)) (r1 (bk .i64)) true (zv x.2.2.1.type x.1 x.2.1) (aaq x.1 x.2.1 x.2.2.1 hc.1 hc.2)
noncomputable abbrev ab7:Nat × Bool × (List AV→M AV):=(70,true,dh (aC aq (aC aq (aP aj a0))) kg)
noncomputable def dz (t:UInt16) (a b:bq):Bool:=decide (zv t a b<0)
def sy (t:UInt16) (d:bq):Prop:=de d∧ef t d=0
theorem W8 (s:ByteArray):jq (fold s)=jq s:=by unfold jq;rw [Vo]
theorem Hp (n:Name):eh (g6 n)=eh n:=by
 have h:ri (g6 n)=ri n:=by
  unfold ri g6
  rw [List.any_map]
  congr 1
  funext s
  simp only [Function.comp,W8]
 unfold eh
 rw [h,z0]
theorem W7 (l:List Name):ou (l.map g6)=ou l:=by
 induction l with
 |nil=>rfl
 |cons a l ih=>simp only [List.map_cons,ou,Hp,ih]
theorem aav (n:Name) (h:eh n=0):(qy n).length=b7 n:=by
 unfold qy
 rw [if_neg (by omega)]
 unfold nameBytes
 rw [List.length_append,List.length_singleton,Bb]
theorem H8:∀ {l:List Name},ou l=0→∀ n ∈ l,eh n=0
 | [],_,n,h=>by cases h
 |a::l,e,n,h=>by
  rw [ou] at e
  split at e
  ·contradiction
  ·rename_i q
   rcases List.mem_cons.1 h with rfl|h
   ·omega
   ·exact H8 e n h
theorem aoe {l:List Name} (h:∀ n ∈ l,eh n=0):((l.map g6).flatMap qy).length=(l.flatMap qy).length:=by
 induction l with
 |nil=>rfl
 |cons a l ih=>
  have ha:=h a List.mem_cons_self
  rw [List.map_cons,List.flatMap_cons,List.flatMap_cons,List.length_append,List.length_append,ih fun n hn=>h n (List.mem_cons_of_mem _ hn),aav _ (by rw [Hp];exact ha),aav _ ha,z0]
theorem Iy {t:UInt16} {d:bq} (h:ef t d=0):ef t (jx t d)=0:=by
 unfold jx
 split
 case isFalse=>exact h
 unfold ef at h ⊢
 split at h
 ·cases h
 rename_i h1
 split at h
 ·cases h
 rename_i h2
 split at h
 ·contradiction
 rename_i h3
 have h4:=H8 (Decidable.not_not.1 h3)
 rw [if_neg h1,if_neg (by
  unfold z7 at h2 ⊢
  simpa only [List.length_map] using h2),if_neg (by rw [W7];exact h3)]
 have h5:(yc t { d with names:=d.names.map g6 }).length=(yc t d).length:=by
  unfold yc yp Af we
  split<;>simp only [List.length_append,aoe h4]
 rw [h5];exact h
theorem Am {t:UInt16} {a b:bq} (ha:ef t a=0) (hb:ef t b=0):zv t a b=Jq (nc t (jx t a)) (nc t (jx t b)):=by
 unfold zv
 rw [if_neg (by rw [Iy ha,Iy hb];simp)]
theorem nm (t:UInt16):s5 (dz t) (sy t):=by
 refine ⟨fun x y hx hy h=>?_,fun x y z hx hy hz h k=>?_⟩
 ·unfold dz at *
  have h:=of_decide_eq_true h
  refine decide_eq_false fun q=>?_
  rw [Am hx.2 hy.2] at h
  rw [Am hy.2 hx.2] at q
  have:=F8 (nc t (jx t x)) (nc t (jx t y))
  unfold Jq at *
  omega
 ·unfold dz at *
  have h:=of_decide_eq_false h
  have k:=of_decide_eq_false k
  refine decide_eq_false fun q=>?_
  rw [Am hy.2 hx.2] at h
  rw [Am hz.2 hy.2] at k
  rw [Am hz.2 hx.2] at q
  unfold Jq at *
  have f1:=F8 (nc t (jx t x)) (nc t (jx t y))
  have f2:=F8 (nc t (jx t y)) (nc t (jx t z))
  by_cases e:Lib.compareBytes (nc t (jx t x)) (nc t (jx t y))=0
  ·rw [Te _ _ e] at q;exact k q
  ·have:=Nr _ _ _ q (show Lib.compareBytes (nc t (jx t x)) (nc t (jx t y))<0 by omega)
   exact k this
end Go.Proofs.YtldcaajoheeipaaGreat
end
