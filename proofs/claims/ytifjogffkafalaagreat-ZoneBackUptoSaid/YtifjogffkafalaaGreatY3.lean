/- A piece of the proof. Proved: where the arguments are together of bulk at most 1048576, the law ZoneBack returns true (records of a zone make it again in any order), and what it was given reads afterwards as it did before. No other conditions. -/
import Derived.WalkKit
import Derived.CallsIn
import Derived.RangeFuncIn
import Derived.RangeFuncLeaves
import Derived.Orders
import Derived.OrdersIn
import Derived.Scope
import Derived.RangeFuncOwn
import Derived.Stop.SameAnswer
import Derived.Laws.Externs
import Derived.Lib.Bytealg
import Derived.ProofKit
import Derived.OpenShut
import Derived.ReadAgain
import Derived.Deep.Slices
import Derived.ChangeSame
import Derived.Test.YtifjogffkafalaaGreatProg
import Derived.KernelRfl
import Derived.Test.YtifjogffkafalaaGreatRows
import Derived.Maps.RangeRun
import Derived.JoinedCond
import Derived.Test.YtifjogffkafalaaGreatY2
set_option linter.unusedSimpArgs false
set_option linter.unusedVariables false
section
namespace Go.Proofs.YtifjogffkafalaaGreat
open Go.Vm
set_option maxRecDepth 2000000
theorem aq9 (n:Name):(ua n).length≤bt n:=by
 unfold ua nameBytes
 split
 ·exact Nat.zero_le _
 ·have:=sy n;rw [List.length_append];simp only [List.length_cons,List.length_nil];omega
noncomputable def Rs (t:UInt16) (n:UInt32):List UInt8:=(Hf n).drop (4 - (qd t).size).toNat
def w4 (t:UInt16):Nat→List ByteArray→List UInt8
 |_,[]=>[]
 |i,x::r=>(if (t.toNat:Int)=16∨i=0 then [UInt8.ofNat x.size] else [])++x.data.toList++w4 t (i+1) r
noncomputable def Ci (t:UInt16) (d:bn):List UInt8:=d.nums.flatMap (Rs t)
def Af (d:bn):List UInt8:=d.names.flatMap ua
def yz (t:UInt16) (d:bn):List UInt8:=w4 t 0 d.texts
noncomputable def Ad (t:UInt16) (d:bn):List UInt8:=if (t.toNat:Int)=6 then Af d++Ci t d else Ci t d++(Af d++(yz t d++d.raw))
theorem Na (n):(Hf n).length=4:=rfl
theorem ahh {α:Type} (f : α→List UInt8) (μ : α→Nat) (h:∀ x,(f x).length ≤ μ x) (l:List α):(l.flatMap f).length≤di μ l:=by
 induction l with
 |nil=>simp
 |cons a l ih=>have:=h a;simp only [List.flatMap_cons,List.length_append,di,List.foldr_cons] at ih ⊢;omega
theorem amp (t:UInt16) (l:List ByteArray):∀ i,(w4 t i l).length≤di ByteArray.size l:=by
 induction l with
 |nil=>intro i;simp [w4]
 |cons a l ih=>
  intro i
  have:=ih (i+1)
  have ha:a.data.size=a.size:=rfl
  simp only [w4,List.length_append,di,List.foldr_cons,Array.length_toList] at this ⊢
  split<;>simp<;>omega
theorem aq2 (t d):(Ci t d).length≤4 * d.nums.length:=by
 unfold Ci
 induction d.nums with
 |nil=>simp
 |cons a l ih=>
  have:(Rs t a).length≤4:=by unfold Rs;rw [List.length_drop,Na];omega
  simp only [List.flatMap_cons,List.length_append,List.length_cons];omega
theorem da.written {d:bn} (h:da d) (t):(Ci t d).length≤67108864∧(Af d).length≤16777216∧(yz t d).length≤16777216:=by
 have h1:=aq2 t d
 have h2:(Af d).length≤di bt d.names:=ahh ua bt aq9 d.names
 have h3:(yz t d).length≤di ByteArray.size d.texts:=amp t d.texts 0
 unfold da lf at h
 omega
theorem S4 {α:Type} {l:List α} {i:Nat} {c : α} (f : α→List UInt8) (h:l.drop i=c::l.drop (i+1)):(l.drop i).flatMap f=f c++(l.drop (i+1)).flatMap f:=by rw [h];rfl
theorem Tw (c):(Hf c).take 4=Hf c:=rfl
theorem ajl (t) (c):(Hf c).drop (4 - (qd t).size).toNat=Rs t c:=rfl
theorem ap4 (t:UInt16) {l:List ByteArray} {i:Nat} {c:ByteArray} (h:l.drop i=c::l.drop (i+1)):w4 t i (l.drop i)=(if (t.toNat:Int)=16∨i=0 then [UInt8.ofNat c.size] else [])++c.data.toList++w4 t (i+1) (l.drop (i+1)):=by rw [h];rfl
theorem asu (t:UInt16) (d:bn) (hd:da d):wl PP [W3,ayr,alo,avx] 0 (Tryz.f68.body.getD .skip) (du PP Tryz.f68.results.toList (fun r st=>(r1 (cd bp)).get true st.h r=some (Ad t d))) (cg 0 [cz.val false t,ak.val false d]) (bb []):=by
 have hl:=hd.lens
 have hk:=hd.written t
 have hs:=Vr t
 unfold Tryz.f68
 simp only [nc,dt]
 simp only [↓wR,RA,simprocAttr,TF,Fe,E5]
 refine n8 [0,3,6,7,8,21,22,23,5] (fun (x:Nat × List UInt8)=>[.sc (.int .u16 t.toNat),.ptr 0 0,.sc (.slice none 0 0),.sc (.slice none 0 0),.ptr 1 0,.vl false 1 (d.nums.map (db.val false)),.sc (.int .i64 (d.nums.length)),.sc (.int .i64 (x.1)),.sl 2 0 x.2.length 1]) (fun x=>[some (.row [.vl false 1 (d.names.map (az.val false)),.vl false 1 (d.nums.map (db.val false)),.vl false 1 (d.texts.map (ai.val false)),.vl false 1 (d.raw.map (bp.val false))] 0 2 44),some (.row [.sc (.int .i64 (qd t).names),.sc (.int .i64 (qd t).nums),.sc (.int .i64 (qd t).size),.sc (.int .i64 (qd t).texts),.sc (.int .i64 (qd t).raw)] 0 2 115),some (.row (x.2.map (bp.val false)) 0 0 5)]) (fun x=>x.1≤d.nums.length∧x.2++(d.nums.drop x.1).flatMap (Rs t)=Ci t d) (fun x=>d.nums.length - x.1) (0,[]) ⟨Nat.zero_le _,rfl⟩ (by simp only [↓wR,RA,simprocAttr,TF];(refine tu.lax [] (by first|exact Nat.le_of_ble_eq_true rfl|(simp [br];omega)) ?_ ?_<;>repeat' first|exact j0.nil|exact dp.nil|exact ke.same _|exact ke.nil _ _ _|exact ke.yk _ _|exact dp.refl _ _|apply j0.cons|apply dp.ghost|apply dp.same|apply dp.row)) ?_
 rintro ⟨i,x⟩ ⟨hi,hx⟩
 simp only at hi hx
 simp only [↓wR,RA,simprocAttr,TF]
 rw [bj];refine ⟨fun h=>?_,fun h=>?_⟩
 ·obtain ⟨c,hc,hd1,hlt⟩:=gm (decide_eq_true h)
  rw [S4 _ hd1] at hx
  have hxl:x.length+(Rs t c).length≤(Ci t d).length:=by rw [← hx];simp
  simp only [↓wR,RA,simprocAttr,TF,h,hc,Oq,Na,Tw,ajl];repeat (simp (disch:=omega) only [ah,bh,bf,bg,be];try simp only [↓wR,RA,simprocAttr,TF,h,hc,Oq,Na,Tw,ajl])
  exact ⟨(i+1,x++Rs t c),⟨hlt,by rw [List.append_assoc];exact hx⟩,by simp;omega,by (first|rfl|trivial|omega|((try (simp (disch:=omega) only [ah]));(try (simp only [FB]));first|done|rfl|omega)),by (first|rfl|trivial|omega|((try (simp (disch:=omega) only [ah]));(try (simp only [FB]));first|done|rfl|omega))⟩
 rw [jh (decide_eq_false h)] at hx
 obtain rfl:x=Ci t d:=by simpa using hx
 clear hx
 simp only [↓wR,RA,simprocAttr,TF,h]
 obtain ⟨nu,hnu⟩:∃ nu,Ci t d=nu:=⟨_,rfl⟩
 rw [hnu] at hk ⊢
 refine n8 [0,3,7,38,39,40,5,6] (fun (x:Nat × List UInt8)=>[.sc (.int .u16 t.toNat),.ptr 0 0,.sc (.slice none 0 0),.vl false 1 (d.names.map (az.val false)),.sc (.int .i64 (d.names.length)),.sc (.int .i64 (x.1)),.sl 1 0 nu.length 1,.sl 2 0 x.2.length 1]) (fun x=>[some (.row [.vl false 1 (d.names.map (az.val false)),.vl false 1 (d.nums.map (db.val false)),.vl false 1 (d.texts.map (ai.val false)),.vl false 1 (d.raw.map (bp.val false))] 0 2 44),some (.row (nu.map (bp.val false)) 0 0 5),some (.row (x.2.map (bp.val false)) 0 0 5)]) (fun x=>x.1≤d.names.length∧x.2++(d.names.drop x.1).flatMap ua=Af d) (fun x=>d.names.length - x.1) (0,[]) ⟨Nat.zero_le _,rfl⟩ (by simp only [↓wR,RA,simprocAttr,TF];(refine tu.lax [] (by first|exact Nat.le_of_ble_eq_true rfl|(simp [br];omega)) ?_ ?_<;>repeat' first|exact j0.nil|exact dp.nil|exact ke.same _|exact ke.nil _ _ _|exact ke.yk _ _|exact dp.refl _ _|apply j0.cons|apply dp.ghost|apply dp.same|apply dp.row)) ?_
 clear h
 rintro ⟨i,x⟩ ⟨hi,hx⟩
 simp only at hi hx
 simp only [↓wR,RA,simprocAttr,TF]
 rw [bj];refine ⟨fun h=>?_,fun h=>?_⟩
 ·obtain ⟨c,hc,hd1,hlt⟩:=gm (decide_eq_true h)
  rw [S4 _ hd1] at hx
  have hxl:x.length+(ua c).length≤(Af d).length:=by rw [← hx];simp
  simp only [↓wR,RA,simprocAttr,TF,h,hc,wc,hd.name c (List.mem_of_getElem? hc)];repeat (simp (disch:=omega) only [ah,bh,bf,bg,be];try simp only [↓wR,RA,simprocAttr,TF,h,hc,wc,hd.name c (List.mem_of_getElem? hc)])
  exact ⟨(i+1,x++ua c),⟨hlt,by rw [List.append_assoc];exact hx⟩,by simp;omega,by (first|rfl|trivial|omega|((try (simp (disch:=omega) only [ah]));(try (simp only [FB]));first|done|rfl|omega)),by (first|rfl|trivial|omega|((try (simp (disch:=omega) only [ah]));(try (simp only [FB]));first|done|rfl|omega))⟩
 rw [jh (decide_eq_false h)] at hx
 obtain rfl:x=Af d:=by simpa using hx
 clear hx
 simp only [↓wR,RA,simprocAttr,TF,h]
 obtain ⟨na,hna⟩:∃ na,Af d=na:=⟨_,rfl⟩
 rw [hna] at hk ⊢
 refine n8 [0,3,54,55,56,5,6,7] (fun (x:Nat × List UInt8)=>[.sc (.int .u16 t.toNat),.ptr 0 0,.vl false 1 (d.texts.map (ai.val false)),.sc (.int .i64 (d.texts.length)),.sc (.int .i64 (x.1)),.sl 1 0 nu.length 1,.sl 2 0 na.length 1,.sl 3 0 x.2.length 1]) (fun x=>[some (.row [.vl false 1 (d.names.map (az.val false)),.vl false 1 (d.nums.map (db.val false)),.vl false 1 (d.texts.map (ai.val false)),.vl false 1 (d.raw.map (bp.val false))] 0 2 44),some (.row (nu.map (bp.val false)) 0 0 5),some (.row (na.map (bp.val false)) 0 0 5),some (.row (x.2.map (bp.val false)) 0 0 5)]) (fun x=>x.1≤d.texts.length∧x.2++w4 t x.1 (d.texts.drop x.1)=yz t d) (fun x=>d.texts.length - x.1) (0,[]) ⟨Nat.zero_le _,rfl⟩ (by simp only [↓wR,RA,simprocAttr,TF];(refine tu.lax [] (by first|exact Nat.le_of_ble_eq_true rfl|(simp [br];omega)) ?_ ?_<;>repeat' first|exact j0.nil|exact dp.nil|exact ke.same _|exact ke.nil _ _ _|exact ke.yk _ _|exact dp.refl _ _|apply j0.cons|apply dp.ghost|apply dp.same|apply dp.row)) ?_
 clear h
 rintro ⟨i,x⟩ ⟨hi,hx⟩
 simp only at hi hx
 simp only [↓wR,RA,simprocAttr,TF]
 rw [bj];refine ⟨fun h=>?_,fun h=>?_⟩
 ·obtain ⟨c,hc,hd1,hlt⟩:=gm (decide_eq_true h)
  rw [ap4 _ hd1] at hx
  have hxl:x.length+((if (t.toNat:Int)=16∨i=0 then [UInt8.ofNat c.size] else []).length+c.size)≤(yz t d).length:=by rw [← hx];simp
  have hcs:c.data.toList.length=c.size:=by simp
  simp only [↓wR,RA,simprocAttr,TF,h,hc];repeat (simp (disch:=omega) only [ah,bh,bf,bg,be];try simp only [↓wR,RA,simprocAttr,TF,h,hc])
  have fin:∀ b:List UInt8,x++(b++c.data.toList++w4 t (i+1) (d.texts.drop (i+1)))=yz t d→x++b++c.data.toList++w4 t (i+1) (d.texts.drop (i+1))=yz t d:=fun b hb=>by rw [← hb];simp
  rw [eb];refine ⟨fun ⟨h16,e16⟩=>?_,fun ⟨h16,e16⟩=>?_⟩
  ·rw [if_pos (.inl e16)] at hx hxl
   simp only [List.length_cons,List.length_nil] at hxl
   simp only [↓wR,RA,simprocAttr,TF,h16];repeat (simp (disch:=omega) only [ah,bh,bf,bg,be];try simp only [↓wR,RA,simprocAttr,TF,h16])
   exact ⟨(i+1,x++[UInt8.ofNat c.size]++c.data.toList),⟨hlt,fin _ hx⟩,by simp;omega,by (first|rfl|trivial|omega|((try (simp (disch:=omega) only [ah]));(try (simp only [FB]));first|done|rfl|omega)),by (first|rfl|trivial|omega|((try (simp (disch:=omega) only [ah]));(try (simp only [FB]));first|done|rfl|omega))⟩
  ·simp only [↓wR,RA,simprocAttr,TF,h16];repeat (simp (disch:=omega) only [ah,bh,bf,bg,be];try simp only [↓wR,RA,simprocAttr,TF,h16])
   rw [eb];refine ⟨fun ⟨h0,e0⟩=>?_,fun ⟨h0,e0⟩=>?_⟩
   ·rw [if_pos (.inr (by omega))] at hx hxl
    simp only [List.length_cons,List.length_nil] at hxl
    simp only [↓wR,RA,simprocAttr,TF,h0];repeat (simp (disch:=omega) only [ah,bh,bf,bg,be];try simp only [↓wR,RA,simprocAttr,TF,h0])
    exact ⟨(i+1,x++[UInt8.ofNat c.size]++c.data.toList),⟨hlt,fin _ hx⟩,by simp;omega,by (first|rfl|trivial|omega|((try (simp (disch:=omega) only [ah]));(try (simp only [FB]));first|done|rfl|omega)),by (first|rfl|trivial|omega|((try (simp (disch:=omega) only [ah]));(try (simp only [FB]));first|done|rfl|omega))⟩
   ·rw [if_neg (by omega)] at hx hxl
    simp only [List.length_nil] at hxl
    simp only [↓wR,RA,simprocAttr,TF,h0];repeat (simp (disch:=omega) only [ah,bh,bf,bg,be];try simp only [↓wR,RA,simprocAttr,TF,h0])
    exact ⟨(i+1,x++c.data.toList),⟨hlt,by have:=fin _ hx;simpa using this⟩,by simp;omega,by (first|rfl|trivial|omega|((try (simp (disch:=omega) only [ah]));(try (simp only [FB]));first|done|rfl|omega)),by (first|rfl|trivial|omega|((try (simp (disch:=omega) only [ah]));(try (simp only [FB]));first|done|rfl|omega))⟩
 rw [jh (decide_eq_false h)] at hx
 obtain rfl:x=yz t d:=by simpa [w4] using hx
 clear hx
 simp only [↓wR,RA,simprocAttr,TF,h];repeat (simp (disch:=omega) only [ah,bh,bf,bg,be];try simp only [↓wR,RA,simprocAttr,TF,h])
 unfold Ad
 rw [hnu,hna]
 rw [eb];refine ⟨fun ⟨h6,e6⟩=>?_,fun ⟨h6,e6⟩=>?_⟩
 ·rw [if_pos e6]
  simp only [↓wR,RA,simprocAttr,TF,h6];repeat (simp (disch:=omega) only [ah,bh,bf,bg,be];try simp only [↓wR,RA,simprocAttr,TF,h6])
 ·rw [if_neg e6]
  have hcat:nu.length+(na.length+((yz t d).length+d.raw.length))≤134217728:=by omega
  simp only [↓wR,RA,simprocAttr,TF,h6,Bq,hcat];repeat (simp (disch:=omega) only [ah,bh,bf,bg,be];try simp only [↓wR,RA,simprocAttr,TF,h6,Bq,hcat])
  rw [← List.map_append,← List.map_append,← List.map_append]
  exact rtT (cd bp) _ _
noncomputable def we (x:UInt16 × bn × Unit):Option AV:=if da x.2.1 then some ((r1 (cd bp)).E true (Ad x.1 x.2.1)) else none
set_option maxRecDepth 2000000 in
theorem Gs (x:UInt16 × bn × Unit) (r:AV) (h:we x=some r):bu PP 68 ((aC cz (aC ak a0)).E x) r:=by
 by_cases hc:da x.2.1
 case neg=>simp only [we,if_neg hc] at h;cases h
 simp only [we,if_pos hc] at h
 cases h
 exact bk (aq.cons (ar Ft) (aq.cons (ar aia) (aq.cons (ar Un) (aq.cons (ar ado) (aq.nil PP))))) Tryz.func68 (by kernel_rfl) (by kernel_rfl) (by kernel_rfl) (Nat.le_of_ble_eq_true (by kernel_rfl)) (r1 (cd bp)) true (Ad x.1 x.2.1) (asu x.1 x.2.1 hc)
noncomputable abbrev T7:Nat × Bool × (List AV→M AV):=(68,true,dq (aC cz (aC ak a0)) we)
theorem ag3 (d:bn) (hd:da d):wl PP [afe,acp,aii,j3] 0 (Tryz.f43.body.getD .skip) (du PP Tryz.f43.results.toList (fun r st=>(r1 ak).get true st.h r=some d)) (cg 0 [ak.val false d]) (bb []):=by
 have hl:=hd.lens
 have l2:=hl.2.1
 have l3:=hl.2.2.1
 have l4:=hl.2.2.2
 unfold Tryz.f43
 simp only [nc,dt]
 simp only [↓wR,RA,simprocAttr,TF]
 refine ⟨by kernel_rfl,.inl ?_⟩
 simp only [↓wR,RA,simprocAttr,TF,zp,zr,Bl,l2,l3,l4]
 refine ⟨by kernel_rfl,?_⟩
 refine n8 [2,17,18,19,3] (fun (x:List Name)=>[.ptr 0 0,.vl false 1 (d.names.map (az.val false)),.sc (.int .i64 (d.names.length)),.sc (.int .i64 (x.length)),.ptr 1 0]) (fun x=>[some (.row [.sc (.slice none 0 0),.sc (.slice none 0 0),.sc (.slice none 0 0),.sc (.slice none 0 0)] 0 2 44),some (.row [.sl 2 0 x.length 1,.vl true 1 (d.nums.map (db.val false)),.vl true 1 (d.texts.map (ai.val false)),.vl true 1 (d.raw.map (bp.val false))] 0 2 44),some (.row (x.map (az.val true)) 0 0 23)]) (fun x=>x.length≤d.names.length∧x++d.names.drop x.length=d.names) (fun x=>d.names.length - x.length) [] ⟨Nat.zero_le _,rfl⟩ (by simp only [↓wR,RA,simprocAttr,TF];(refine tu.lax [] (by first|exact Nat.le_of_ble_eq_true rfl|(simp [br];omega)) ?_ ?_<;>repeat' first|exact j0.nil|exact dp.nil|exact ke.same _|exact ke.nil _ _ _|exact ke.yk _ _|exact dp.refl _ _|apply j0.cons|apply dp.ghost|apply dp.same|apply dp.row)) ?_
 rintro x ⟨hi,hx⟩
 simp only [↓wR,RA,simprocAttr,TF]
 rw [bj];refine ⟨fun h=>?_,fun h=>?_⟩
 ·obtain ⟨c,hc,hd1,hlt⟩:=gm (decide_eq_true h)
  rw [hd1] at hx
  have hlim:(x.length+1) * 24≤140737488355328:=by omega
  simp only [↓wR,RA,simprocAttr,TF,h,hc]
  refine ⟨by kernel_rfl,.inl ?_⟩
  simp only [↓wR,RA,simprocAttr,TF,mw,hd.name c (List.mem_of_getElem? hc),hlim]
  refine ⟨by kernel_rfl,?_⟩
  exact ⟨x++[c],⟨by simp;omega,by simpa using hx⟩,by simp;omega,by (first|rfl|trivial|omega|((try (simp (disch:=omega) only [ah]));(try (simp only [FB]));first|done|rfl|omega)),by (first|rfl|trivial|omega|((try (simp (disch:=omega) only [ah]));(try (simp only [FB]));first|done|rfl|omega))⟩
 ·rw [jh (decide_eq_false h)] at hx
  rw [List.append_nil] at hx
  subst hx
  simp only [↓wR,RA,simprocAttr,TF,h]
noncomputable def pa (x:bn × Unit):Option AV:=if da x.1 then some ((r1 ak).E true (x.1)) else none
set_option maxRecDepth 2000000 in
theorem zf (x:bn × Unit) (r:AV) (h:pa x=some r):bu PP 43 ((aC ak a0).E x) r:=by
 by_cases hc:da x.1
 case neg=>simp only [pa,if_neg hc] at h;cases h
 simp only [pa,if_pos hc] at h
 cases h
 exact bk (aq.cons (ar K5) (aq.cons (ar Kr) (aq.cons (ar Nz) (aq.cons (ar o9) (aq.nil PP))))) Tryz.func43 (by kernel_rfl) (by kernel_rfl) (by kernel_rfl) (Nat.le_of_ble_eq_true (by kernel_rfl)) (r1 ak) true (x.1) (ag3 x.1 hc)
noncomputable abbrev mi:Nat × Bool × (List AV→M AV):=(43,true,dq (aC ak a0) pa)
def sm {α:Type} (f : α → α) (l:List α) (i:Nat):List α:=(l.take i).map f++l.drop i
theorem anf {α:Type} (f : α → α) (l:List α) (i:Nat):(sm f l i).length=l.length:=by simp [sm];omega
theorem amn {α:Type} (f : α → α) {l:List α} {i:Nat} {c : α} (h:l[i]? = some c):(sm f l i)[i]? = some c:=by
 obtain ⟨hi,rfl⟩:=List.getElem?_eq_some_iff.1 h
 have hl:((l.take i).map f).length=i:=by simp;omega
 rw [sm,List.getElem?_append_right (by omega),hl,Nat.sub_self,List.getElem?_drop];simp [h]
theorem ale {α:Type} (f : α → α) {l:List α} {i:Nat} {c : α} (h:l[i]? = some c):(sm f l i).take i++[f c]++(sm f l i).drop (i+1)=sm f l (i+1):=by
 obtain ⟨hi,rfl⟩:=List.getElem?_eq_some_iff.1 h
 have h1:((l.take i).map f).length=i:=by simp;omega
 have h2:(sm f l i).take i=(l.take i).map f:=by rw [sm,List.take_append_of_le_length (by omega),List.take_of_length_le (by omega)]
 have h3:(sm f l i).drop (i+1)=l.drop (i+1):=by
  rw [sm,List.drop_append,List.drop_eq_nil_of_le (by omega),h1]
  simp
 rw [h2,h3,sm,List.take_succ_eq_append_getElem hi,List.map_append]
 rfl
theorem ana {α:Type} (f : α → α) (l:List α):sm f l l.length=l.map f:=by simp [sm]
noncomputable def jo (t:UInt16) (d:bn):bn:=if 0<(qd t).names then { d with names:=d.names.map fw } else d
theorem ag2 (t:UInt16) (d:bn) (hd:da d):wl PP [W3,ac4] 0 (Tryz.f60.body.getD .skip) (du PP Tryz.f60.results.toList (fun r st=>(r1 ak).get true st.h r=some (jo t d))) (cg 0 [cz.val false t,ak.val false d]) (bb []):=by
 have hl:=hd.lens
 have l2:=hl.2.1
 have l3:=hl.2.2.1
 have l4:=hl.2.2.2
 unfold Tryz.f60
 simp only [nc,dt]
 simp only [↓wR,RA,simprocAttr,TF]
 refine bm (T:=[afe,acp,aii,j3]) (aq.cons (ar K5) (aq.cons (ar Kr) (aq.cons (ar Nz) (aq.cons (ar o9) (aq.nil PP))))) mixed Tryz.func43 rfl (by kernel_rfl) (by kernel_rfl) (by kernel_rfl) (by kernel_rfl) ?_;unfold Tryz.f43
 simp only [↓wR,RA,simprocAttr,TF]
 refine ⟨by kernel_rfl,.inl ?_⟩
 simp only [↓wR,RA,simprocAttr,TF,zp,zr,Bl,l2,l3,l4]
 refine ⟨by kernel_rfl,?_⟩
 refine n8 [2,17,18,19,3] (fun (x:List Name)=>[.ptr 2 0,.vl false 1 (d.names.map (az.val false)),.sc (.int .i64 (d.names.length)),.sc (.int .i64 (x.length)),.ptr 3 0]) (fun x=>[some (.row [.vl false 1 (d.names.map (az.val false)),.vl false 1 (d.nums.map (db.val false)),.vl false 1 (d.texts.map (ai.val false)),.vl false 1 (d.raw.map (bp.val false))] 0 2 44),some (.row [.sc (.slice none 0 0),.sc (.slice none 0 0),.sc (.slice none 0 0),.sc (.slice none 0 0)] 0 2 44),some (.row [.sc (.slice none 0 0),.sc (.slice none 0 0),.sc (.slice none 0 0),.sc (.slice none 0 0)] 0 2 44),some (.row [.sl 4 0 x.length 1,.vl true 1 (d.nums.map (db.val false)),.vl true 1 (d.texts.map (ai.val false)),.vl true 1 (d.raw.map (bp.val false))] 0 2 44),some (.row (x.map (az.val true)) 0 0 23)]) (fun x=>x.length≤d.names.length∧x++d.names.drop x.length=d.names) (fun x=>d.names.length - x.length) [] ⟨Nat.zero_le _,rfl⟩ (by simp only [↓wR,RA,simprocAttr,TF];(refine tu.lax [] (by first|exact Nat.le_of_ble_eq_true rfl|(simp [br];omega)) ?_ ?_<;>repeat' first|exact j0.nil|exact dp.nil|exact ke.same _|exact ke.nil _ _ _|exact ke.yk _ _|exact dp.refl _ _|apply j0.cons|apply dp.ghost|apply dp.same|apply dp.row)) ?_
 rintro x ⟨hi,hx⟩
 simp only [↓wR,RA,simprocAttr,TF]
 rw [bj];refine ⟨fun h=>?_,fun h=>?_⟩
 ·obtain ⟨c,hc,hd1,hlt⟩:=gm (decide_eq_true h)
  rw [hd1] at hx
  have hlim:(x.length+1) * 24≤140737488355328:=by omega
  simp only [↓wR,RA,simprocAttr,TF,h,hc]
  refine ⟨by kernel_rfl,.inl ?_⟩
  simp only [↓wR,RA,simprocAttr,TF,mw,hd.name c (List.mem_of_getElem? hc),hlim]
  refine ⟨by kernel_rfl,?_⟩
  exact ⟨x++[c],⟨by simp;omega,by simpa using hx⟩,by simp;omega,by (first|rfl|trivial|omega|((try (simp (disch:=omega) only [ah]));(try (simp only [FB]));first|done|rfl|omega)),by (first|rfl|trivial|omega|((try (simp (disch:=omega) only [ah]));(try (simp only [FB]));first|done|rfl|omega))⟩
 rw [jh (decide_eq_false h)] at hx
 rw [List.append_nil] at hx
 subst hx
 simp only [↓wR,RA,simprocAttr,TF,h,Fe,E5]
 unfold jo
 clear hi h
 rw [bj];refine ⟨fun h0=>?_,fun h0=>?_⟩
 ·rw [if_pos h0]
  simp only [↓wR,RA,simprocAttr,TF,h0]
  refine c8 [4,5,15,16,17] (fun (i:Nat)=>[.ptr 0 0,.ptr 1 0,.sl 2 0 d.names.length 1,.sc (.int .i64 (d.names.length)),.sc (.int .i64 (i))]) (fun i=>[some (.row [.sc (.slice none 0 0),.sc (.slice none 0 0),.sc (.slice none 0 0),.sc (.slice none 0 0)] 0 2 44),some (.row [.sl 2 0 d.names.length 1,.vl true 1 (d.nums.map (db.val false)),.vl true 1 (d.texts.map (ai.val false)),.vl true 1 (d.raw.map (bp.val false))] 0 2 44),some (.row ((sm fw d.names i).map (az.val true)) 0 0 23)]) (fun i=>i≤d.names.length) (fun i=>d.names.length - i) 0 (Nat.zero_le _) (by simp only [↓wR,RA,simprocAttr,TF]<;>rfl) (by simp only [↓wR,RA,simprocAttr,TF]<;>rfl) ?_
  intro i hi
  simp only [↓wR,RA,simprocAttr,TF]
  rw [bj];refine ⟨fun h=>?_,fun h=>?_⟩
  ·obtain ⟨c,hc,hd1,hlt⟩:=gm (decide_eq_true h)
   have hs:=amn fw hc
   have hlen:=anf fw d.names i
   have hlt':i+1≤d.names.length:=hlt
   simp only [↓wR,RA,simprocAttr,TF,h,hs,hlt]
   refine ⟨by kernel_rfl,.inl ?_⟩
   simp only [↓wR,RA,simprocAttr,TF,h,hlt,hlt',hlen,z0,hd.name c (List.mem_of_getElem? hc)]
   refine ⟨by kernel_rfl,i+1,hlt,by omega,by (first|rfl|trivial|omega|((try (simp (disch:=omega) only [ah]));(try (simp only [FB]));first|done|rfl|omega)),?_⟩
   rw [← ale fw hc];simp only [List.map_append,List.map_cons,List.map_nil]
  ·have hin:i=d.names.length:=by omega
   subst hin
   rw [ana]
   have hml:(d.names.map fw).length=d.names.length:=List.length_map _
   generalize d.names.map fw=m at hml ⊢
   simp only [↓wR,RA,simprocAttr,TF,h,hml]
   rfl
 ·rw [if_neg h0]
  simp only [↓wR,RA,simprocAttr,TF,h0]
noncomputable def Dk (x:UInt16 × bn × Unit):Option AV:=if da x.2.1 then some ((r1 ak).E true (jo x.1 x.2.1)) else none
set_option maxRecDepth 2000000 in
theorem aas (x:UInt16 × bn × Unit) (r:AV) (h:Dk x=some r):bu PP 60 ((aC cz (aC ak a0)).E x) r:=by
 by_cases hc:da x.2.1
 case neg=>simp only [Dk,if_neg hc] at h;cases h
 simp only [Dk,if_pos hc] at h
 cases h
 exact bk (aq.cons (ar Ft) (aq.cons (ar Le) (aq.nil PP))) Tryz.func60 (by kernel_rfl) (by kernel_rfl) (by kernel_rfl) (Nat.le_of_ble_eq_true (by kernel_rfl)) (r1 ak) true (jo x.1 x.2.1) (ag2 x.1 x.2.1 hc)
noncomputable abbrev atf:Nat × Bool × (List AV→M AV):=(60,true,dq (aC cz (aC ak a0)) Dk)
def qv:List Name→Int
 | []=>0
 |n::r=>if cy n≠0 then cy n else qv r
noncomputable def c7 (t:UInt16) (d:bn):Int:=
 if Iq t=true then 6 else if Cq (qd t) t d=false then 7 else if qv d.names≠0 then qv d.names else if 65535<(Ad t d).length then 3 else 0
theorem ahr {l:List Name} {i:Nat} {c:Name} (h:l.drop i=c::l.drop (i+1)):qv (l.drop i)=if cy c≠0 then cy c else qv (l.drop (i+1)):=by rw [h];rfl
theorem adm (t:UInt16) (d:bn) (hd:da d):wl PP [ax8,W3,azi,dj,T7] 0 (Tryz.f44.body.getD .skip) (du PP Tryz.f44.results.toList (fun r st=>(r1 (bc .i64)).get true st.h r=some (c7 t d))) (cg 0 [cz.val false t,ak.val false d]) (bb []):=by
 have hs:=Vr t
 have hl:=hd.lens
 unfold Tryz.f44
 simp only [nc,dt]
 simp only [↓wR,RA,simprocAttr,TF,V9]
 unfold c7
 rw [dm];refine ⟨fun hb=>?_,fun hb=>?_⟩
 ·rw [if_pos hb]
  simp only [↓wR,RA,simprocAttr,TF,hb]
 rw [if_neg (by rw [hb];decide)]
 simp only [↓wR,RA,simprocAttr,TF,hb]
 refine ⟨by kernel_rfl,.inl ?_⟩
 simp only [↓wR,RA,simprocAttr,TF,Fe,Mi,hs,hd]
 refine ⟨by kernel_rfl,?_⟩
 rw [dm];refine ⟨fun hf=>?_,fun hf=>?_⟩
 ·rw [if_pos (by simpa using hf)]
  simp only [↓wR,RA,simprocAttr,TF,hf]
 have hf':Cq (qd t) t d=true:=by simpa using hf
 rw [if_neg (by rw [hf'];decide)]
 simp only [↓wR,RA,simprocAttr,TF,hf]
 refine c8 [0,3,17,18,19] (fun (i:Nat)=>[.sc (.int .u16 t.toNat),.ptr 0 0,.vl false 1 (d.names.map (az.val false)),.sc (.int .i64 (d.names.length)),.sc (.int .i64 (i))]) (fun _=>[some (.row [.vl false 1 (d.names.map (az.val false)),.vl false 1 (d.nums.map (db.val false)),.vl false 1 (d.texts.map (ai.val false)),.vl false 1 (d.raw.map (bp.val false))] 0 2 44)]) (fun i=>i≤d.names.length∧qv d.names=qv (d.names.drop i)) (fun i=>d.names.length - i) 0 ⟨Nat.zero_le _,rfl⟩ (by simp only [↓wR,RA,simprocAttr,TF]<;>rfl) (by simp only [↓wR,RA,simprocAttr,TF]<;>rfl) ?_
 rintro i ⟨hi,hx⟩
 simp only [↓wR,RA,simprocAttr,TF]
 rw [bj];refine ⟨fun h=>?_,fun h=>?_⟩
 ·obtain ⟨c,hc,hd1,hlt⟩:=gm (decide_eq_true h)
  rw [ahr hd1] at hx
  simp only [↓wR,RA,simprocAttr,TF,h,hc,i3,(hd.name c (List.mem_of_getElem? hc)).fit]
  rw [dm];refine ⟨fun h1=>?_,fun h1=>?_⟩
  ·have he:cy c≠0:=by simpa using h1
   rw [if_pos he] at hx
   rw [if_pos (by rw [hx];exact he),hx]
   simp only [↓wR,RA,simprocAttr,TF,h1]
  ·have he:cy c=0:=by simpa using h1
   rw [if_neg (by omega)] at hx
   simp only [↓wR,RA,simprocAttr,TF,h1];repeat (simp (disch:=omega) only [ah,bh,bf,bg,be];try simp only [↓wR,RA,simprocAttr,TF,h1])
   exact ⟨i+1,⟨hlt,hx⟩,by omega,by (first|rfl|trivial|omega|((try (simp (disch:=omega) only [ah]));(try (simp only [FB]));first|done|rfl|omega))⟩
 rw [jh (decide_eq_false h)] at hx
 rw [if_neg (by rw [hx];decide)]
 simp only [↓wR,RA,simprocAttr,TF,h,we,hd]
 rw [bj];refine ⟨fun h2=>?_,fun h2=>?_⟩
 ·rw [if_pos (by omega)]
  simp only [↓wR,RA,simprocAttr,TF,h2]
 ·rw [if_neg (by omega)]
  simp only [↓wR,RA,simprocAttr,TF,h2]
noncomputable def i7 (x:UInt16 × bn × Unit):Option AV:=if da x.2.1 then some ((r1 (bc .i64)).E true (c7 x.1 x.2.1)) else none
set_option maxRecDepth 2000000 in
theorem ug (x:UInt16 × bn × Unit) (r:AV) (h:i7 x=some r):bu PP 44 ((aC cz (aC ak a0)).E x) r:=by
 by_cases hc:da x.2.1
 case neg=>simp only [i7,if_neg hc] at h;cases h
 simp only [i7,if_pos hc] at h
 cases h
 exact bk (aq.cons (ar ah1) (aq.cons (ar Ft) (aq.cons (ar amq) (aq.cons (ar sh) (aq.cons (ar Gs) (aq.nil PP)))))) Tryz.func44 (by kernel_rfl) (by kernel_rfl) (by kernel_rfl) (Nat.le_of_ble_eq_true (by kernel_rfl)) (r1 (bc .i64)) true (c7 x.1 x.2.1) (adm x.1 x.2.1 hc)
noncomputable abbrev j9:Nat × Bool × (List AV→M AV):=(44,true,dq (aC cz (aC ak a0)) i7)
noncomputable def kx (t:UInt16) (d:bn):List UInt8:=if c7 t d≠0 then [] else Ad t d
theorem ab7 (t:UInt16) (d:bn) (hd:da d):wl PP [j9,T7] 0 (Tryz.f59.body.getD .skip) (du PP Tryz.f59.results.toList (fun r st=>(r2 (cd bp) (bc .i64)).get true st.h r=some (kx t d,c7 t d))) (cg 0 [cz.val false t,ak.val false d]) (bb []):=by
 unfold Tryz.f59
 simp only [nc,dt]
 simp only [↓wR,RA,simprocAttr,TF,i7,hd]
 unfold kx
 rw [dm];refine ⟨fun h=>?_,fun h=>?_⟩
 ·have he:c7 t d≠0:=by simpa using h
  rw [if_pos he]
  simp only [↓wR,RA,simprocAttr,TF,h]
 ·have he:c7 t d=0:=by simpa using h
  rw [if_neg (by omega)]
  simp only [↓wR,RA,simprocAttr,TF,h,we,hd,he]
noncomputable def A0 (x:UInt16 × bn × Unit):Option AV:=if da x.2.1 then some ((r2 (cd bp) (bc .i64)).E true ((kx x.1 x.2.1,c7 x.1 x.2.1))) else none
set_option maxRecDepth 2000000 in
theorem Wg (x:UInt16 × bn × Unit) (r:AV) (h:A0 x=some r):bu PP 59 ((aC cz (aC ak a0)).E x) r:=by
 by_cases hc:da x.2.1
 case neg=>simp only [A0,if_neg hc] at h;cases h
 simp only [A0,if_pos hc] at h
 cases h
 exact bk (aq.cons (ar ug) (aq.cons (ar Gs) (aq.nil PP))) Tryz.func59 (by kernel_rfl) (by kernel_rfl) (by kernel_rfl) (Nat.le_of_ble_eq_true (by kernel_rfl)) (r2 (cd bp) (bc .i64)) true ((kx x.1 x.2.1,c7 x.1 x.2.1)) (ab7 x.1 x.2.1 hc)
noncomputable abbrev apb:Nat × Bool × (List AV→M AV):=(59,true,dq (aC cz (aC ak a0)) A0)
theorem aof (args:List AV):zg PP 87 args (Cx.j5 args):=
 Cx.Bd (fn:=(PP.funcs[87]?).getD default) (by kernel_rfl) (by kernel_rfl) (by kernel_rfl) (by kernel_rfl) (by kernel_rfl) args
noncomputable abbrev axz:Nat × Bool × (List AV→M AV):=(87,true,Cx.j5)
theorem awr:aq PP [axz]:=aq.cons aof (aq.nil PP)
noncomputable def Dt (a b:List UInt8):Int:=Lib.compareBytes a b
theorem Sy (a b:List UInt8):wl PP [axz] 0 (Tryz.f61.body.getD .skip) (du PP Tryz.f61.results.toList (fun r st=>(r1 (bc .i64)).get true st.h r=some (Dt a b))) (cg 0 [(cd bp).val false a,(cd bp).val false b]) (bb []):=by
 unfold Tryz.f61
 simp only [px]
 simp only [↓wR,RA,simprocAttr,TF,Dt]
noncomputable def zb (x:List UInt8 × List UInt8 × Unit):Option AV:=some ((r1 (bc .i64)).E true (Dt x.1 x.2.1))
theorem Pe (x:List UInt8 × List UInt8 × Unit) (r:AV) (h:zb x=some r):bu PP 61 ((aC (cd bp) (aC (cd bp) a0)).E x) r:=by
 cases h
 exact bk awr Tryz.func61 (by kernel_rfl) (by kernel_rfl) (by kernel_rfl) (Nat.le_of_ble_eq_true (by kernel_rfl)) (r1 (bc .i64)) true (Dt x.1 x.2.1) (Sy x.1 x.2.1)
noncomputable abbrev aep:Nat × Bool × (List AV→M AV):=(61,true,dq (aC (cd bp) (aC (cd bp) a0)) zb)
theorem G6 (s:ByteArray):(fold s).size=s.size:=by
 show (s.data.toList.map low).toArray.size=s.data.size
 simp
theorem yf (n:Name):bt (fw n)=bt n:=by
 unfold bt fw
 rw [List.foldl_map]
 simp only [G6]
theorem aq3 (l:List Name):di bt (l.map fw)=di bt l:=by
 induction l with
 |nil=>rfl
 |cons a l ih=>simp only [di,List.map_cons,List.foldr_cons,yf] at ih ⊢;rw [ih]
theorem da.fold {d:bn} (h:da d) (t:UInt16):da (jo t d):=by
 unfold jo
 split
 ·unfold da lf at *
  simp only [aq3];exact h
 ·exact h
noncomputable def ym (t:UInt16) (a b:bn):Int:=if c7 t (jo t a)≠0∨c7 t (jo t b)≠0 then 0 else Dt (kx t (jo t a)) (kx t (jo t b))
noncomputable def yd (t:UInt16) (a b:bn):Bool:=decide (c7 t a=0) && decide (c7 t b=0) && decide (ym t a b=0)
theorem Xd (t:UInt16) (a b:bn) (ha:da a) (hb:da b):wl PP [atf,apb,aep] 0 (Tryz.f41.body.getD .skip) (du PP Tryz.f41.results.toList (fun r st=>(r1 (bc .i64)).get true st.h r=some (ym t a b))) (cg 0 [cz.val false t,ak.val false a,ak.val false b]) (bb []):=by
 have fa:=ha.fold t
 have fb:=hb.fold t
 unfold Tryz.f41
 simp only [nc,dt]
 simp only [↓wR,RA,simprocAttr,TF,Dk,A0,zb,ha,hb,fa,fb]
 unfold ym
 rw [dm];refine ⟨fun h=>?_,fun h=>?_⟩
 ·have he:c7 t (jo t a)≠0:=by simpa using h
  rw [if_pos (.inl he)]
  simp only [↓wR,RA,simprocAttr,TF,h]
 have he:c7 t (jo t a)=0:=by simpa using h
 simp only [↓wR,RA,simprocAttr,TF,h]
 rw [dm];refine ⟨fun h2=>?_,fun h2=>?_⟩
 ·have he2:c7 t (jo t b)≠0:=by simpa using h2
  rw [if_pos (.inr he2)]
  simp only [↓wR,RA,simprocAttr,TF,h2]
 ·have he2:c7 t (jo t b)=0:=by simpa using h2
  rw [if_neg (by omega)]
  simp only [↓wR,RA,simprocAttr,TF,h2,zb]
noncomputable def m8 (x:UInt16 × bn × bn × Unit):Option AV:=if da x.2.1∧da x.2.2.1 then some ((r1 (bc .i64)).E true (ym x.1 x.2.1 x.2.2.1)) else none
set_option maxRecDepth 2000000 in
theorem zm (x:UInt16 × bn × bn × Unit) (r:AV) (h:m8 x=some r):bu PP 41 ((aC cz (aC ak (aC ak a0))).E x) r:=by
 by_cases hc:da x.2.1∧da x.2.2.1
 case neg=>simp only [m8,if_neg hc] at h;cases h
 simp only [m8,if_pos hc] at h
 cases h
 exact bk (aq.cons (ar aas) (aq.cons (ar Wg) (aq.cons (ar Pe) (aq.nil PP)))) Tryz.func41 (by kernel_rfl) (by kernel_rfl) (by kernel_rfl) (Nat.le_of_ble_eq_true (by kernel_rfl)) (r1 (bc .i64)) true (ym x.1 x.2.1 x.2.2.1) (Xd x.1 x.2.1 x.2.2.1 hc.1 hc.2)
noncomputable abbrev Cv:Nat × Bool × (List AV→M AV):=(41,true,dq (aC cz (aC ak (aC ak a0))) m8)
theorem ah8 (t:UInt16) (a b:bn) (ha:da a) (hb:da b):wl PP [j9,Cv] 0 (Tryz.f75.body.getD .skip) (du PP Tryz.f75.results.toList (fun r st=>(r1 bw).get true st.h r=some (yd t a b))) (cg 0 [cz.val false t,ak.val false a,ak.val false b]) (bb []):=by
 unfold Tryz.f75
 simp only [nc,dt]
 simp only [↓wR,RA,simprocAttr,TF,i7,ha,hb]
 unfold yd
 rw [eb];refine ⟨fun ⟨h,e⟩=>?_,fun ⟨h,e⟩=>?_⟩
 ·rw [decide_eq_true e]
  simp only [↓wR,RA,simprocAttr,TF,h,i7,ha,hb]
  rw [eb];refine ⟨fun ⟨h2,e2⟩=>?_,fun ⟨h2,e2⟩=>?_⟩
  ·rw [decide_eq_true e2]
   simp only [↓wR,RA,simprocAttr,TF,h2,m8,ha,hb]
   rfl
  ·rw [decide_eq_false e2]
   simp only [↓wR,RA,simprocAttr,TF,h2]
   rfl
 ·rw [decide_eq_false e]
  simp only [↓wR,RA,simprocAttr,TF,h]
  rfl
noncomputable def Da (x:UInt16 × bn × bn × Unit):Option AV:=if da x.2.1∧da x.2.2.1 then some ((r1 bw).E true (yd x.1 x.2.1 x.2.2.1)) else none
set_option maxRecDepth 2000000 in
theorem aar (x:UInt16 × bn × bn × Unit) (r:AV) (h:Da x=some r):bu PP 75 ((aC cz (aC ak (aC ak a0))).E x) r:=by
 by_cases hc:da x.2.1∧da x.2.2.1
 case neg=>simp only [Da,if_neg hc] at h;cases h
 simp only [Da,if_pos hc] at h
 cases h
 exact bk (aq.cons (ar ug) (aq.cons (ar zm) (aq.nil PP))) Tryz.func75 (by kernel_rfl) (by kernel_rfl) (by kernel_rfl) (Nat.le_of_ble_eq_true (by kernel_rfl)) (r1 bw) true (yd x.1 x.2.1 x.2.2.1) (ah8 x.1 x.2.1 x.2.2.1 hc.1 hc.2)
noncomputable abbrev as8:Nat × Bool × (List AV→M AV):=(75,true,dq (aC cz (aC ak (aC ak a0))) Da)
end Go.Proofs.YtifjogffkafalaaGreat
end
section
set_option maxRecDepth 100000
namespace Go.Vm
noncomputable section
theorem O8 {α:Type} (C:c9 α) (fr:Bool) (h:Tr ba) (l:List AV) (ha:C.agg=true):C.dec fr h l=C.jd fr h (.agg l):=by
 rw [B9 _ _ _ _ rfl (by rw [ha];rfl)];rfl
theorem at5 {α β:Type} (A:c9 α) (B:c9 β) (fr:Bool) (h:Tr ba) (l:List AV):(m9 A B).dec fr h l=match A.dec fr h (l.take A.sz),B.dec fr h (l.drop A.sz) with|some x,some y=>some (x,y)|_,_=>none:=rfl
theorem alq {α:Type} (C:c9 α) (fr h) (x:AV):(cd C).dec fr h [x]=jc C fr h x:=rfl
theorem al9 (fr h) (x:AV):az.dec fr h [x]=jc ai fr h x:=rfl
theorem aln {P:Program} {T:er} {l:Nat} {ay:Nat} {L:SL} {st:St} {Q:QI} {ps:List Tmp} {ra rb:Code} {L0:SL} {α:Type} {b:Code} (keep:List Nat) (V : α→List AV) (O : α→List (Option ba)) (I : α→Prop) (μ : α→Nat) (x : α) (hx:I x)
 (hv:tu ay (dn ay keep L st) (gu ay keep L st) (V x) (O x))
 (step:∀ x,I x→qy P T l (po ps (fun p=>wl P T p ra) (fun p=>wl P T p rb) L0) ay b (Bb (r8 ay keep (fun vs os=>∃ y,I y ∧ μ y < μ x∧vs=V y∧os=O y) (fun _ _ _=>False)) Q) none (ja keep (V x)) (bb (O x))):qy P T l (po ps (fun p=>wl P T p ra) (fun p=>wl P T p rb) L0) ay (.loop b) Q none L st:=by
 have mono:∀ (Q1 Q2:QL),(∀ e L st,Q1 e L st→Q2 e L st)→∀ L st,qy P T l (po ps (fun p=>wl P T p ra) (fun p=>wl P T p rb) L0) ay b (Bb Q1 Q) none L st→qy P T l (po ps (fun p=>wl P T p ra) (fun p=>wl P T p rb) L0) ay b (Bb Q2 Q) none L st:=fun Q1 Q2 h L st hh=>Sk (P0 P T) b _ _ (fun e pe L st q=>by
  cases e with
  |normal=>exact ⟨q.1,h _ _ _ q.2⟩
  |ret=>exact q
  |exit i=>exact q) none L st hh
 refine ⟨rfl,tz.asj (B:=fun Q' L st=>qy P T l _ ay b (Bb Q' Q) none L st) keep V O I μ x hx hv mono (fun x hi=>mono _ _ (fun e L' st' hq=>?_) _ _ (step x hi))⟩
 cases e with
 |normal=>
  obtain ⟨y,h1,h2,h3,h4⟩:=hq
  refine ⟨y,h1,h2,?_⟩
  rw [h3,h4];exact .refl _ _ _
 |exit i=>exact hq.elim
 |ret=>exact hq.elim
theorem Ko (k fr h n cells kk st et) (hn:n=cells.length):mf (bc k) fr h 0 n (.row cells kk st et)=si (bc k) fr h cells:=xn (bc k) rfl fr h n cells kk st et hn
def fp (n:Nat) (r:AV) (st:St):List Nat:=reach st.h gk (r.names++sf st.h (dh 0 n)) (dh 0 n)
def gn (n:Nat) (r:AV) (st:St):AV:=r.cb (fun o=>idx (fp n r st) o 0)
def fy (n:Nat) (r:AV) (st:St):St:=bb (kg st.h (fun o=>idx (fp n r st) o 0) (fp n r st))
theorem aji {g g':Gh} {st st':St} {w w':World} {r:AV} {v:Value} (hn:st.nx≤1000) (hfr:∀ o,st.nx≤o→g.inj o=none) (hs:Step g st.h w st.nx st'.nx g' st'.h w') (hok:Ok g' st'.h w') (hr:Rel g' w' r v) :
 ∃ g'',st.nx≤(fy st.nx r st').nx∧Step g st.h w st.nx (fy st.nx r st').nx g'' (fy st.nx r st').h w'∧Ok g'' (fy st.nx r st').h w'∧Rel g'' w' (gn st.nx r st') v:=by
 have hN:=Df st'.h gk (r.names++sf st'.h (dh 0 st.nx)) (dh 0 st.nx) (uh _ _)
 change (fp st.nx r st').Nodup∧(∃ q,fp st.nx r st'=dh 0 st.nx++q)∧(fp st.nx r st').length≤_ at hN
 have hτ:∀ o p,(fun o=>idx (fp st.nx r st') o 0) o=some p→(fp st.nx r st')[p]? = some o:=fun o p h=>I7 _ o p h
 unfold fy gn
 generalize fp st.nx r st'=N at hN hτ
 obtain ⟨hnd,⟨rest,hpre⟩,hlen⟩:=hN
 rw [jv] at hlen
 have hlim:N.length≤br:=by simp only [gk,br] at *;omega
 have cj:∀ i x,(bb (kg st'.h (fun o=>idx N o 0) N)).h.get i=some x→∃ o y,N[i]? = some o∧st'.h.get o=some y∧y.cb (fun o=>idx N o 0)=some x:=by
  intro i x hx
  simp only [bb] at hx
  rw [u2 _ _ _ (by rw [ju];omega),if_pos (Nat.zero_le _),Nat.sub_zero,xx] at hx
  cases hi:N[i]? with
  |none=>rw [hi] at hx;cases hx
  |some o=>
   rw [hi] at hx
   simp only [Option.map_some,Option.join_some] at hx
   cases hy:st'.h.get o with
   |none=>rw [hy] at hx;cases hx
   |some y=>rw [hy] at hx;exact ⟨o,y,rfl,hy,hx⟩
 have hinj:∀ i o,N[i]? = some o→(g'.cb N).inj i=g'.inj o:=fun i o h=>by simp [Gh.cb,h]
 have hlow:∀ o,o<st.nx→N[o]? = some o:=fun o ho=>by rw [hpre,List.getElem?_append_left (by rw [jv];exact ho),Ab _ _ _ ho,Nat.zero_add]
 have hnx:(bb (kg st'.h (fun o=>idx N o 0) N)).nx=N.length:=by simp only [bb,ju]
 have hle:st.nx≤N.length:=by rw [hpre,List.length_append,jv];omega
 rw [hnx]
 refine ⟨g'.cb N,hle,⟨⟨hs.ext.b0,fun o p ho=>?_,hs.ext.K,hs.ext.cell,hs.ext.i4,hs.ext.lp⟩,hs.size,hs.os,hs.tape,hs.output,hs.frame,fun o ho hr=>?_,fun i b base hi hj=>?_,hs.k8⟩,⟨hok.size,fun i x hx=>?_,fun i j x y b base base' hij hx hy hb hb'=>?_,hok.K⟩,hr.cb hτ⟩
 ·have hlt:o<st.nx:=by
   rcases Nat.lt_or_ge o st.nx with h|h
   ·exact h
   ·rw [hfr o h] at ho;cases ho
  rw [hinj o o (hlow o hlt)];exact hs.ext.inj o p ho
 ·rcases Nat.lt_or_ge o st.nx with h|h
  ·rw [hinj o o (hlow o h)];exact hs.fresh o ho (by omega)
  ·simp [Gh.cb,List.getElem?_eq_none (show N.length≤o by omega)]
 ·obtain ⟨x,hx⟩:=Option.isSome_iff_exists.1 hi
  obtain ⟨o,y,h1,h2,_⟩:=cj i x hx
  rw [hinj i o h1] at hj
  exact hs.own o b base (by rw [h2];rfl) hj
 ·obtain ⟨o,y,h1,h2,h3⟩:=cj i x hx
  refine (hok.mb o y h2).imp (fun q=>⟨by rw [hinj i o h1];exact q.1,by obtain ⟨s0,e0,rfl⟩:=q.2;simp only [ba.cb,AV.cb.go,Option.some.injEq] at h3;exact ⟨s0,e0,h3.symm⟩⟩) ?_
  rintro ⟨b,base,q1,q2,q3⟩
  exact ⟨b,base,by rw [hinj i o h1];exact q1,q2,q3.cb hτ h3⟩
 ·obtain ⟨o,y1,h1,h2,_⟩:=cj i x hx
  obtain ⟨o',y2,h1',h2',_⟩:=cj j y hy
  rw [hinj i o h1] at hb
  rw [hinj j o' h1'] at hb'
  have hne:o≠o':=by
   intro e
   subst e
   obtain ⟨hi,ei⟩:=List.getElem?_eq_some_iff.1 h1
   obtain ⟨hj,ej⟩:=List.getElem?_eq_some_iff.1 h1'
   exact hij ((List.getElem_inj hnd).1 (ei.trans ej.symm))
  exact hok.sep o o' _ _ b base base' hne h2 h2' hb hb'
theorem ct {P:Program} {f:Nat} {args:List AV} {st:St} {R:AV→St→Prop} (R0:AV→St→Prop) (hn:Nat.ble st.nx 1000=true) (h1:gp P f args st (fun r st'=>R0 (gn st.nx r st') (fy st.nx r st'))) (h2:∀ r st',R0 r st'→R r st'):gp P f args st R:=by
 intro g w vs hok hfr hrel
 rcases h1 g w vs hok hfr hrel with ⟨v,w',g',r,st',q1,q2,q3,q4,q5,q6⟩|⟨q1,q2⟩
 ·obtain ⟨g'',p1,p2,p3,p4⟩:=aji (Nat.le_of_ble_eq_true hn) hfr q4 q5 q6
  exact .inl ⟨v,w',g'',_,_,q1,h2 _ _ q2,p1,p2,p3,p4⟩
 ·refine .inr ⟨q1,q2.mono ?_⟩
  rintro e w' ⟨v,g',r,st',rfl,q2,q3,q4,q5,q6⟩
  obtain ⟨g'',p1,p2,p3,p4⟩:=aji (Nat.le_of_ble_eq_true hn) hfr q4 q5 q6
  exact ⟨v,g'',_,_,rfl,h2 _ _ q2,p1,p2,p3,p4⟩
theorem Ks (l) (n:Name):kh (az.val l n)=some n.length:=by
 rw [dt];show some (List.map (ai.val l) n).length=_;rw [List.length_map]
theorem ajj (a b:Operand):(#[a]++(none:Option Operand).toArray++(some b).toArray++(none:Option Operand).toArray).toList=[a,b]:=id rfl
theorem md8 (a:Nat):a * 8 / 8=a:=by omega
theorem dv4 : 4 / 4=1:=rfl
theorem dv5 : 5 / 5=1:=rfl
theorem dv8 : 8 / 8=1:=rfl
theorem ajq (k fr h n):(bc k).dec fr h [.sc (.int k n)]=some n:=(bc k).rt fr h true n (fun _=>rfl)
theorem Kw (l:Bool) (d:bn):(ak.val l d).cells=[.vl l 1 (d.names.map (az.val l)),.vl l 1 (d.nums.map (db.val l)),.vl l 1 (d.texts.map (ai.val l)),.vl l 1 (d.raw.map (bp.val l))]:=id rfl
theorem Mv (fr h l) (n:Name) (hl:(l || !fr)=true):jc ai fr h (az.val l n)=some n:=xp ai fr h l n 1 rfl hl
def adv {α:Type} (C:c9 α) (h:Tr ba) (off:Nat) (x:ba):Option α:=
 match x with
 |.row cells _ _ _=>bif Nat.ble (off+C.sz) cells.length then C.dec false h ((cells.drop off).take C.sz) else none
 |_=>none
def Wc {α:Type} (C:c9 α) (h:Tr ba) (a:AV):Option α:=
 match a with
 |.iw l=>bif Nat.ble C.sz l.length then C.dec false h (l.take C.sz) else none
 |.ptr o off=>(h.get o).bind (adv C h off)
 |_=>none
theorem Sp {α:Type} (C:c9 α) (h o off):Wc C h (.ptr o off)=(h.get o).bind (adv C h off):=id rfl
theorem Zi {α:Type} (C:c9 α) (h l):Wc C h (.iw l)=bif Nat.ble C.sz l.length then C.dec false h (l.take C.sz) else none:=id rfl
theorem Rg {α:Type} (C:c9 α) (h off cells k s e):adv C h off (.row cells k s e)=bif Nat.ble (off+C.sz) cells.length then C.dec false h ((cells.drop off).take C.sz) else none:=id rfl
theorem avy {α:Type} (C:c9 α) {g h w K b0 a v x} (hok:Ok g h w) (hl:zc g h K) (hr:Rel g w a v) (hd:Wc C h a=some x):Rel (gK b0 K) w (.iw (C.cells false x)) v:=by
 have fin:∀ (b off:Nat) (vs:List Value),bo g w ((C.cells false x).map fun _=>AV.bad) vs→bo (gK b0 K) w (C.cells false x) vs→(∀ j u,vs[j]? = some u→K b (off+j)∧w.cell? ⟨b,off+j,none⟩=some u)→Rel (gK b0 K) w (.iw (C.cells false x)) (.pointer (some ⟨b,off,none⟩)):=by
  intro b off vs _ hrl hc
  refine .iw _ b off (fun j=>vs.getD j undef) (fun j a hj=>?_) (fun j a hj=>?_)
  ·obtain ⟨u,hu,_⟩:=hrl.get hj
   have:=hc j u hu
   exact ⟨this.1,by rw [this.2,List.getD_eq_getElem?_getD,hu];rfl⟩
  ·obtain ⟨u,hu,hrel⟩:=hrl.get hj
   show Rel _ _ a (vs.getD j undef)
   rw [List.getD_eq_getElem?_getD,hu];exact hrel
 have bads:∀ vs:List Value,bo (gK b0 K) w (C.cells false x) vs→bo g w ((C.cells false x).map fun _=>AV.bad) vs:=fun vs h=>⟨by simpa using h.1,fun i a v ha _=>by
  rw [List.getElem?_map,Option.map_eq_some_iff] at ha
  obtain ⟨_,_,rfl⟩:=ha
  exact .bad _⟩
 cases hr with
 |iw l b off c h1 h2=>
  rw [Zi] at hd
  cases hb:Nat.ble C.sz l.length with
  |false=>rw [hb] at hd;cases hd
  |true=>
   rw [hb,cond_true] at hd
   have hle:=Nat.le_of_ble_eq_true hb
   have hlist:bo g w (l.take C.sz) (n9 0 C.sz c):=by
    refine ⟨by simp [n9];omega,fun i a v ha hv=>?_⟩
    rw [List.getElem?_take] at ha
    by_cases hi:i<C.sz
    ·rw [if_pos hi] at ha
     simp only [n9,List.getElem?_map,List.getElem?_range hi,Option.map_some,Option.some.injEq,Nat.zero_add] at hv
     subst hv
     exact h2 i a ha
    ·rw [if_neg hi] at ha;cases ha
   have q:=C.ok (b0:=b0) hok hl (fun e=>by cases e) hlist hd
   refine fin b off _ (bads _ q) q (fun j u hu=>?_)
   have hj:j<C.sz:=by have:=(List.getElem?_eq_some_iff.1 hu).1;simpa [n9] using this
   simp only [n9,List.getElem?_map,List.getElem?_range hj,Option.map_some,Option.some.injEq,Nat.zero_add] at hu
   subst hu
   have:=h1 j _ (List.getElem?_eq_getElem (by omega))
   exact ⟨hl.K _ _ this.1,this.2⟩
 |ptr o off b base hi=>
  rw [Sp,Option.bind_eq_some_iff] at hd
  obtain ⟨y,hy,hd⟩:=hd
  obtain ⟨b',base',hi',hbb,hrow⟩:=hok.obj o y hy
  rw [hi] at hi';cases hi'
  cases y with
  |map es=>cases hd
  |loop=>cases hd
  |row cells k st et=>
   rw [Rg] at hd
   cases hle:Nat.ble (off+C.sz) cells.length with
   |false=>rw [hle] at hd;cases hd
   |true=>
    rw [hle,cond_true] at hd
    have hle':=Nat.le_of_ble_eq_true hle
    obtain ⟨cs,fz,r1,r2,r3,_⟩:=hrow
    have hpart:bo g w ((cells.drop off).take C.sz) (n9 (base+off) C.sz (fun j=>cs.getD j undef)):=by
     refine ⟨by simp [n9];omega,fun i a v ha hv=>?_⟩
     rw [List.getElem?_take,List.getElem?_drop] at ha
     by_cases hil:i<C.sz
     ·rw [if_pos hil] at ha
      obtain ⟨u,hu,hrel⟩:=r3 _ a ha
      simp only [n9,List.getElem?_map,List.getElem?_range hil,Option.map_some,Option.some.injEq] at hv
      subst hv
      rw [Array.getD_eq_getD_getElem?,Nat.add_assoc,hu]
      exact hrel
     ·rw [if_neg hil] at ha;cases ha
    have q:=C.ok (b0:=b0) hok hl (fun e=>by cases e) hpart hd
    refine fin b (base+off) _ (bads _ q) q (fun j u hv=>?_)
    have hj:j<C.sz:=by have:=(List.getElem?_eq_some_iff.1 hv).1;simpa [n9] using this
    simp only [n9,List.getElem?_map,List.getElem?_range hj,Option.map_some,Option.some.injEq] at hv
    obtain ⟨u,hu,_⟩:=r3 (off+j) (cells[off+j]'(by omega)) (by simp)
    have hrows:=hl.rows o cells k st et hy b base hi (off+j) (by omega)
    rw [← Nat.add_assoc] at hrows hu
    refine ⟨hrows,?_⟩
    rw [n7 r1,hu,← hv,Array.getD_eq_getD_getElem?,hu]
    rfl
 |_=>cases hd
def aP {α β:Type} (C:c9 α) (R:AC β):AC (α × β) where
 E p:=.iw (C.cells false p.1)::R.E p.2
 D h l:=match l with
  | []=>none
  |a::r=>match Wc C h a,R.D h r with
   |some x,some y=>some (x,y)
   |_,_=>none
 rt h p:=by
  have:Wc C h (.iw (C.cells false p.1))=some p.1:=by
   rw [Zi,C.len,Nat.ble_self_eq_true,cond_true,List.take_of_length_le (by rw [C.len];exact Nat.le_refl _)]
   exact C.rt false h false p.1 (fun e=>by cases e)
  simp only [this,R.rt]
 ok:=by
  intro g h w K b0 l vs x hok hl hr hd
  match l,hd with
  |a::r,hd=>
   simp only at hd
   split at hd
   ·rename_i x1 y1 hx hy
    simp at hd;subst hd
    match vs,hr with
    | [],hr=>have:=hr.1;simp at this
    |v::vs,hr=>exact bo.cons (avy C hok hl hr.head hx) (R.ok hok hl hr.tail hy)
   ·cases hd
theorem ax3 {α β:Type} (C:c9 α) (R:AC β) (h:Tr ba) (a:AV) (r:List AV):(aP C R).get h (a::r)=match Wc C h a,R.get h r with|some x,some y=>some (x,y)|_,_=>none:=id rfl
theorem ae4 (f) (l:List bn):(l.map (ak.val f)).flatMap AV.cells=cellsOf ak f l:=Fz ak f l
theorem Dq (f) (l:List bn) (d:bn):cellsOf ak f (l++[d])=cellsOf ak f l++[.vl f 1 (d.names.map (az.val f)),.vl f 1 (d.nums.map (db.val false)),.vl f 1 (d.texts.map (ai.val false)),.vl f 1 (d.raw.map (bp.val false))]:=by rw [yp,y6];rfl
structure aw where
 owner:Name
 type:UInt16
 cls:UInt16
 b7:UInt32
 data:List bn
def ld (owner:Name) (type:UInt16) (cls:UInt16) (b7:UInt32) (data:List bn):aw:=⟨owner,type,cls,b7,data⟩
theorem ail (x:aw):ld x.owner x.type x.cls x.b7 x.data=x:=id rfl
theorem ao8 (owner type cls b7 data):(ld owner type cls b7 data).owner=owner:=id rfl
theorem asq (owner type cls b7 data):(ld owner type cls b7 data).data=data:=id rfl
def aj:c9 aw:=Dd (m9 az (m9 cz (m9 cz (m9 db (cd ak))))) (fun x=>(x.owner,x.type,x.cls,x.b7,x.data)) (fun p=>⟨p.1,p.2.1,p.2.2.1,p.2.2.2.1,p.2.2.2.2⟩) (fun _=>rfl) (fun _=>rfl)
theorem jn (l:Bool) (x:aw):aj.val l x = .agg [.vl l 1 (x.owner.map (ai.val l)),.sc (.int .u16 x.type.toNat),.sc (.int .u16 x.cls.toNat),.sc (.int .u32 x.b7.toNat),.vl l 4 (x.data.map (ak.val l))]:=id rfl
theorem aaj (l:Bool) (x:aw):aj.cells l x=[.vl l 1 (x.owner.map (ai.val l)),.sc (.int .u16 x.type.toNat),.sc (.int .u16 x.cls.toNat),.sc (.int .u32 x.b7.toNat),.vl l 4 (x.data.map (ak.val l))]:=id rfl
theorem aae:aj.sz=5:=id rfl
theorem Jz (fr:Bool) (h:Tr ba) (y0 y1 y2 y3 y4:AV):aj.jd fr h (.agg [y0,y1,y2,y3,y4])=match jc ai fr h y0,cz.dec fr h [y1],cz.dec fr h [y2],db.dec fr h [y3],jc ak fr h y4 with
 |some v0,some v1,some v2,some v3,some v4=>some (ld v0 v1 v2 v3 v4)
 |_,_,_,_,_=>none:=by
 rw [B9 _ _ _ _ rfl rfl]
 have h1:aj.dec fr h (AV.agg [y0,y1,y2,y3,y4]).cells=Option.map (fun p=>(⟨p.1,p.2.1,p.2.2.1,p.2.2.2.1,p.2.2.2.2⟩:aw)) ((m9 az (m9 cz (m9 cz (m9 db (cd ak))))).dec fr h [y0,y1,y2,y3,y4]):=rfl
 rw [h1]
 simp only [at5,Eo,x5,M9,C9,Ji,C2,List.take_succ_cons,List.take_zero,List.drop_succ_cons,List.drop_zero,alq,al9]
 cases (jc ai fr h y0)<;>cases (cz.dec fr h [y1])<;>cases (cz.dec fr h [y2])<;>cases (db.dec fr h [y3])<;>cases (jc ak fr h y4)<;>rfl
theorem Pn (fr:Bool) (h:Tr ba) (y0 y1 y2 y3 y4:AV):aj.dec fr h [y0,y1,y2,y3,y4]=match jc ai fr h y0,cz.dec fr h [y1],cz.dec fr h [y2],db.dec fr h [y3],jc ak fr h y4 with
 |some v0,some v1,some v2,some v3,some v4=>some (ld v0 v1 v2 v3 v4)
 |_,_,_,_,_=>none:=(O8 aj fr h _ rfl).trans (Jz fr h y0 y1 y2 y3 y4)
theorem M7 (l) (xs:List aw) (x:aw):cellsOf aj l (xs++[x])=cellsOf aj l xs++[.vl l 1 (x.owner.map (ai.val false)),.sc (.int .u16 x.type.toNat),.sc (.int .u16 x.cls.toNat),.sc (.int .u32 x.b7.toNat),.vl l 4 (x.data.map (ak.val l))]:=by rw [yp,y6];rfl
structure ff where
 owner:Name
 type:UInt16
 cls:UInt16
 b7:UInt32
 data:bn
def mkR (owner:Name) (type:UInt16) (cls:UInt16) (b7:UInt32) (data:bn):ff:=⟨owner,type,cls,b7,data⟩
def dr:c9 ff:=Dd (m9 az (m9 cz (m9 cz (m9 db ak)))) (fun x=>(x.owner,x.type,x.cls,x.b7,x.data)) (fun p=>⟨p.1,p.2.1,p.2.2.1,p.2.2.2.1,p.2.2.2.2⟩) (fun _=>rfl) (fun _=>rfl)
theorem D6 (l:Bool) (x:ff):dr.val l x = .agg [.vl l 1 (x.owner.map (ai.val l)),.sc (.int .u16 x.type.toNat),.sc (.int .u16 x.cls.toNat),.sc (.int .u32 x.b7.toNat),.vl l 1 (x.data.names.map (az.val l)),.vl l 1 (x.data.nums.map (db.val l)),.vl l 1 (x.data.texts.map (ai.val l)),.vl l 1 (x.data.raw.map (bp.val l))]:=id rfl
theorem Xs:dr.sz=8:=id rfl
theorem Qo (f) (l:List ff):(l.map (dr.val f)).flatMap AV.cells=cellsOf dr f l:=Fz dr f l
theorem abl (l) (xs:List ff) (x:ff):cellsOf dr l (xs++[x])=cellsOf dr l xs++[.vl l 1 (x.owner.map (ai.val false)),.sc (.int .u16 x.type.toNat),.sc (.int .u16 x.cls.toNat),.sc (.int .u32 x.b7.toNat),.vl l 1 (x.data.names.map (az.val l)),.vl l 1 (x.data.nums.map (db.val false)),.vl l 1 (x.data.texts.map (ai.val false)),.vl l 1 (x.data.raw.map (bp.val false))]:=by rw [yp,y6];rfl
structure cw where
 origin:Name
 an:List aw
def F9 (origin:Name) (an:List aw):cw:=⟨origin,an⟩
theorem akd (x:cw):F9 x.origin x.an=x:=id rfl
def eg:c9 cw:=Dd (m9 az (cd aj)) (fun x=>(x.origin,x.an)) (fun p=>⟨p.1,p.2⟩) (fun _=>rfl) (fun _=>rfl)
theorem p0 (l:Bool) (x:cw):eg.val l x = .agg [.vl l 1 (x.origin.map (ai.val l)),.vl l 5 (x.an.map (aj.val l))]:=id rfl
theorem By (l:Bool) (x:cw):eg.cells l x=[.vl l 1 (x.origin.map (ai.val l)),.vl l 5 (x.an.map (aj.val l))]:=id rfl
theorem Jp:eg.sz=2:=id rfl
theorem Hw (fr:Bool) (h:Tr ba) (y0 y1:AV):eg.jd fr h (.agg [y0,y1])=match jc ai fr h y0,jc aj fr h y1 with
 |some v0,some v1=>some (F9 v0 v1)
 |_,_=>none:=by
 rw [B9 _ _ _ _ rfl rfl]
 have h1:eg.dec fr h (AV.agg [y0,y1]).cells=Option.map (fun p=>(⟨p.1,p.2⟩:cw)) ((m9 az (cd aj)).dec fr h [y0,y1]):=rfl
 rw [h1]
 simp only [at5,Eo,x5,M9,C9,Ji,C2,List.take_succ_cons,List.take_zero,List.drop_succ_cons,List.drop_zero,alq,al9]
 cases (jc ai fr h y0)<;>cases (jc aj fr h y1)<;>rfl
theorem Lq (fr:Bool) (h:Tr ba) (y0 y1:AV):eg.dec fr h [y0,y1]=match jc ai fr h y0,jc aj fr h y1 with
 |some v0,some v1=>some (F9 v0 v1)
 |_,_=>none:=(O8 eg fr h _ rfl).trans (Hw fr h y0 y1)
structure auv where
 addr:UInt32
 amf:List Int
structure agb where
 amf:List cw
 azn:List auv
 hints:List UInt32
structure abc where
 kind:Int
 node:Name
 ajm:Name
def mkP (kind:Int) (node:Name) (ajm:Name):abc:=⟨kind,node,ajm⟩
structure akm where
 turn:Int
 an:List aw
 to:Name
def mkT (turn:Int) (an:List aw) (to:Name):akm:=⟨turn,an,to⟩
structure ve where
 z:cw
 e:Int
def mkL (z:cw) (e:Int):ve:=⟨z,e⟩
theorem ava (z e):(mkL z e).z=z:=id rfl
def nq:c9 ve:=Dd (m9 eg (bc .i64)) (fun x=>(x.z,x.e)) (fun p=>⟨p.1,p.2⟩) (fun _=>rfl) (fun _=>rfl)
theorem Bk (l:Bool) (x:ve):nq.cells l x=[.vl l 1 (x.z.origin.map (ai.val l)),.vl l 5 (x.z.an.map (aj.val l)),.sc (.int .i64 x.e)]:=id rfl
theorem Vw:nq.sz=3:=id rfl
theorem ahj (fr:Bool) (h:Tr ba) (y00 y01 y1:AV):nq.jd fr h (.agg [y00,y01,y1])=match eg.jd fr h (.agg [y00,y01]),(bc .i64).dec fr h [y1] with
 |some v0,some v1=>some (mkL v0 v1)
 |_,_=>none:=by
 rw [B9 _ _ _ _ rfl rfl]
 have h1:nq.dec fr h (AV.agg [y00,y01,y1]).cells=Option.map (fun p=>(⟨p.1,p.2⟩:ve)) ((m9 eg (bc .i64)).dec fr h [y00,y01,y1]):=rfl
 rw [h1]
 simp only [at5,Eo,x5,M9,C9,Ji,C2,List.take_succ_cons,List.take_zero,List.drop_succ_cons,List.drop_zero,alq,al9,Jp,O8 eg fr h _ rfl]
 cases (eg.jd fr h (.agg [y00,y01]))<;>cases ((bc .i64).dec fr h [y1])<;>rfl
theorem Mf (fr:Bool) (h:Tr ba) (y00 y01 y1:AV):nq.dec fr h [y00,y01,y1]=match eg.jd fr h (.agg [y00,y01]),(bc .i64).dec fr h [y1] with
 |some v0,some v1=>some (mkL v0 v1)
 |_,_=>none:=(O8 nq fr h _ rfl).trans (ahj fr h y00 y01 y1)
structure Lj where
 aub:Int
 aa:Bool
 answer:List aw
 authority:List aw
 Kf:List aw
def Yi (aub:Int) (aa:Bool) (answer:List aw) (authority:List aw) (Kf:List aw):Lj:=⟨aub,aa,answer,authority,Kf⟩
theorem ae:type_of% @Ks∧type_of% @Ko∧type_of% @ajj∧type_of% @md8∧type_of% @dv4∧type_of% @dv5∧type_of% @dv8∧type_of% @ajq∧type_of% @Sp∧type_of% @Rg∧type_of% @ax3∧type_of% @Mv∧type_of% @Kw∧type_of% @Ps∧type_of% @tn∧type_of% @nh∧type_of% @ail∧type_of% @Pn∧type_of% @jn∧type_of% @aae∧type_of% @Jz∧type_of% @D6∧type_of% @Xs∧type_of% @Qo∧type_of% @akd∧type_of% @Lq∧type_of% @p0∧type_of% @Jp∧type_of% @Hw∧type_of% @ava∧type_of% @Mf∧type_of% @Vw:=
 ⟨@Ks,@Ko,@ajj,@md8,@dv4,@dv5,@dv8,@ajq,@Sp,@Rg,@ax3,@Mv,@Kw,@Ps,@tn,@nh,@ail,@Pn,@jn,@aae,@Jz,@D6,@Xs,@Qo,@akd,@Lq,@p0,@Jp,@Hw,@ava,@Mf,@Vw⟩
end
end Go.Vm
end
section
namespace Go.Proofs.YtifjogffkafalaaGreat
open Go.Vm
set_option maxRecDepth 2000000
noncomputable def np (t:UInt16) (l:List bn) (d:bn):Bool:=l.any fun x=>yd t x d
theorem ax5 (t:UInt16) (l:List bn) (d:bn) (hl:∀ x ∈ l,da x) (hn:l.length≤16777216) (hd:da d):wl PP [] 0 (Tryz.f46.body.getD .skip) (du PP Tryz.f46.results.toList (fun r st=>(r1 bw).get true st.h r=some (np t l d))) (cg 0 [cz.val false t,(cd ak).val false l,ak.val false d]) (bb []):=by
 unfold Tryz.f46
 simp only [px,nc]
 simp only [↓wR,RA,simprocAttr,TF,ae]
 refine bm (T:=[]) (aq.nil PP) mixed Tryz.func73 rfl (by kernel_rfl) (by kernel_rfl) (by kernel_rfl) (by kernel_rfl) ?_;unfold Tryz.f73
 simp only [↓wR,RA,simprocAttr,TF,ae]
 refine bm (T:=[]) (aq.nil PP) mixed Tryz.func95 rfl (by kernel_rfl) (by kernel_rfl) (by kernel_rfl) (by kernel_rfl) ?_;unfold Tryz.f95
 simp only [↓wR,RA,simprocAttr,TF,ae]
 refine c8 [0,1,7,8] (fun (i:Nat)=>[.vl false 4 (l.map (ak.val false)),.fn (.func 74) [] [.ptr 0 0,.ptr 1 0],.sc (.int .i64 (l.length)),.sc (.int .i64 (i))]) (fun _=>[some (.row [.sc (.int .u16 t.toNat)] 0 2 37),some (.row [.vl false 1 (d.names.map (az.val false)),.vl false 1 (d.nums.map (db.val false)),.vl false 1 (d.texts.map (ai.val false)),.vl false 1 (d.raw.map (bp.val false))] 0 2 44)]) (fun i=>i≤l.length∧np t l d=np t (l.drop i) d) (fun i=>l.length - i) 0 ⟨Nat.zero_le _,rfl⟩ (by simp only [↓wR,RA,simprocAttr,TF,ae]<;>rfl) (by simp only [↓wR,RA,simprocAttr,TF,ae]<;>rfl) ?_
 rintro i ⟨hi,hx⟩
 simp only [↓wR,RA,simprocAttr,TF,ae]
 rw [bj];refine ⟨fun h=>?_,fun h=>?_⟩
 ·obtain ⟨c,hc,hd1,hlt⟩:=gm (decide_eq_true h)
  have hx':np t l d=(yd t c d || np t (l.drop (i+1)) d):=by rw [hx,hd1];rfl
  simp only [↓wR,RA,simprocAttr,TF,ae,h,hc];repeat (simp (disch:=omega) only [ah,bh,bf,bg,be];try simp only [↓wR,RA,simprocAttr,TF,ae,h,hc])
  refine bm (T:=[as8]) (aq.cons (ar aar) (aq.nil PP)) mixed Tryz.func74 rfl (by kernel_rfl) (by kernel_rfl) (by kernel_rfl) (by kernel_rfl) ?_;unfold Tryz.f74
  simp only [↓wR,RA,simprocAttr,TF,ae,Da,hl c (List.mem_of_getElem? hc),hd]
  rw [dm];refine ⟨fun h1=>?_,fun h1=>?_⟩
  ·rw [h1,Bool.true_or] at hx'
   simp only [↓wR,RA,simprocAttr,TF,ae,h1]
   rw [hx']
   done
  ·rw [h1,Bool.false_or] at hx'
   simp only [↓wR,RA,simprocAttr,TF,ae,h1];repeat (simp (disch:=omega) only [ah,bh,bf,bg,be];try simp only [↓wR,RA,simprocAttr,TF,ae,h1])
   exact ⟨i+1,⟨hlt,hx'⟩,by omega,by (first|rfl|trivial|omega|((try (simp (disch:=omega) only [ah]));(try (simp only [FB]));first|done|rfl|omega))⟩
 ·rw [jh (decide_eq_false h)] at hx
  simp only [↓wR,RA,simprocAttr,TF,ae,h]
  rw [hx];rfl
def lg (l:List bn):Prop:=di lf l≤16777216
instance (l:List bn):Decidable (lg l):=inferInstanceAs (Decidable (_≤_))
theorem lg.mem {l:List bn} (h:lg l):∀ x ∈ l,da x:=fun x hx=>by
 have h1:lf x<di lf l:=z5 hx
 unfold lg at h;unfold da;omega
theorem lg.len {l:List bn} (h:lg l):l.length≤16777216:=Nat.le_trans (B3 lf l) h
theorem ab0 {α:Type} (f : α→Nat) (l:List α) (i:Nat):di f (l.take i)≤di f l:=by
 induction l generalizing i with
 |nil=>simp
 |cons a l ih=>
  cases i with
  |zero=>exact Nat.zero_le _
  |succ i=>have:=ih i;simp only [di,List.take_succ_cons,List.foldr_cons] at this ⊢;omega
theorem lg.take {l:List bn} (h:lg l) (i:Nat):lg (l.take i):=Nat.le_trans (ab0 lf l i) h
noncomputable def x9 (x:UInt16 × List bn × bn × Unit):Option AV:=if lg x.2.1∧da x.2.2.1 then some ((r1 bw).E true (np x.1 x.2.1 x.2.2.1)) else none
set_option maxRecDepth 2000000 in
theorem Y7 (x:UInt16 × List bn × bn × Unit) (r:AV) (h:x9 x=some r):bu PP 46 ((aC cz (aC (cd ak) (aC ak a0))).E x) r:=by
 by_cases hc:lg x.2.1∧da x.2.2.1
 case neg=>simp only [x9,if_neg hc] at h;cases h
 simp only [x9,if_pos hc] at h
 cases h
 exact bk (aq.nil PP) Tryz.func46 (by kernel_rfl) (by kernel_rfl) (by kernel_rfl) (Nat.le_of_ble_eq_true (by kernel_rfl)) (r1 bw) true (np x.1 x.2.1 x.2.2.1) (ax5 x.1 x.2.1 x.2.2.1 hc.1.mem hc.1.len hc.2)
noncomputable abbrev z7:Nat × Bool × (List AV→M AV):=(46,true,dq (aC cz (aC (cd ak) (aC ak a0))) x9)
def lh (s:aw):Nat:=bt s.owner+di lf s.data
def de (s:aw):Prop:=lh s≤16777216
instance (s:aw):Decidable (de s):=inferInstanceAs (Decidable (_≤_))
theorem de.owner {s:aw} (h:de s):cp s.owner:=by unfold de lh at h;unfold cp;omega
theorem de.data {s:aw} (h:de s):lg s.data:=by unfold de lh at h;unfold lg;omega
noncomputable def g7 (t:UInt16):List bn→List bn→Int
 |_,[]=>0
 |pre,d::r=>if c7 t d≠0 then c7 t d else if np t pre d=true then 10 else g7 t (pre++[d]) r
noncomputable def ng (s:aw):Int:=
 if cy s.owner≠0 then cy s.owner else if s.data.length=0 then 9 else if 512<s.data.length then 3 else g7 s.type [] s.data
theorem Hr (t:UInt16) {l:List bn} {i:Nat} {c:bn} (hc:l[i]? = some c):g7 t (l.take i) (l.drop i)=if c7 t c≠0 then c7 t c else if np t (l.take i) c=true then 10 else g7 t (l.take (i+1)) (l.drop (i+1)):=by
 obtain ⟨hi,rfl⟩:=List.getElem?_eq_some_iff.1 hc
 rw [List.drop_eq_getElem_cons hi,g7,List.take_succ_eq_append_getElem hi]
theorem ahl (s:aw) (hs:de s):wl PP [dj,j9,z7] 0 (Tryz.f39.body.getD .skip) (du PP Tryz.f39.results.toList (fun r st=>(r1 (bc .i64)).get true st.h r=some (ng s))) (cg 0 [aj.val false s]) (bb []):=by
 have ho:=hs.owner
 have hd:=hs.data
 have hn:=hd.len
 unfold Tryz.f39
 simp only [jn]
 simp only [↓wR,RA,simprocAttr,TF,ae,i3,ho.fit]
 unfold ng
 rw [dm];refine ⟨fun h=>?_,fun h=>?_⟩
 ·have he:cy s.owner≠0:=by simpa using h
  rw [if_pos he]
  simp only [↓wR,RA,simprocAttr,TF,ae,h]
 have he:cy s.owner=0:=by simpa using h
 rw [if_neg (by omega)]
 simp only [↓wR,RA,simprocAttr,TF,ae,h]
 rw [eb];refine ⟨fun ⟨h1,e1⟩=>?_,fun ⟨h1,e1⟩=>?_⟩
 ·rw [if_pos (by omega)]
  simp only [↓wR,RA,simprocAttr,TF,ae,h1]
 rw [if_neg (by omega)]
 simp only [↓wR,RA,simprocAttr,TF,ae,h1]
 rw [bj];refine ⟨fun h2=>?_,fun h2=>?_⟩
 ·rw [if_pos (by omega)]
  simp only [↓wR,RA,simprocAttr,TF,ae,h2]
 rw [if_neg (by omega)]
 simp only [↓wR,RA,simprocAttr,TF,ae,h2]
 refine c8 [1,24,25,26] (fun (i:Nat)=>[.ptr 0 0,.vl false 4 (s.data.map (ak.val false)),.sc (.int .i64 (s.data.length)),.sc (.int .i64 (i))]) (fun _=>[some (.row [.vl false 1 (s.owner.map (ai.val false)),.sc (.int .u16 s.type.toNat),.sc (.int .u16 s.cls.toNat),.sc (.int .u32 s.b7.toNat),.vl false 4 (s.data.map (ak.val false))] 0 2 58)]) (fun i=>i≤s.data.length∧g7 s.type [] s.data=g7 s.type (s.data.take i) (s.data.drop i)) (fun i=>s.data.length - i) 0 ⟨Nat.zero_le _,rfl⟩ (by simp only [↓wR,RA,simprocAttr,TF,ae]<;>rfl) (by simp only [↓wR,RA,simprocAttr,TF,ae]<;>rfl) ?_
 rintro i ⟨hi,hx⟩
 simp only [↓wR,RA,simprocAttr,TF,ae]
 rw [bj];refine ⟨fun h3=>?_,fun h3=>?_⟩
 ·obtain ⟨c,hc,hd1,hlt⟩:=gm (decide_eq_true h3)
  rw [Hr _ hc] at hx
  have hcs:=hd.mem c (List.mem_of_getElem? hc)
  simp only [↓wR,RA,simprocAttr,TF,ae,h3,hc,i7,hcs]
  rw [dm];refine ⟨fun h4=>?_,fun h4=>?_⟩
  ·have he4:c7 s.type c≠0:=by simpa using h4
   rw [if_pos he4] at hx
   simp only [↓wR,RA,simprocAttr,TF,ae,h4]
   rw [hx]
  ·have he4:c7 s.type c=0:=by simpa using h4
   rw [if_neg (by omega)] at hx
   simp only [↓wR,RA,simprocAttr,TF,ae,h4]
   refine ⟨by kernel_rfl,.inl ?_⟩
   simp only [↓wR,RA,simprocAttr,TF,ae,hi,x9,hd.take i,hcs]
   refine ⟨by kernel_rfl,?_⟩
   rw [dm];refine ⟨fun h5=>?_,fun h5=>?_⟩
   ·rw [if_pos h5] at hx
    simp only [↓wR,RA,simprocAttr,TF,ae,h5]
    rw [hx]
   ·rw [if_neg (by rw [h5];decide)] at hx
    simp only [↓wR,RA,simprocAttr,TF,ae,h5];repeat (simp (disch:=omega) only [ah,bh,bf,bg,be];try simp only [↓wR,RA,simprocAttr,TF,ae,h5])
    exact ⟨i+1,⟨hlt,hx⟩,by omega,by (first|rfl|trivial|omega|((try (simp (disch:=omega) only [ah]));(try (simp only [FB]));first|done|rfl|omega))⟩
 ·rw [jh (decide_eq_false h3)] at hx
  simp only [↓wR,RA,simprocAttr,TF,ae,h3]
  rw [hx];rfl
noncomputable def xb (x:aw × Unit):Option AV:=if de x.1 then some ((r1 (bc .i64)).E true (ng x.1)) else none
set_option maxRecDepth 2000000 in
theorem Dv (x:aw × Unit) (r:AV) (h:xb x=some r):bu PP 39 ((aC aj a0).E x) r:=by
 by_cases hc:de x.1
 case neg=>simp only [xb,if_neg hc] at h;cases h
 simp only [xb,if_pos hc] at h
 cases h
 exact bk (aq.cons (ar sh) (aq.cons (ar ug) (aq.cons (ar Y7) (aq.nil PP)))) Tryz.func39 (by kernel_rfl) (by kernel_rfl) (by kernel_rfl) (Nat.le_of_ble_eq_true (by kernel_rfl)) (r1 (bc .i64)) true (ng x.1) (ahl x.1 hc)
noncomputable abbrev ic:Nat × Bool × (List AV→M AV):=(39,true,dq (aC aj a0) xb)
theorem alk (s:aw) (hs:de s):wl PP [j3,mi] 0 (Tryz.f76.body.getD .skip) (du PP Tryz.f76.results.toList (fun r st=>(r1 aj).get true st.h r=some s)) (cg 0 [aj.val false s]) (bb []):=by
 have ho:=hs.owner
 have hd:=hs.data
 have hn:=hd.len
 unfold Tryz.f76
 simp only [jn]
 simp only [↓wR,RA,simprocAttr,TF,ae,mw,ho]
 refine n8 [2,13,14,15,3] (fun (x:List bn)=>[.ptr 0 0,.vl false 4 (s.data.map (ak.val false)),.sc (.int .i64 (s.data.length)),.sc (.int .i64 (x.length)),.ptr 1 0]) (fun x=>[some (.row [.sc (.slice none 0 0),.sc (.int .u16 0),.sc (.int .u16 0),.sc (.int .u32 0),.sc (.slice none 0 0)] 0 2 58),some (.row [az.val true s.owner,.sc (.int .u16 s.type.toNat),.sc (.int .u16 s.cls.toNat),.sc (.int .u32 s.b7.toNat),.sl 2 0 x.length 4] 0 2 58),some (.row (cellsOf ak true x) 0 0 44)]) (fun x=>x.length≤s.data.length∧x++s.data.drop x.length=s.data) (fun x=>s.data.length - x.length) [] ⟨Nat.zero_le _,rfl⟩ (by simp only [↓wR,RA,simprocAttr,TF,ae];(refine tu.lax [] (by first|exact Nat.le_of_ble_eq_true rfl|(simp [br];omega)) ?_ ?_<;>repeat' first|exact j0.nil|exact dp.nil|exact ke.same _|exact ke.nil _ _ _|exact ke.yk _ _|exact dp.refl _ _|apply j0.cons|apply dp.ghost|apply dp.same|apply dp.row)) ?_
 rintro x ⟨hi,hx⟩
 simp only [↓wR,RA,simprocAttr,TF,ae]
 rw [bj];refine ⟨fun h=>?_,fun h=>?_⟩
 ·obtain ⟨c,hc,hd1,hlt⟩:=gm (decide_eq_true h)
  rw [hd1] at hx
  have hcs:=hd.mem c (List.mem_of_getElem? hc)
  simp only [↓wR,RA,simprocAttr,TF,ae,h,hc]
  refine ⟨by kernel_rfl,.inl ?_⟩
  have hlim:(x.length * 4+4) * 96≤140737488355328:=by omega
  simp only [↓wR,RA,simprocAttr,TF,ae,pa,hcs,hlim]
  refine ⟨by kernel_rfl,x++[c],⟨by simp;omega,by simpa using hx⟩,by simp;omega,by (first|rfl|trivial|omega|((try (simp (disch:=omega) only [ah]));(try (simp only [FB]));first|done|rfl|omega)),?_⟩
  rw [Dq,List.length_append];rfl
 ·rw [jh (decide_eq_false h)] at hx
  rw [List.append_nil] at hx
  subst hx
  simp only [↓wR,RA,simprocAttr,TF,ae,h]
noncomputable def Cd (x:aw × Unit):Option AV:=if de x.1 then some ((r1 aj).E true (x.1)) else none
set_option maxRecDepth 2000000 in
theorem adj (x:aw × Unit) (r:AV) (h:Cd x=some r):bu PP 76 ((aC aj a0).E x) r:=by
 by_cases hc:de x.1
 case neg=>simp only [Cd,if_neg hc] at h;cases h
 simp only [Cd,if_pos hc] at h
 cases h
 exact bk (aq.cons (ar o9) (aq.cons (ar zf) (aq.nil PP))) Tryz.func76 (by kernel_rfl) (by kernel_rfl) (by kernel_rfl) (Nat.le_of_ble_eq_true (by kernel_rfl)) (r1 aj) true (x.1) (alk x.1 hc)
noncomputable abbrev avd:Nat × Bool × (List AV→M AV):=(76,true,dq (aC aj a0) Cd)
def N5 (z:cw):Nat:=bt z.origin+di lh z.an
def dw (z:cw):Prop:=N5 z≤16777216
instance (z:cw):Decidable (dw z):=inferInstanceAs (Decidable (_≤_))
theorem dw.origin {z:cw} (h:dw z):cp z.origin:=by unfold dw N5 at h;unfold cp;omega
theorem dw.set {z:cw} (h:dw z):∀ s ∈ z.an,de s:=fun s hs=>by
 have h1:lh s<di lh z.an:=z5 hs
 unfold dw N5 at h;unfold de;omega
theorem dw.len {z:cw} (h:dw z):z.an.length≤16777216:=by have:=B3 lh z.an;unfold dw N5 at h;omega
def Ie (n top:Name):Bool:=decide (top.length<n.length) && jm n top
theorem atw (n top:Name) (hn:cp n) (ht:cp top):wl PP [Dc] 0 (Tryz.f33.body.getD .skip) (du PP Tryz.f33.results.toList (fun r st=>(r1 bw).get true st.h r=some (Ie n top))) (cg 0 [az.val false n,az.val false top]) (bb []):=by
 unfold Tryz.f33
 simp only [dt]
 simp only [↓wR,RA,simprocAttr,TF,ae]
 unfold Ie
 rw [bj];refine ⟨fun h=>?_,fun h=>?_⟩
 ·rw [decide_eq_true (show top.length<n.length by omega)]
  simp only [↓wR,RA,simprocAttr,TF,ae,h,rq,hn,ht]
 ·rw [decide_eq_false (show ¬ top.length<n.length by omega)]
  simp only [↓wR,RA,simprocAttr,TF,ae,h]
  rfl
noncomputable def Ib (x:Name × Name × Unit):Option AV:=if cp x.1∧cp x.2.1 then some ((r1 bw).E true (Ie x.1 x.2.1)) else none
set_option maxRecDepth 2000000 in
theorem ag6 (x:Name × Name × Unit) (r:AV) (h:Ib x=some r):bu PP 33 ((aC az (aC az a0)).E x) r:=by
 by_cases hc:cp x.1∧cp x.2.1
 case neg=>simp only [Ib,if_neg hc] at h;cases h
 simp only [Ib,if_pos hc] at h
 cases h
 exact bk (aq.cons (ar xr) (aq.nil PP)) Tryz.func33 (by kernel_rfl) (by kernel_rfl) (by kernel_rfl) (Nat.le_of_ble_eq_true (by kernel_rfl)) (r1 bw) true (Ie x.1 x.2.1) (atw x.1 x.2.1 hc.1 hc.2)
noncomputable abbrev axi:Nat × Bool × (List AV→M AV):=(33,true,dq (aC az (aC az a0)) Ib)
def atV (z:cw) (n:Name):List aw:=z.an.filter fun s=>jg s.owner n
def Ox (n:Name) (b:Option Name):Bool:=match b with|none=>true|some m=>decide (n.length<m.length)
def l9 (z:cw) (n:Name) (best:Option Name) (s:aw):Option Name:=
 if (decide ((s.type.toNat:Int)=2) && (Ie s.owner z.origin && (jm n s.owner && Ox s.owner best)))=true then some s.owner else best
def Am (z:cw) (n:Name):Option Name:=z.an.foldl (l9 z n) none
theorem ao0 {z:cw} {n:Name} (hz:dw z):∀ (l:List aw) (b:Option Name),(∀ s ∈ l,s ∈ z.an)→(∀ m,b=some m→cp m)→∀ m,l.foldl (l9 z n) b=some m→cp m:=by
 intro l
 induction l with
 |nil=>intro b _ hb m hm;exact hb m hm
 |cons s l ih=>
  intro b hl hb m hm
  refine ih (l9 z n b s) (fun x hx=>hl x (by simp [hx])) (fun q hq=>?_) m hm
  unfold l9 at hq
  split at hq
  ·cases hq;exact (hz.set s (hl s (by simp))).owner
  ·exact hb q hq
theorem axk (z:cw) (n:Name) (hz:dw z) (hn:cp n):wl PP [Dc,axi,j3] 0 (Tryz.f12.body.getD .skip) (du PP Tryz.f12.results.toList (fun r st=>(r2 az bw).get true st.h r=some ((Am z n).getD [],(Am z n).isSome))) (cg 0 [eg.val false z,az.val false n]) (bb []):=by
 have hl:=hz.len
 unfold Tryz.f12
 simp only [p0,dt]
 simp only [↓wR,RA,simprocAttr,TF,ae]
 refine bm (T:=[]) (aq.nil PP) mixed Tryz.func23 rfl (by kernel_rfl) (by kernel_rfl) (by kernel_rfl) (by kernel_rfl) ?_;unfold Tryz.f23
 simp only [↓wR,RA,simprocAttr,TF,ae]
 refine ⟨[2,3,6,7,10],?_⟩
 have hib:wt PP 42=some (Tryz.f42.ntmps,Tryz.f42.body.getD .skip):=by kernel_rfl
 simp only [↓wR,RA,simprocAttr,TF,ae,hib]
 refine ⟨by kernel_rfl,fun l=>?_⟩
 unfold Tryz.f42
 simp only [↓wR,RA,simprocAttr,TF,ae]
 refine aln [0,2,7,8,9] (fun (x:Nat × Option Name)=>[.sc (.func (.yield l) #[] #[]),.ptr 5 0,.vl false 5 (z.an.map (aj.val false)),.sc (.int .i64 (z.an.length)),.sc (.int .i64 (x.1))]) (fun x=>[some (.row [.vl false 1 (z.origin.map (ai.val false)),.vl false 5 (z.an.map (aj.val false))] 0 2 26),some (.row [.vl false 1 (n.map (ai.val false))] 0 2 23),some (.row [.vl false 1 ((x.2.getD []).map (ai.val false))] 0 2 23),some (.row [.sc (.bool (x.2.isSome))] 0 2 4),some (.row [.vl false 1 (z.origin.map (ai.val false)),.vl false 5 (z.an.map (aj.val false))] 0 2 26),some (.row [.sc (.int .u16 2)] 0 2 37)]) (fun x=>x.1≤z.an.length∧Am z n=(z.an.drop x.1).foldl (l9 z n) x.2∧∀ m,x.2=some m→cp m) (fun x=>z.an.length - x.1) (0,none) ⟨Nat.zero_le _,rfl,fun m hm=>by cases hm⟩ (by simp only [↓wR,RA,simprocAttr,TF,ae];(refine tu.lax [] (by first|exact Nat.le_of_ble_eq_true rfl|(simp [br];omega)) ?_ ?_<;>repeat' first|exact j0.nil|exact dp.nil|exact ke.same _|exact ke.nil _ _ _|exact ke.yk _ _|exact dp.refl _ _|apply j0.cons|apply dp.ghost|apply dp.same|apply dp.row)) ?_
 rintro ⟨i,b⟩ ⟨hi,hx,hb⟩
 simp only at hi hx hb
 simp only [↓wR,RA,simprocAttr,TF,ae]
 rw [yc];refine ⟨fun h=>?_,fun h=>?_⟩
 ·obtain ⟨c,hc,hd1,hlt⟩:=gm h
  have hcs:=hz.set c (List.mem_of_getElem? hc)
  have hstep:Am z n=(z.an.drop (i+1)).foldl (l9 z n) (l9 z n b c):=by rw [hx,hd1];rfl
  simp only [↓wR,RA,simprocAttr,TF,ae,h,hc]
  rw [yc];refine ⟨fun h2=>?_,fun h2=>?_⟩
  ·have e2:(c.type.toNat:Int)=2:=by simpa using h2
   simp only [↓wR,RA,simprocAttr,TF,ae,h2]
   refine z8 [0,2,7,8,9,17,19] ?_
   simp only [↓wR,RA,simprocAttr,TF,ae,A1,po,Ib,hcs.owner,hz.origin]
   rw [dm];refine ⟨fun h3=>?_,fun h3=>?_⟩
   ·simp only [↓wR,RA,simprocAttr,TF,ae,h3,rq,hcs.owner,hn]
    rw [dm];refine ⟨fun h4=>?_,fun h4=>?_⟩
    ·cases b with
     |none=>
      have hb2:l9 z n none c=some c.owner:=by simp [l9,e2,h3,h4,Ox]
      rw [hb2] at hstep
      simp only [↓wR,RA,simprocAttr,TF,ae,h4,Option.isSome_none];repeat (simp (disch:=omega) only [ah,bh,bf,bg,be];try simp only [↓wR,RA,simprocAttr,TF,ae,h4,Option.isSome_none])
      exact ⟨(i+1,some c.owner),⟨hlt,hstep,fun m hm=>by cases hm;exact hcs.owner⟩,by simp;omega,by (first|rfl|trivial|omega|((try (simp (disch:=omega) only [ah]));(try (simp only [FB]));first|done|rfl|omega)),by (first|rfl|trivial|omega|((try (simp (disch:=omega) only [ah]));(try (simp only [FB]));first|done|rfl|omega))⟩
     |some m=>
      simp only [↓wR,RA,simprocAttr,TF,ae,h4]
      rw [bj];refine ⟨fun h5=>?_,fun h5=>?_⟩
      ·have hb2:l9 z n (some m) c=some c.owner:=by simp [l9,e2,h3,h4,Ox];omega
       rw [hb2] at hstep
       simp only [↓wR,RA,simprocAttr,TF,ae,h5];repeat (simp (disch:=omega) only [ah,bh,bf,bg,be];try simp only [↓wR,RA,simprocAttr,TF,ae,h5])
       exact ⟨(i+1,some c.owner),⟨hlt,hstep,fun m hm=>by cases hm;exact hcs.owner⟩,by simp;omega,by (first|rfl|trivial|omega|((try (simp (disch:=omega) only [ah]));(try (simp only [FB]));first|done|rfl|omega)),by (first|rfl|trivial|omega|((try (simp (disch:=omega) only [ah]));(try (simp only [FB]));first|done|rfl|omega))⟩
      ·have hb2:l9 z n (some m) c=some m:=by simp [l9,e2,h3,h4,Ox];omega
       rw [hb2] at hstep
       simp only [↓wR,RA,simprocAttr,TF,ae,h5];repeat (simp (disch:=omega) only [ah,bh,bf,bg,be];try simp only [↓wR,RA,simprocAttr,TF,ae,h5])
       exact ⟨(i+1,some m),⟨hlt,hstep,hb⟩,by simp;omega,by (first|rfl|trivial|omega|((try (simp (disch:=omega) only [ah]));(try (simp only [FB]));first|done|rfl|omega)),by (first|rfl|trivial|omega|((try (simp (disch:=omega) only [ah]));(try (simp only [FB]));first|done|rfl|omega))⟩
    ·have hb2:l9 z n b c=b:=by simp [l9,h4]
     rw [hb2] at hstep
     simp only [↓wR,RA,simprocAttr,TF,ae,h4];repeat (simp (disch:=omega) only [ah,bh,bf,bg,be];try simp only [↓wR,RA,simprocAttr,TF,ae,h4])
     exact ⟨(i+1,b),⟨hlt,hstep,hb⟩,by simp;omega,by (first|rfl|trivial|omega|((try (simp (disch:=omega) only [ah]));(try (simp only [FB]));first|done|rfl|omega)),by (first|rfl|trivial|omega|((try (simp (disch:=omega) only [ah]));(try (simp only [FB]));first|done|rfl|omega))⟩
   ·have hb2:l9 z n b c=b:=by simp [l9,h3]
    rw [hb2] at hstep
    simp only [↓wR,RA,simprocAttr,TF,ae,h3];repeat (simp (disch:=omega) only [ah,bh,bf,bg,be];try simp only [↓wR,RA,simprocAttr,TF,ae,h3])
    exact ⟨(i+1,b),⟨hlt,hstep,hb⟩,by simp;omega,by (first|rfl|trivial|omega|((try (simp (disch:=omega) only [ah]));(try (simp only [FB]));first|done|rfl|omega)),by (first|rfl|trivial|omega|((try (simp (disch:=omega) only [ah]));(try (simp only [FB]));first|done|rfl|omega))⟩
  ·have e2:¬ (c.type.toNat:Int)=2:=by simpa using h2
   have hb2:l9 z n b c=b:=by simp [l9,e2]
   rw [hb2] at hstep
   simp only [↓wR,RA,simprocAttr,TF,ae,h2];repeat (simp (disch:=omega) only [ah,bh,bf,bg,be];try simp only [↓wR,RA,simprocAttr,TF,ae,h2])
   exact ⟨(i+1,b),⟨hlt,hstep,hb⟩,by simp;omega,by (first|rfl|trivial|omega|((try (simp (disch:=omega) only [ah]));(try (simp only [FB]));first|done|rfl|omega)),by (first|rfl|trivial|omega|((try (simp (disch:=omega) only [ah]));(try (simp only [FB]));first|done|rfl|omega))⟩
 ·rw [jh h] at hx
  simp only [↓wR,RA,simprocAttr,TF,ae,h]
  cases b with
  |none=>
   have hc0:Am z n=none:=hx
   simp only [↓wR,RA,simprocAttr,TF,ae,Option.isSome_none]
   rw [hc0]
   rfl
  |some m=>
   have hc0:Am z n=some m:=hx
   simp only [↓wR,RA,simprocAttr,TF,ae,mw,hb m rfl]
   rw [hc0]
   rfl
noncomputable def Pd (x:cw × Name × Unit):Option AV:=if dw x.1∧cp x.2.1 then some ((r2 az bw).E true (((Am x.1 x.2.1).getD [],(Am x.1 x.2.1).isSome))) else none
set_option maxRecDepth 2000000 in
theorem an2 (x:cw × Name × Unit) (r:AV) (h:Pd x=some r):bu PP 12 ((aC eg (aC az a0)).E x) r:=by
 by_cases hc:dw x.1∧cp x.2.1
 case neg=>simp only [Pd,if_neg hc] at h;cases h
 simp only [Pd,if_pos hc] at h
 cases h
 exact bk (aq.cons (ar xr) (aq.cons (ar ag6) (aq.cons (ar o9) (aq.nil PP)))) Tryz.func12 (by kernel_rfl) (by kernel_rfl) (by kernel_rfl) (Nat.le_of_ble_eq_true (by kernel_rfl)) (r2 az bw) true (((Am x.1 x.2.1).getD [],(Am x.1 x.2.1).isSome)) (axk x.1 x.2.1 hc.1 hc.2)
noncomputable abbrev aAr:Nat × Bool × (List AV→M AV):=(12,true,dq (aC eg (aC az a0)) Pd)
def ak2 (z:cw) (n:Name):Bool:=jm n z.origin && (jg n z.origin || z.an.any fun s=>jm s.owner n)
theorem aAv (z:cw) (n:Name) (hz:dw z) (hn:cp n):wl PP [Dc,fv] 0 (Tryz.f14.body.getD .skip) (du PP Tryz.f14.results.toList (fun r st=>(r1 bw).get true st.h r=some (ak2 z n))) (cg 0 [eg.val false z,az.val false n]) (bb []):=by
 have hl:=hz.len
 unfold Tryz.f14
 simp only [p0,dt]
 simp only [↓wR,RA,simprocAttr,TF,ae,rq,hn,hz.origin]
 unfold ak2
 rw [dm];refine ⟨fun h=>?_,fun h=>?_⟩
 ·have h':jm n z.origin=false:=by simpa using h
  simp only [↓wR,RA,simprocAttr,TF,ae,h,h']
  rfl
 have h':jm n z.origin=true:=by simpa using h
 simp only [↓wR,RA,simprocAttr,TF,ae,h,h',nw,hn,hz.origin]
 rw [dm];refine ⟨fun h2=>?_,fun h2=>?_⟩
 ·simp only [↓wR,RA,simprocAttr,TF,ae,h2]
 simp only [↓wR,RA,simprocAttr,TF,ae,h2]
 refine bm (T:=[]) (aq.nil PP) mixed Tryz.func36 rfl (by kernel_rfl) (by kernel_rfl) (by kernel_rfl) (by kernel_rfl) ?_;unfold Tryz.f36
 simp only [↓wR,RA,simprocAttr,TF,ae]
 refine bm (T:=[]) (aq.nil PP) mixed Tryz.func53 rfl (by kernel_rfl) (by kernel_rfl) (by kernel_rfl) (by kernel_rfl) ?_;unfold Tryz.f53
 simp only [↓wR,RA,simprocAttr,TF,ae]
 refine c8 [0,1,7,8] (fun (i:Nat)=>[.vl false 5 (z.an.map (aj.val false)),.fn (.func 37) [] [.ptr 1 0],.sc (.int .i64 (z.an.length)),.sc (.int .i64 (i))]) (fun _=>[some (.row [.vl false 1 (z.origin.map (ai.val false)),.vl false 5 (z.an.map (aj.val false))] 0 2 26),some (.row [.vl false 1 (n.map (ai.val false))] 0 2 23)]) (fun i=>i≤z.an.length∧(z.an.any fun s=>jm s.owner n)=((z.an.drop i).any fun s=>jm s.owner n)) (fun i=>z.an.length - i) 0 ⟨Nat.zero_le _,rfl⟩ (by simp only [↓wR,RA,simprocAttr,TF,ae]<;>rfl) (by simp only [↓wR,RA,simprocAttr,TF,ae]<;>rfl) ?_
 rintro i ⟨hi,hx⟩
 simp only [↓wR,RA,simprocAttr,TF,ae]
 rw [bj];refine ⟨fun h3=>?_,fun h3=>?_⟩
 ·obtain ⟨c,hc,hd1,hlt⟩:=gm (decide_eq_true h3)
  rw [hd1,List.any_cons] at hx
  have hcs:=hz.set c (List.mem_of_getElem? hc)
  simp only [↓wR,RA,simprocAttr,TF,ae,h3,hc];repeat (simp (disch:=omega) only [ah,bh,bf,bg,be];try simp only [↓wR,RA,simprocAttr,TF,ae,h3,hc])
  refine bm (T:=[Dc]) (aq.cons (ar xr) (aq.nil PP)) mixed Tryz.func37 rfl (by kernel_rfl) (by kernel_rfl) (by kernel_rfl) (by kernel_rfl) ?_;unfold Tryz.f37
  simp only [↓wR,RA,simprocAttr,TF,ae,rq,hcs.owner,hn]
  rw [dm];refine ⟨fun h4=>?_,fun h4=>?_⟩
  ·rw [h4,Bool.true_or] at hx
   simp only [↓wR,RA,simprocAttr,TF,ae,h4]
   rw [hx]
  ·rw [h4,Bool.false_or] at hx
   simp only [↓wR,RA,simprocAttr,TF,ae,h4];repeat (simp (disch:=omega) only [ah,bh,bf,bg,be];try simp only [↓wR,RA,simprocAttr,TF,ae,h4])
   exact ⟨i+1,⟨hlt,hx⟩,by omega,by (first|rfl|trivial|omega|((try (simp (disch:=omega) only [ah]));(try (simp only [FB]));first|done|rfl|omega))⟩
 ·rw [jh (decide_eq_false h3),List.any_nil] at hx
  simp only [↓wR,RA,simprocAttr,TF,ae,h3]
  rw [hx]<;>rfl
theorem arf (t:UInt16):wl PP [] 0 (Tryz.f86.body.getD .skip) (du PP Tryz.f86.results.toList (fun r st=>(r1 bw).get true st.h r=some false)) (cg 0 [cz.val false t]) (bb []):=by
 unfold Tryz.f86
 simp only [↓wR,RA,simprocAttr,TF,ae,bne_self_eq_false]
noncomputable def W8 (x:UInt16 × Unit):Option AV:=some ((r1 bw).E true (false))
set_option maxRecDepth 2000000 in
theorem ahe (x:UInt16 × Unit) (r:AV) (h:W8 x=some r):bu PP 86 ((aC cz a0).E x) r:=by
 cases h
 exact bk (aq.nil PP) Tryz.func86 (by kernel_rfl) (by kernel_rfl) (by kernel_rfl) (Nat.le_of_ble_eq_true (by kernel_rfl)) (r1 bw) true (false) (arf x.1)
noncomputable abbrev ax9:Nat × Bool × (List AV→M AV):=(86,true,dq (aC cz a0) W8)
def uk (a b:UInt16):Int:=if (a.toNat:Int)<b.toNat then -1 else if (b.toNat:Int)<a.toNat then 1 else 0
theorem av7 (a b:UInt16):wl PP [ax9] 0 (Tryz.f58.body.getD .skip) (du PP Tryz.f58.results.toList (fun r st=>(r1 (bc .i64)).get true st.h r=some (uk a b))) (cg 0 [cz.val false a,cz.val false b]) (bb []):=by
 unfold Tryz.f58
 unfold uk
 simp only [↓wR,RA,simprocAttr,TF,ae,W8]
 rw [bj];refine ⟨fun h=>?_,fun h=>?_⟩
 ·rw [if_pos h]
  simp only [↓wR,RA,simprocAttr,TF,ae,h]
 ·rw [if_neg h]
  simp only [↓wR,RA,simprocAttr,TF,ae,h]
  rw [bj];refine ⟨fun h2=>?_,fun h2=>?_⟩
  ·rw [if_pos h2]
   simp only [↓wR,RA,simprocAttr,TF,ae,h2]
  ·rw [if_neg h2]
   simp only [↓wR,RA,simprocAttr,TF,ae,h2]
noncomputable def Ur (x:UInt16 × UInt16 × Unit):Option AV:=some ((r1 (bc .i64)).E true (uk x.1 x.2.1))
set_option maxRecDepth 2000000 in
theorem S2 (x:UInt16 × UInt16 × Unit) (r:AV) (h:Ur x=some r):bu PP 58 ((aC cz (aC cz a0)).E x) r:=by
 cases h
 exact bk (aq.cons (ar ahe) (aq.nil PP)) Tryz.func58 (by kernel_rfl) (by kernel_rfl) (by kernel_rfl) (Nat.le_of_ble_eq_true (by kernel_rfl)) (r1 (bc .i64)) true (uk x.1 x.2.1) (av7 x.1 x.2.1)
noncomputable abbrev aum:Nat × Bool × (List AV→M AV):=(58,true,dq (aC cz (aC cz a0)) Ur)
def Dz:List Int→Int
 | []=>0
 |a::r=>if a≠0 then a else Dz r
theorem ay2 (l:List Int) (hl:l.length≤16777216):wl PP [] 0 (Tryz.f56.body.getD .skip) (du PP Tryz.f56.results.toList (fun r st=>(r1 (bc .i64)).get true st.h r=some (Dz l))) (cg 0 [(cd (bc .i64)).val false l]) (bb []):=by
 unfold Tryz.f56
 rw [px]
 simp only [↓wR,RA,simprocAttr,TF,ae]
 refine c8 [3,6,7,8] (fun (i:Nat)=>[.sc (.int .i64 (0)),.vl false 1 (l.map ((bc .i64).val false)),.sc (.int .i64 (l.length)),.sc (.int .i64 (i))]) (fun _=>[]) (fun i=>i≤l.length∧Dz l=Dz (l.drop i)) (fun i=>l.length - i) 0 ⟨Nat.zero_le _,rfl⟩ (by simp only [↓wR,RA,simprocAttr,TF,ae]<;>rfl) (by simp only [↓wR,RA,simprocAttr,TF,ae]<;>rfl) ?_
 rintro i ⟨hi,hx⟩
 simp only [↓wR,RA,simprocAttr,TF,ae]
 rw [bj];refine ⟨fun h=>?_,fun h=>?_⟩
 ·obtain ⟨c,hc,hd1,hlt⟩:=gm (decide_eq_true h)
  rw [hd1,Dz] at hx
  simp only [↓wR,RA,simprocAttr,TF,ae,h,hc]
  rw [ed];refine ⟨fun ⟨h2,e2⟩=>?_,fun ⟨h2,e2⟩=>?_⟩
  ·rw [if_pos e2] at hx
   simp only [↓wR,RA,simprocAttr,TF,ae,h2]
   rw [hx]
  ·rw [if_neg (by omega)] at hx
   simp only [↓wR,RA,simprocAttr,TF,ae,h2];repeat (simp (disch:=omega) only [ah,bh,bf,bg,be];try simp only [↓wR,RA,simprocAttr,TF,ae,h2])
   exact ⟨i+1,⟨hlt,hx⟩,by omega,by (first|rfl|trivial|omega|((try (simp (disch:=omega) only [ah]));(try (simp only [FB]));first|done|rfl|omega))⟩
 ·rw [jh (decide_eq_false h)] at hx
  simp only [↓wR,RA,simprocAttr,TF,ae,h]
  rw [hx];rfl
noncomputable def Wh (x:List Int × Unit):Option AV:=if x.1.length≤16777216 then some ((r1 (bc .i64)).E true (Dz x.1)) else none
set_option maxRecDepth 2000000 in
theorem adk (x:List Int × Unit) (r:AV) (h:Wh x=some r):bu PP 56 ((aC (cd (bc .i64)) a0).E x) r:=by
 by_cases hc:x.1.length≤16777216
 case neg=>simp only [Wh,if_neg hc] at h;cases h
 simp only [Wh,if_pos hc] at h
 cases h
 exact bk (aq.nil PP) Tryz.func56 (by kernel_rfl) (by kernel_rfl) (by kernel_rfl) (Nat.le_of_ble_eq_true (by kernel_rfl)) (r1 (bc .i64)) true (Dz x.1) (ay2 x.1 hc)
noncomputable abbrev orC:Nat × Bool × (List AV→M AV):=(56,true,dq (aC (cd (bc .i64)) a0) Wh)
noncomputable def s6 (a b:aw):Int:=Dz [qk a.owner b.owner,uk a.type b.type]
theorem amh (a b:aw) (ha:de a) (hb:de b):wl PP [Py,aum,orC] 0 (Tryz.f40.body.getD .skip) (du PP Tryz.f40.results.toList (fun r st=>(r1 (bc .i64)).get true st.h r=some (s6 a b))) (cg 0 [aj.val false a,aj.val false b]) (bb []):=by
 unfold Tryz.f40
 simp only [jn]
 simp only [↓wR,RA,simprocAttr,TF,ae]
 refine ⟨by kernel_rfl,.inl ?_⟩
 simp only [↓wR,RA,simprocAttr,TF,ae,ui,Ur,Wh,ha.owner,hb.owner]
 exact ⟨by kernel_rfl,rfl⟩
noncomputable def zv (x:aw × aw × Unit):Option AV:=if de x.1∧de x.2.1 then some ((r1 (bc .i64)).E true (s6 x.1 x.2.1)) else none
set_option maxRecDepth 2000000 in
theorem aa1 (x:aw × aw × Unit) (r:AV) (h:zv x=some r):bu PP 40 ((aC aj (aC aj a0)).E x) r:=by
 by_cases hc:de x.1∧de x.2.1
 case neg=>simp only [zv,if_neg hc] at h;cases h
 simp only [zv,if_pos hc] at h
 cases h
 exact bk (aq.cons (ar E7) (aq.cons (ar S2) (aq.cons (ar adk) (aq.nil PP)))) Tryz.func40 (by kernel_rfl) (by kernel_rfl) (by kernel_rfl) (Nat.le_of_ble_eq_true (by kernel_rfl)) (r1 (bc .i64)) true (s6 x.1 x.2.1) (amh x.1 x.2.1 hc.1 hc.2)
noncomputable abbrev afx:Nat × Bool × (List AV→M AV):=(40,true,dq (aC aj (aC aj a0)) zv)
noncomputable def ue (t:UInt16):List bn→Bool
 |a::b::r=>if 0≤ym t a b then false else ue t (b::r)
 |_=>true
noncomputable def kq (z:cw) (i:Nat) (s:aw):Bool:=
 (match i with|0=>true|k+1=>match z.an[k]? with|some a=>decide (¬ (s6 a s ≥ 0))|none=>true) && ue s.type s.data
theorem D3 (k:Nat):((k:Int)+1).toNat=k+1:=by omega
theorem Oy (k:Nat):(0:Int)≤(k:Int)+1:=by omega
theorem Zy (t:UInt16) {l:List bn} {k:Nat} {a b:bn} (ha:l[k]? = some a) (hb:l[k+1]? = some b):ue t (l.drop k)=if 0≤ym t a b then false else ue t (l.drop (k+1)):=by
 rw [I0 ha,I0 hb];rfl
theorem Tb (t:UInt16) {l:List bn} {k:Nat} (h:l.length≤k+1):ue t (l.drop k)=true:=by
 have:(l.drop k).length≤1:=by rw [List.length_drop];omega
 match hd:l.drop k with
 | []=>rfl
 | [a]=>rfl
 |a::b::r=>rw [hd] at this;simp at this
theorem at8 (l:ve) (i:Nat) (s:aw) (hz:dw l.z) (hs:de s) (hi:i≤l.z.an.length):wl PP [afx,Cv] 0 (Tryz.f17.body.getD .skip) (du PP Tryz.f17.results.toList (fun r st=>(r1 bw).get true st.h r=some (kq l.z i s))) (cg 0 [.iw (nq.cells false l),(bc .i64).val false i,aj.val false s]) (bb []):=by
 have hd:=hs.data
 have hn:=hd.len
 have hl:=hz.len
 unfold Tryz.f17
 simp only [jn]
 simp only [↓wR,RA,simprocAttr,TF,ae,Bk]
 refine ⟨by kernel_rfl,.inl ?_⟩
 rw [bj];refine ⟨fun h=>?_,fun h=>?_⟩
 ·cases i with
  |zero=>omega
  |succ k=>
  obtain ⟨a,ha⟩:∃ a,l.z.an[k]? = some a:=⟨_,List.getElem?_eq_getElem (by omega)⟩
  have has:=hz.set a (List.mem_of_getElem? ha)
  simp only [↓wR,RA,simprocAttr,TF,ae,h,ha,Int.natCast_add,Int.add_sub_cancel,zv,has,hs];repeat (simp (disch:=omega) only [ah,bh,bf,bg,be];try simp only [↓wR,RA,simprocAttr,TF,ae,h,ha,Int.natCast_add,Int.add_sub_cancel,zv,has,hs])
  refine ⟨by kernel_rfl,?_⟩
  rw [bj];refine ⟨fun h2=>?_,fun h2=>?_⟩
  ·have hv:kq l.z (k+1) s=false:=by simp only [kq,ha];simp [h2]
   simp only [↓wR,RA,simprocAttr,TF,ae,h2]
   rw [hv]
  have hv:kq l.z (k+1) s=ue s.type s.data:=by simp only [kq,ha];simp [h2]
  clear ha
  simp only [↓wR,RA,simprocAttr,TF,ae,h2]
  refine c8 [5,7] (fun (k:Nat)=>[.ptr 0 0,.sc (.int .i64 ((k:Int)+1))]) (fun _=>[some (.row [.vl false 1 (s.owner.map (ai.val false)),.sc (.int .u16 s.type.toNat),.sc (.int .u16 s.cls.toNat),.sc (.int .u32 s.b7.toNat),.vl false 4 (s.data.map (ak.val false))] 0 2 58)]) (fun k=>(k=0∨k+1≤s.data.length)∧ue s.type s.data=ue s.type (s.data.drop k)) (fun k=>s.data.length - k) 0 ⟨.inl rfl,rfl⟩ (by simp only [↓wR,RA,simprocAttr,TF,ae]<;>rfl) (by simp only [↓wR,RA,simprocAttr,TF,ae]<;>rfl) ?_
  rintro k ⟨hk,hx⟩
  simp only [↓wR,RA,simprocAttr,TF,ae]
  rw [bj];refine ⟨fun h5=>?_,fun h5=>?_⟩
  ·obtain ⟨a,ha⟩:∃ a,s.data[k]? = some a:=⟨_,List.getElem?_eq_getElem (by omega)⟩
   obtain ⟨b,hb⟩:∃ b,s.data[k+1]? = some b:=⟨_,List.getElem?_eq_getElem (by omega)⟩
   rw [Zy _ ha hb] at hx
   have has:=hd.mem a (List.mem_of_getElem? ha)
   have hbs:=hd.mem b (List.mem_of_getElem? hb)
   simp only [↓wR,RA,simprocAttr,TF,ae,h5]
   refine ⟨by kernel_rfl,.inl ?_⟩
   simp only [↓wR,RA,simprocAttr,TF,ae,ha,hb,Int.add_sub_cancel,D3,Oy,m8,has,hbs];repeat (simp (disch:=omega) only [ah,bh,bf,bg,be];try simp only [↓wR,RA,simprocAttr,TF,ae,ha,hb,Int.add_sub_cancel,D3,Oy,m8,has,hbs])
   refine ⟨by kernel_rfl,?_⟩
   rw [bj];refine ⟨fun h6=>?_,fun h6=>?_⟩
   ·rw [if_pos h6] at hx
    simp only [↓wR,RA,simprocAttr,TF,ae,h6]
    rw [hv,hx]
   ·rw [if_neg h6] at hx
    simp only [↓wR,RA,simprocAttr,TF,ae,h6];repeat (simp (disch:=omega) only [ah,bh,bf,bg,be];try simp only [↓wR,RA,simprocAttr,TF,ae,h6])
    exact ⟨k+1,⟨.inr (by omega),hx⟩,by omega,by (first|rfl|trivial|omega|((try (simp (disch:=omega) only [ah]));(try (simp only [FB]));first|done|rfl|omega))⟩
  ·rw [Tb _ (by omega)] at hx
   simp only [↓wR,RA,simprocAttr,TF,ae,h5]
   rw [hv,hx]
 ·simp only [↓wR,RA,simprocAttr,TF,ae,h]
  have hi0:i=0:=by omega
  have hv:kq l.z i s=ue s.type s.data:=by rw [hi0];simp [kq]
  refine ⟨by kernel_rfl,?_⟩
  refine c8 [5,7] (fun (k:Nat)=>[.ptr 0 0,.sc (.int .i64 ((k:Int)+1))]) (fun _=>[some (.row [.vl false 1 (s.owner.map (ai.val false)),.sc (.int .u16 s.type.toNat),.sc (.int .u16 s.cls.toNat),.sc (.int .u32 s.b7.toNat),.vl false 4 (s.data.map (ak.val false))] 0 2 58)]) (fun k=>(k=0∨k+1≤s.data.length)∧ue s.type s.data=ue s.type (s.data.drop k)) (fun k=>s.data.length - k) 0 ⟨.inl rfl,rfl⟩ (by simp only [↓wR,RA,simprocAttr,TF,ae]<;>rfl) (by simp only [↓wR,RA,simprocAttr,TF,ae]<;>rfl) ?_
  rintro k ⟨hk,hx⟩
  simp only [↓wR,RA,simprocAttr,TF,ae]
  rw [bj];refine ⟨fun h5=>?_,fun h5=>?_⟩
  ·obtain ⟨a,ha⟩:∃ a,s.data[k]? = some a:=⟨_,List.getElem?_eq_getElem (by omega)⟩
   obtain ⟨b,hb⟩:∃ b,s.data[k+1]? = some b:=⟨_,List.getElem?_eq_getElem (by omega)⟩
   rw [Zy _ ha hb] at hx
   have has:=hd.mem a (List.mem_of_getElem? ha)
   have hbs:=hd.mem b (List.mem_of_getElem? hb)
   simp only [↓wR,RA,simprocAttr,TF,ae,h5]
   refine ⟨by kernel_rfl,.inl ?_⟩
   simp only [↓wR,RA,simprocAttr,TF,ae,ha,hb,Int.add_sub_cancel,D3,Oy,m8,has,hbs];repeat (simp (disch:=omega) only [ah,bh,bf,bg,be];try simp only [↓wR,RA,simprocAttr,TF,ae,ha,hb,Int.add_sub_cancel,D3,Oy,m8,has,hbs])
   refine ⟨by kernel_rfl,?_⟩
   rw [bj];refine ⟨fun h6=>?_,fun h6=>?_⟩
   ·rw [if_pos h6] at hx
    simp only [↓wR,RA,simprocAttr,TF,ae,h6]
    rw [hv,hx]
   ·rw [if_neg h6] at hx
    simp only [↓wR,RA,simprocAttr,TF,ae,h6];repeat (simp (disch:=omega) only [ah,bh,bf,bg,be];try simp only [↓wR,RA,simprocAttr,TF,ae,h6])
    exact ⟨k+1,⟨.inr (by omega),hx⟩,by omega,by (first|rfl|trivial|omega|((try (simp (disch:=omega) only [ah]));(try (simp only [FB]));first|done|rfl|omega))⟩
  ·rw [Tb _ (by omega)] at hx
   simp only [↓wR,RA,simprocAttr,TF,ae,h5]
   rw [hv,hx]
theorem aod (l:ve) (i:Int) (s:aw) (hz:dw l.z) (hs:de s) (hi : 0≤i∧i≤l.z.an.length):wl PP [afx,Cv] 0 (Tryz.f17.body.getD .skip) (du PP Tryz.f17.results.toList (fun r st=>(r1 bw).get true st.h r=some (kq l.z i.toNat s))) (cg 0 [.iw (nq.cells false l),(bc .i64).val false i,aj.val false s]) (bb []):=by
 have:=at8 l i.toNat s hz hs (by omega)
 rwa [Int.toNat_of_nonneg hi.1] at this
noncomputable def I5 (x:ve × Int × aw × Unit):Option AV:=if (dw x.1.z∧de x.2.2.1)∧0≤x.2.1∧x.2.1≤x.1.z.an.length then some ((r1 bw).E true (kq x.1.z x.2.1.toNat x.2.2.1)) else none
set_option maxRecDepth 2000000 in
theorem Qc (x:ve × Int × aw × Unit) (r:AV) (h:I5 x=some r):bu PP 17 ((aP nq (aC (bc .i64) (aC aj a0))).E x) r:=by
 by_cases hc:(dw x.1.z∧de x.2.2.1)∧0≤x.2.1∧x.2.1≤x.1.z.an.length
 case neg=>simp only [I5,if_neg hc] at h;cases h
 simp only [I5,if_pos hc] at h
 cases h
 exact bk (aq.cons (ar aa1) (aq.cons (ar zm) (aq.nil PP))) Tryz.func17 (by kernel_rfl) (by kernel_rfl) (by kernel_rfl) (Nat.le_of_ble_eq_true (by kernel_rfl)) (r1 bw) true (kq x.1.z x.2.1.toNat x.2.2.1) (aod x.1 x.2.1 x.2.2.1 hc.1.1 hc.1.2 hc.2)
noncomputable abbrev kb:Nat × Bool × (List AV→M AV):=(17,true,dq (aP nq (aC (bc .i64) (aC aj a0))) I5)
def Ek (i:Nat) (n:Name):Nat→List aw→Bool
 |_,[]=>false
 |k,o::r=>(decide (¬ (k:Int)=i) && jg o.owner n) || Ek i n (k+1) r
def jw (z:cw) (i:Nat) (s:aw):Bool:=
 if ¬ (s.type.toNat:Int)=5 then true else if ¬ (s.data.length:Int)=1 then false else if jg s.owner z.origin=true then false else !Ek i s.owner 0 z.an
theorem as6 (l:ve) (i:Nat) (s:aw) (hz:dw l.z) (hs:de s):wl PP [fv] 0 (Tryz.f24.body.getD .skip) (du PP Tryz.f24.results.toList (fun r st=>(r1 bw).get true st.h r=some (jw l.z i s))) (cg 0 [.iw (nq.cells false l),(bc .i64).val false i,aj.val false s]) (bb []):=by
 have hl:=hz.len
 unfold Tryz.f24
 simp only [jn]
 simp only [↓wR,RA,simprocAttr,TF,ae,Bk]
 unfold jw
 rw [ed];refine ⟨fun ⟨h,e⟩=>?_,fun ⟨h,e⟩=>?_⟩
 ·rw [if_pos e]
  simp only [↓wR,RA,simprocAttr,TF,ae,h]
 rw [if_neg (by omega)]
 simp only [↓wR,RA,simprocAttr,TF,ae,h]
 refine ⟨by kernel_rfl,.inl ?_⟩
 rw [ed];refine ⟨fun ⟨h2,e2⟩=>?_,fun ⟨h2,e2⟩=>?_⟩
 ·rw [if_pos e2]
  simp only [↓wR,RA,simprocAttr,TF,ae,h2]
  exact by kernel_rfl
 rw [if_neg (by omega)]
 simp only [↓wR,RA,simprocAttr,TF,ae,h2,nw,hs.owner,hz.origin]
 refine ⟨by kernel_rfl,?_⟩
 rw [dm];refine ⟨fun h3=>?_,fun h3=>?_⟩
 ·rw [if_pos h3]
  simp only [↓wR,RA,simprocAttr,TF,ae,h3]
 rw [if_neg (by rw [h3];decide)]
 simp only [↓wR,RA,simprocAttr,TF,ae,h3]
 refine c8 [1,5,30,31,32] (fun (k:Nat)=>[.sc (.int .i64 (i)),.ptr 0 0,.vl false 5 (l.z.an.map (aj.val false)),.sc (.int .i64 (l.z.an.length)),.sc (.int .i64 (k))]) (fun _=>[some (.row [.vl false 1 (s.owner.map (ai.val false)),.sc (.int .u16 s.type.toNat),.sc (.int .u16 s.cls.toNat),.sc (.int .u32 s.b7.toNat),.vl false 4 (s.data.map (ak.val false))] 0 2 58)]) (fun k=>k≤l.z.an.length∧Ek i s.owner 0 l.z.an=Ek i s.owner k (l.z.an.drop k)) (fun k=>l.z.an.length - k) 0 ⟨Nat.zero_le _,rfl⟩ (by simp only [↓wR,RA,simprocAttr,TF,ae]<;>rfl) (by simp only [↓wR,RA,simprocAttr,TF,ae]<;>rfl) ?_
 rintro k ⟨hk,hx⟩
 simp only [↓wR,RA,simprocAttr,TF,ae]
 rw [bj];refine ⟨fun h4=>?_,fun h4=>?_⟩
 ·obtain ⟨c,hc,hd1,hlt⟩:=gm (decide_eq_true h4)
  rw [hd1,Ek] at hx
  have hcs:=hz.set c (List.mem_of_getElem? hc)
  simp only [↓wR,RA,simprocAttr,TF,ae,h4,hc]
  rw [ed];refine ⟨fun ⟨h5,e5⟩=>?_,fun ⟨h5,e5⟩=>?_⟩
  ·rw [decide_eq_true e5,Bool.true_and] at hx
   simp only [↓wR,RA,simprocAttr,TF,ae,h5,nw,hcs.owner,hs.owner]
   rw [dm];refine ⟨fun h6=>?_,fun h6=>?_⟩
   ·rw [h6,Bool.true_or] at hx
    simp only [↓wR,RA,simprocAttr,TF,ae,h6]
    rw [hx];rfl
   ·rw [h6,Bool.false_or] at hx
    simp only [↓wR,RA,simprocAttr,TF,ae,h6];repeat (simp (disch:=omega) only [ah,bh,bf,bg,be];try simp only [↓wR,RA,simprocAttr,TF,ae,h6])
    exact ⟨k+1,⟨hlt,hx⟩,by omega,by (first|rfl|trivial|omega|((try (simp (disch:=omega) only [ah]));(try (simp only [FB]));first|done|rfl|omega))⟩
  ·rw [decide_eq_false (by omega),Bool.false_and,Bool.false_or] at hx
   simp only [↓wR,RA,simprocAttr,TF,ae,h5];repeat (simp (disch:=omega) only [ah,bh,bf,bg,be];try simp only [↓wR,RA,simprocAttr,TF,ae,h5])
   exact ⟨k+1,⟨hlt,hx⟩,by omega,by (first|rfl|trivial|omega|((try (simp (disch:=omega) only [ah]));(try (simp only [FB]));first|done|rfl|omega))⟩
 ·rw [jh (decide_eq_false h4),Ek] at hx
  simp only [↓wR,RA,simprocAttr,TF,ae,h4]
  rw [hx];rfl
theorem aqs (l:ve) (i:Int) (s:aw) (hz:dw l.z) (hs:de s) (hi : 0≤i):wl PP [fv] 0 (Tryz.f24.body.getD .skip) (du PP Tryz.f24.results.toList (fun r st=>(r1 bw).get true st.h r=some (jw l.z i.toNat s))) (cg 0 [.iw (nq.cells false l),(bc .i64).val false i,aj.val false s]) (bb []):=by
 have:=as6 l i.toNat s hz hs
 rwa [Int.toNat_of_nonneg hi] at this
noncomputable def El (x:ve × Int × aw × Unit):Option AV:=if (dw x.1.z∧de x.2.2.1)∧0≤x.2.1 then some ((r1 bw).E true (jw x.1.z x.2.1.toNat x.2.2.1)) else none
set_option maxRecDepth 2000000 in
theorem Qf (x:ve × Int × aw × Unit) (r:AV) (h:El x=some r):bu PP 24 ((aP nq (aC (bc .i64) (aC aj a0))).E x) r:=by
 by_cases hc:(dw x.1.z∧de x.2.2.1)∧0≤x.2.1
 case neg=>simp only [El,if_neg hc] at h;cases h
 simp only [El,if_pos hc] at h
 cases h
 exact bk (aq.cons (ar v5) (aq.nil PP)) Tryz.func24 (by kernel_rfl) (by kernel_rfl) (by kernel_rfl) (Nat.le_of_ble_eq_true (by kernel_rfl)) (r1 bw) true (jw x.1.z x.2.1.toNat x.2.2.1) (aqs x.1 x.2.1 x.2.2.1 hc.1.1 hc.1.2 hc.2)
noncomputable abbrev ka:Nat × Bool × (List AV→M AV):=(24,true,dq (aP nq (aC (bc .i64) (aC aj a0))) El)
def rh (s:aw):Bool:=if ¬ (s.cls.toNat:Int)=1 then false else if (s.type.toNat:Int)=0 then false else if (s.type.toNat:Int)=41 then false else !decide ((s.type.toNat:Int)=255)
theorem asc (i:Int) (s:aw):wl PP [] 0 (Tryz.f18.body.getD .skip) (du PP Tryz.f18.results.toList (fun r st=>(r1 bw).get true st.h r=some (rh s))) (cg 0 [(bc .i64).val false i,aj.val false s]) (bb []):=by
 unfold Tryz.f18
 simp only [jn]
 simp only [↓wR,RA,simprocAttr,TF,ae]
 unfold rh
 rw [eb];refine ⟨fun ⟨h,e⟩=>?_,fun ⟨h,e⟩=>?_⟩
 ·rw [if_neg (by omega)]
  simp only [↓wR,RA,simprocAttr,TF,ae,h]
  rw [ed];refine ⟨fun ⟨h2,e2⟩=>?_,fun ⟨h2,e2⟩=>?_⟩
  ·rw [if_neg e2]
   simp only [↓wR,RA,simprocAttr,TF,ae,h2]
   rw [ed];refine ⟨fun ⟨h3,e3⟩=>?_,fun ⟨h3,e3⟩=>?_⟩
   ·rw [if_neg e3]
    simp only [↓wR,RA,simprocAttr,TF,ae,h3]
    rfl
   ·rw [if_pos e3]
    simp only [↓wR,RA,simprocAttr,TF,ae,h3]
  ·rw [if_pos e2]
   simp only [↓wR,RA,simprocAttr,TF,ae,h2]
 ·rw [if_pos e]
  simp only [↓wR,RA,simprocAttr,TF,ae,h]
noncomputable def We (x:Int × aw × Unit):Option AV:=some ((r1 bw).E true (rh x.2.1))
set_option maxRecDepth 2000000 in
theorem Pv (x:Int × aw × Unit) (r:AV) (h:We x=some r):bu PP 18 ((aC (bc .i64) (aC aj a0)).E x) r:=by
 cases h
 exact bk (aq.nil PP) Tryz.func18 (by kernel_rfl) (by kernel_rfl) (by kernel_rfl) (Nat.le_of_ble_eq_true (by kernel_rfl)) (r1 bw) true (rh x.2.1) (asc x.1 x.2.1)
noncomputable abbrev kc:Nat × Bool × (List AV→M AV):=(18,true,dq (aC (bc .i64) (aC aj a0)) We)
theorem arp (i:Int) (s:aw) (z:cw) (hs:de s) (hz:dw z):wl PP [Dc] 0 (Tryz.f19.body.getD .skip) (du PP Tryz.f19.results.toList (fun r st=>(r1 bw).get true st.h r=some (jm s.owner z.origin))) (cg 0 [(bc .i64).val false i,aj.val false s,.iw (eg.cells false z)]) (bb []):=by
 unfold Tryz.f19
 simp only [jn]
 simp only [↓wR,RA,simprocAttr,TF,ae,By,rq,hs.owner,hz.origin]
noncomputable def Fb (x:Int × aw × cw × Unit):Option AV:=if de x.2.1∧dw x.2.2.1 then some ((r1 bw).E true (jm x.2.1.owner x.2.2.1.origin)) else none
set_option maxRecDepth 2000000 in
theorem M8 (x:Int × aw × cw × Unit) (r:AV) (h:Fb x=some r):bu PP 19 ((aC (bc .i64) (aC aj (aP eg a0))).E x) r:=by
 by_cases hc:de x.2.1∧dw x.2.2.1
 case neg=>simp only [Fb,if_neg hc] at h;cases h
 simp only [Fb,if_pos hc] at h
 cases h
 exact bk (aq.cons (ar xr) (aq.nil PP)) Tryz.func19 (by kernel_rfl) (by kernel_rfl) (by kernel_rfl) (Nat.le_of_ble_eq_true (by kernel_rfl)) (r1 bw) true (jm x.2.1.owner x.2.2.1.origin) (arp x.1 x.2.1 x.2.2.1 hc.1 hc.2)
noncomputable abbrev jf:Nat × Bool × (List AV→M AV):=(19,true,dq (aC (bc .i64) (aC aj (aP eg a0))) Fb)
def mn (s:aw):Bool:=if ¬ (s.type.toNat:Int)=2 then true else match s.owner[0]? with|none=>true|some a=>!decide (a=akr)
theorem awx (i:Int) (s:aw) (hs:de s):wl PP [] 0 (Tryz.f25.body.getD .skip) (du PP Tryz.f25.results.toList (fun r st=>(r1 bw).get true st.h r=some (mn s))) (cg 0 [(bc .i64).val false i,aj.val false s]) (bb []):=by
 have hn:=hs.owner.lt
 unfold Tryz.f25
 simp only [jn]
 simp only [↓wR,RA,simprocAttr,TF,ae]
 unfold mn
 rw [ed];refine ⟨fun ⟨h,e⟩=>?_,fun ⟨h,e⟩=>?_⟩
 ·rw [if_pos e]
  simp only [↓wR,RA,simprocAttr,TF,ae,h]
 rw [if_neg (by omega)]
 simp only [↓wR,RA,simprocAttr,TF,ae,h]
 rw [eb];refine ⟨fun ⟨h2,e2⟩=>?_,fun ⟨h2,e2⟩=>?_⟩
 ·have hnil:s.owner=[]:=List.eq_nil_of_length_eq_zero (by omega)
  have h0:s.owner[0]? = none:=by rw [hnil];rfl
  rw [h0]
  simp only [↓wR,RA,simprocAttr,TF,ae,h2]
 ·obtain ⟨a,ha⟩:∃ a,s.owner[0]? = some a:=⟨_,List.getElem?_eq_getElem (by omega)⟩
  have h0 : 0<s.owner.length:=by omega
  rw [ha]
  simp only [↓wR,RA,simprocAttr,TF,ae,h2,ha,h0]
  rfl
noncomputable def Io (x:Int × aw × Unit):Option AV:=if de x.2.1 then some ((r1 bw).E true (mn x.2.1)) else none
set_option maxRecDepth 2000000 in
theorem Tz (x:Int × aw × Unit) (r:AV) (h:Io x=some r):bu PP 25 ((aC (bc .i64) (aC aj a0)).E x) r:=by
 by_cases hc:de x.2.1
 case neg=>simp only [Io,if_neg hc] at h;cases h
 simp only [Io,if_pos hc] at h
 cases h
 exact bk (aq.nil PP) Tryz.func25 (by kernel_rfl) (by kernel_rfl) (by kernel_rfl) (Nat.le_of_ble_eq_true (by kernel_rfl)) (r1 bw) true (mn x.2.1) (awx x.1 x.2.1 hc)
noncomputable abbrev mr:Nat × Bool × (List AV→M AV):=(25,true,dq (aC (bc .i64) (aC aj a0)) Io)
def ri (z:cw) (s:aw):Bool:=
 match Am z s.owner with
 |none=>true
 |some c=>if (s.type.toNat:Int)=1 then true else if (s.type.toNat:Int)=28 then true else if (s.type.toNat:Int)=2 then jg c s.owner else false
theorem aya (i:Int) (s:aw) (z:cw) (hs:de s) (hz:dw z):wl PP [aAr,fv] 0 (Tryz.f26.body.getD .skip) (du PP Tryz.f26.results.toList (fun r st=>(r1 bw).get true st.h r=some (ri z s))) (cg 0 [(bc .i64).val false i,aj.val false s,.iw (eg.cells false z)]) (bb []):=by
 have hsm:=ao0 (n:=s.owner) hz z.an none (fun _ h=>h) (fun m hm=>by cases hm)
 change ∀ m,Am z s.owner=some m→cp m at hsm
 unfold Tryz.f26
 simp only [jn]
 unfold ri
 cases hc:Am z s.owner with
 |none=>
  simp only [↓wR,RA,simprocAttr,TF,ae,By,Pd,hs.owner,hz,hc,Option.isSome_none]
  done
 |some c=>
  simp only [↓wR,RA,simprocAttr,TF,ae,By,Pd,hs.owner,hz,hc]
  rw [eb];refine ⟨fun ⟨h,e⟩=>?_,fun ⟨h,e⟩=>?_⟩
  ·rw [if_pos e]
   simp only [↓wR,RA,simprocAttr,TF,ae,h]
  rw [if_neg e]
  simp only [↓wR,RA,simprocAttr,TF,ae,h]
  rw [eb];refine ⟨fun ⟨h2,e2⟩=>?_,fun ⟨h2,e2⟩=>?_⟩
  ·rw [if_pos e2]
   simp only [↓wR,RA,simprocAttr,TF,ae,h2]
  rw [if_neg e2]
  simp only [↓wR,RA,simprocAttr,TF,ae,h2]
  rw [eb];refine ⟨fun ⟨h3,e3⟩=>?_,fun ⟨h3,e3⟩=>?_⟩
  ·rw [if_pos e3]
   simp only [↓wR,RA,simprocAttr,TF,ae,h3,nw,hs.owner,hsm c hc]
  ·rw [if_neg e3]
   simp only [↓wR,RA,simprocAttr,TF,ae,h3]
noncomputable def Ov (x:Int × aw × cw × Unit):Option AV:=if de x.2.1∧dw x.2.2.1 then some ((r1 bw).E true (ri x.2.2.1 x.2.1)) else none
set_option maxRecDepth 2000000 in
theorem Za (x:Int × aw × cw × Unit) (r:AV) (h:Ov x=some r):bu PP 26 ((aC (bc .i64) (aC aj (aP eg a0))).E x) r:=by
 by_cases hc:de x.2.1∧dw x.2.2.1
 case neg=>simp only [Ov,if_neg hc] at h;cases h
 simp only [Ov,if_pos hc] at h
 cases h
 exact bk (aq.cons (ar an2) (aq.cons (ar v5) (aq.nil PP))) Tryz.func26 (by kernel_rfl) (by kernel_rfl) (by kernel_rfl) (Nat.le_of_ble_eq_true (by kernel_rfl)) (r1 bw) true (ri x.2.2.1 x.2.1) (aya x.1 x.2.1 x.2.2.1 hc.1 hc.2)
noncomputable abbrev qf:Nat × Bool × (List AV→M AV):=(26,true,dq (aC (bc .i64) (aC aj (aP eg a0))) Ov)
def qn (z:cw) (p:Nat × Nat) (s:aw):Nat × Nat:=
 if (s.type.toNat:Int)=6 then (p.1+1,if (jg s.owner z.origin && decide ((s.data.length:Int)=1))=true then p.2+1 else p.2) else p
def iu (z:cw):Nat × Nat:=z.an.foldl (qn z) (0,0)
theorem av6 (k:ve) (hz:dw k.z):wl PP [fv] 0 (Tryz.f21.body.getD .skip) (du PP Tryz.f21.results.toList (fun r st=>(r2 (bc .i64) (bc .i64)).get true st.h r=some (((iu k.z).1:Int),((iu k.z).2:Int)))) (cg 0 [.iw (nq.cells false k)]) (bb []):=by
 have hl:=hz.len
 unfold Tryz.f21
 simp only [↓wR,RA,simprocAttr,TF,ae,Bk]
 refine bm (T:=[]) (aq.nil PP) mixed Tryz.func23 rfl (by kernel_rfl) (by kernel_rfl) (by kernel_rfl) (by kernel_rfl) ?_;unfold Tryz.f23
 simp only [↓wR,RA,simprocAttr,TF,ae]
 refine ⟨[1,4,5,11],?_⟩
 have hib:wt PP 42=some (Tryz.f42.ntmps,Tryz.f42.body.getD .skip):=by kernel_rfl
 simp only [↓wR,RA,simprocAttr,TF,ae,hib]
 refine ⟨by kernel_rfl,fun l=>?_⟩
 unfold Tryz.f42
 simp only [↓wR,RA,simprocAttr,TF,ae]
 refine Gg [0,2,7,8,9] (fun (x:Nat × Nat × Nat)=>[.sc (.func (.yield l) #[] #[]),.ptr 4 0,.vl false 5 (k.z.an.map (aj.val false)),.sc (.int .i64 (k.z.an.length)),.sc (.int .i64 (x.1))]) (fun x=>[some (.row [.iw [.vl false 1 (k.z.origin.map (ai.val false)),.vl false 5 (k.z.an.map (aj.val false)),.sc (.int .i64 (k.e))]] 0 2 59),some (.row [.sc (.int .i64 (x.2.1:Int))] 0 2 3),some (.row [.sc (.int .i64 (x.2.2:Int))] 0 2 3),some (.row [.vl false 1 (k.z.origin.map (ai.val false)),.vl false 5 (k.z.an.map (aj.val false))] 0 2 26),some (.row [.sc (.int .u16 6)] 0 2 37)]) (fun x=>x.1≤k.z.an.length∧x.2.1≤x.1∧x.2.2≤x.1∧iu k.z=(k.z.an.drop x.1).foldl (qn k.z) x.2) (fun x=>k.z.an.length - x.1) (0,0,0) ⟨Nat.zero_le _,Nat.le_refl _,Nat.le_refl _,rfl⟩ (by simp only [↓wR,RA,simprocAttr,TF,ae]<;>rfl) (by simp only [↓wR,RA,simprocAttr,TF,ae]<;>rfl) ?_
 rintro ⟨i,n,m⟩ ⟨hi,hn,hm,hx⟩
 simp only at hi hn hm hx
 simp only [↓wR,RA,simprocAttr,TF,ae]
 rw [yc];refine ⟨fun h=>?_,fun h=>?_⟩
 ·obtain ⟨c,hc,hd1,hlt⟩:=gm h
  have hcs:=hz.set c (List.mem_of_getElem? hc)
  have hstep:iu k.z=(k.z.an.drop (i+1)).foldl (qn k.z) (qn k.z (n,m) c):=by rw [hx,hd1];rfl
  simp only [↓wR,RA,simprocAttr,TF,ae,h,hc]
  rw [yc];refine ⟨fun h2=>?_,fun h2=>?_⟩
  ·have e2:(c.type.toNat:Int)=6:=by simpa using h2
   simp only [↓wR,RA,simprocAttr,TF,ae,h2]
   refine z8 [0,2,7,8,9,17,19] ?_
   simp only [↓wR,RA,simprocAttr,TF,ae,A1,po];repeat (simp (disch:=omega) only [ah,bh,bf,bg,be];try simp only [↓wR,RA,simprocAttr,TF,ae,A1,po])
   refine ⟨by kernel_rfl,.inl ?_⟩
   simp only [↓wR,RA,simprocAttr,TF,ae,nw,hcs.owner,hz.origin]
   have fin:∀ q,qn k.z (n,m) c=(n+1,q)→q≤i+1→iu k.z=(k.z.an.drop (i+1)).foldl (qn k.z) (n+1,q):=fun q hq _=>by rw [hstep,hq]
   rw [dm];refine ⟨fun h3=>?_,fun h3=>?_⟩
   ·simp only [↓wR,RA,simprocAttr,TF,ae,h3]
    refine ⟨by kernel_rfl,?_⟩
    rw [eb];refine ⟨fun ⟨h4,e4⟩=>?_,fun ⟨h4,e4⟩=>?_⟩
    ·have hq:qn k.z (n,m) c=(n+1,m+1):=by simp [qn,e2,h3,e4]
     simp only [↓wR,RA,simprocAttr,TF,ae,h4];repeat (simp (disch:=omega) only [ah,bh,bf,bg,be];try simp only [↓wR,RA,simprocAttr,TF,ae,h4])
     exact ⟨(i+1,n+1,m+1),⟨hlt,by simp;omega,by simp;omega,fin _ hq (by omega)⟩,by simp;omega,by (first|rfl|trivial|omega|((try (simp (disch:=omega) only [ah]));(try (simp only [FB]));first|done|rfl|omega)),by (first|rfl|trivial|omega|((try (simp (disch:=omega) only [ah]));(try (simp only [FB]));first|done|rfl|omega))⟩
    ·have hq:qn k.z (n,m) c=(n+1,m):=by simp [qn,e2,h3,e4]
     simp only [↓wR,RA,simprocAttr,TF,ae,h4];repeat (simp (disch:=omega) only [ah,bh,bf,bg,be];try simp only [↓wR,RA,simprocAttr,TF,ae,h4])
     exact ⟨(i+1,n+1,m),⟨hlt,by simp;omega,by simp;omega,fin _ hq (by omega)⟩,by simp;omega,by (first|rfl|trivial|omega|((try (simp (disch:=omega) only [ah]));(try (simp only [FB]));first|done|rfl|omega)),by (first|rfl|trivial|omega|((try (simp (disch:=omega) only [ah]));(try (simp only [FB]));first|done|rfl|omega))⟩
   ·have hq:qn k.z (n,m) c=(n+1,m):=by simp [qn,e2,h3]
    simp only [↓wR,RA,simprocAttr,TF,ae,h3]
    refine ⟨by kernel_rfl,?_⟩
    exact ⟨(i+1,n+1,m),⟨hlt,by simp;omega,by simp;omega,fin _ hq (by omega)⟩,by simp;omega,by (first|rfl|trivial|omega|((try (simp (disch:=omega) only [ah]));(try (simp only [FB]));first|done|rfl|omega)),by (first|rfl|trivial|omega|((try (simp (disch:=omega) only [ah]));(try (simp only [FB]));first|done|rfl|omega))⟩
  ·have e2:¬ (c.type.toNat:Int)=6:=by simpa using h2
   have hb2:qn k.z (n,m) c=(n,m):=by simp [qn,e2]
   rw [hb2] at hstep
   simp only [↓wR,RA,simprocAttr,TF,ae,h2];repeat (simp (disch:=omega) only [ah,bh,bf,bg,be];try simp only [↓wR,RA,simprocAttr,TF,ae,h2])
   exact ⟨(i+1,n,m),⟨hlt,by simp;omega,by simp;omega,hstep⟩,by simp;omega,by (first|rfl|trivial|omega|((try (simp (disch:=omega) only [ah]));(try (simp only [FB]));first|done|rfl|omega)),by (first|rfl|trivial|omega|((try (simp (disch:=omega) only [ah]));(try (simp only [FB]));first|done|rfl|omega))⟩
 ·rw [jh h] at hx
  simp only [↓wR,RA,simprocAttr,TF,ae,h]
  refine ⟨by kernel_rfl,.inl ?_⟩
  refine ⟨by kernel_rfl,?_⟩
  rw [hx];rfl
noncomputable def Ls (x:ve × Unit):Option AV:=if dw x.1.z then some ((r2 (bc .i64) (bc .i64)).E true ((((iu x.1.z).1:Int),((iu x.1.z).2:Int)))) else none
set_option maxRecDepth 2000000 in
theorem Tu (x:ve × Unit) (r:AV) (h:Ls x=some r):bu PP 21 ((aP nq a0).E x) r:=by
 by_cases hc:dw x.1.z
 case neg=>simp only [Ls,if_neg hc] at h;cases h
 simp only [Ls,if_pos hc] at h
 cases h
 exact bk (aq.cons (ar v5) (aq.nil PP)) Tryz.func21 (by kernel_rfl) (by kernel_rfl) (by kernel_rfl) (Nat.le_of_ble_eq_true (by kernel_rfl)) (r2 (bc .i64) (bc .i64)) true ((((iu x.1.z).1:Int),((iu x.1.z).2:Int))) (av6 x.1 hc)
noncomputable abbrev mo:Nat × Bool × (List AV→M AV):=(21,true,dq (aP nq a0) Ls)
def cr (b:Bool) (err e:Int):Int:=if e=0∧b=false then err else e
def g8 (err:Int) (p:Nat→aw→Bool):Nat→List aw→Int→Int
 |_,[],e=>e
 |i,s::r,e=>if e≠0 then e else g8 err p (i+1) r (cr (p i s) err e)
def o8 (l:List aw):Nat:=l.foldl (fun n s=>n+s.data.length) 0
noncomputable def G7:List aw→Int→Int
 | [],e=>e
 |s::r,e=>G7 r (if e=0 then ng s else e)
noncomputable def xd (z:cw):Int:=if cy z.origin≠0 then cy z.origin else G7 z.an (cr (decide (o8 z.an≤2048)) 3 0)
def Jf (z:cw) (l:List aw):Bool:=l.any fun s=>decide ((s.type.toNat:Int)=2) && jg s.owner z.origin
def i5 (z:cw):Bool:=Jf z z.an
theorem acm {z:cw} {l:List aw} {i:Nat} {c:aw} (h:l.drop i=c::l.drop (i+1)):Jf z (l.drop i)=((decide ((c.type.toNat:Int)=2) && jg c.owner z.origin) || Jf z (l.drop (i+1))):=by rw [h];rfl
noncomputable def Vi (z:cw):Int:=g8 260 (kq z) 0 z.an (xd z)
noncomputable def Uy (z:cw):Int:=g8 261 (fun _ s=>rh s) 0 z.an (Vi z)
noncomputable def tf (z:cw):Int:=g8 262 (fun _ s=>jm s.owner z.origin) 0 z.an (Uy z)
noncomputable def ow (z:cw):Int:=cr (decide ((iu z).1=1) && decide ((iu z).2=1)) 263 (tf z)
noncomputable def F0 (z:cw):Int:=cr (i5 z) 264 (ow z)
noncomputable def Fy (z:cw):Int:=g8 265 (jw z) 0 z.an (F0 z)
noncomputable def M0 (z:cw):Int:=g8 266 (fun _ s=>mn s) 0 z.an (Fy z)
noncomputable def ayc (z:cw):Int:=g8 267 (fun _ s=>ri z s) 0 z.an (M0 z)
noncomputable def kf (z:cw):Int:=if xd z≠0 then xd z else ayc z
theorem abx (l:List aw) (i:Nat) (c:aw) (h:l[i]? = some c):o8 (l.take (i+1))=o8 (l.take i)+c.data.length:=by
 obtain ⟨hk,rfl⟩:=List.getElem?_eq_some_iff.1 h
 rw [List.take_succ_eq_append_getElem hk];simp only [o8,List.foldl_append,List.foldl_cons,List.foldl_nil]
theorem abw (l:List aw):∀ k,l.foldl (fun n s=>n+s.data.length) k≤k+di lh l:=by
 induction l with
 |nil=>intro k;exact Nat.le_refl _
 |cons a l ih=>
  intro k
  have h1:=ih (k+a.data.length)
  have h2:=B3 lf a.data
  simp only [di,List.foldr_cons,List.foldl_cons,lh] at h1 ⊢
  unfold di at h2
  omega
theorem akn (l:List aw):o8 l≤di lh l:=by have:=abw l 0;unfold o8;omega
theorem at0 {l:List aw} {i:Nat} {c:aw} (h:l.drop i=c::l.drop (i+1)) (e:Int):G7 (l.drop i) e=G7 (l.drop (i+1)) (if e=0 then ng c else e):=by rw [h];rfl
theorem u9 {l:List aw} {i:Nat} {c:aw} (h:l.drop i=c::l.drop (i+1)) (err:Int) (p:Nat→aw→Bool) (e:Int):g8 err p i (l.drop i) e=if e≠0 then e else g8 err p (i+1) (l.drop (i+1)) (cr (p i c) err e):=by rw [h];rfl
set_option maxHeartbeats 4000000 in
theorem adl (z:cw) (hz:dw z):wl PP [dj,fv,ic,kb,ka,kc,jf,mr,qf,mo] 0 (Tryz.f6.body.getD .skip) (du PP Tryz.f6.results.toList (fun r st=>(r1 (bc .i64)).get true st.h r=some (kf z))) (cg 0 [eg.val false z]) (bb []):=by
 have hl:=hz.len
 have ok:aq PP [dj,fv,ic,kb,ka,kc,jf,mr,qf,mo]:=aq.cons (ar sh) (aq.cons (ar v5) (aq.cons (ar Dv) (aq.cons (ar Qc) (aq.cons (ar Qf) (aq.cons (ar Pv) (aq.cons (ar M8) (aq.cons (ar Tz) (aq.cons (ar Za) (aq.cons (ar Tu) (aq.nil PP))))))))))
 unfold Tryz.f6
 simp only [p0]
 simp only [↓wR,RA,simprocAttr,TF,ae]
 refine ct (fun r st'=>r = .fc []∧st'=bb [some (.row [.vl false 1 (z.origin.map (ai.val false)),.vl false 5 (z.an.map (aj.val false))] 0 2 26),some (.row [.vl false 1 (z.origin.map (ai.val false)),.vl false 5 (z.an.map (aj.val false)),.sc (.int .i64 (xd z))] 0 2 61)]) rfl ?_ ?_
 ·refine bm (T:=[dj,fv,ic,kb,ka,kc,jf,mr,qf,mo]) ok mixed Tryz.func15 rfl (by kernel_rfl) (by kernel_rfl) (by kernel_rfl) (by kernel_rfl) ?_;unfold Tryz.f15
  simp only [↓wR,RA,simprocAttr,TF,ae,i3,hz.origin.fit]
  unfold xd
  rw [dm];refine ⟨fun h=>?_,fun h=>?_⟩
  ·have he:cy z.origin≠0:=by simpa using h
   rw [if_pos he]
   simp only [↓wR,RA,simprocAttr,TF,ae,h,gn,fy,fp]
  have he:cy z.origin=0:=by simpa using h
  rw [if_neg (by omega)]
  simp only [↓wR,RA,simprocAttr,TF,ae,h,he]
  refine c8 [0,2,25,26,27] (fun (i:Nat)=>[.ptr 1 0,.sc (.int .i64 (o8 (z.an.take i))),.vl false 5 (z.an.map (aj.val false)),.sc (.int .i64 (z.an.length)),.sc (.int .i64 (i))]) (fun _=>[some (.row [.vl false 1 (z.origin.map (ai.val false)),.vl false 5 (z.an.map (aj.val false))] 0 2 26),some (.row [.vl false 1 (z.origin.map (ai.val false)),.vl false 5 (z.an.map (aj.val false)),.sc (.int .i64 (0))] 0 2 61)]) (fun i=>i≤z.an.length) (fun i=>z.an.length - i) 0 (Nat.zero_le _) (by simp only [↓wR,RA,simprocAttr,TF,ae]<;>rfl) (by simp only [↓wR,RA,simprocAttr,TF,ae]<;>rfl) ?_
  clear h
  intro i hi
  have hsum:=akn (z.an.take i)
  have hsum2:=ab0 lh z.an i
  have hzz:di lh z.an≤16777216:=by unfold dw N5 at hz;omega
  simp only [↓wR,RA,simprocAttr,TF,ae]
  rw [bj];refine ⟨fun h=>?_,fun h=>?_⟩
  ·obtain ⟨c,hc,hd1,hlt⟩:=gm (decide_eq_true h)
   have hst:=abx z.an i c hc
   have hcl:=(hz.set c (List.mem_of_getElem? hc)).data.len
   simp only [↓wR,RA,simprocAttr,TF,ae,h,hc];repeat (simp (disch:=omega) only [ah,bh,bf,bg,be];try simp only [↓wR,RA,simprocAttr,TF,ae,h,hc])
   exact ⟨i+1,hlt,by omega,by rw [hst];(first|rfl|trivial|omega|((try (simp (disch:=omega) only [ah]));(try (simp only [FB]));first|done|rfl|omega))⟩
  have hin:i=z.an.length:=by omega
  rw [hin,List.take_length] at hsum ⊢
  simp only [↓wR,RA,simprocAttr,TF,ae,h]
  have hd:decide ((o8 z.an:Int)≤2048)=decide (o8 z.an≤2048):=by rw [decide_eq_decide];omega
  rw [hd]
  refine ct (fun r st'=>r = .fc []∧st'=bb [some (.row [.vl false 1 (z.origin.map (ai.val false)),.vl false 5 (z.an.map (aj.val false))] 0 2 26),some (.row [.vl false 1 (z.origin.map (ai.val false)),.vl false 5 (z.an.map (aj.val false)),.sc (.int .i64 (cr (decide (o8 z.an≤2048)) 3 (0)))] 0 2 61)]) rfl ?_ ?_
  ·refine bm (T:=[dj,fv,ic,kb,ka,kc,jf,mr,qf,mo]) ok mixed Tryz.func22 rfl (by kernel_rfl) (by kernel_rfl) (by kernel_rfl) (by kernel_rfl) ?_;unfold Tryz.f22
   simp only [↓wR,RA,simprocAttr,TF,ae]
   rw [dm];refine ⟨fun hn2=>?_,fun hn2=>?_⟩
   ·have hb:(decide (o8 z.an≤2048))=false:=by simpa only [Bool.not_eq_true'] using hn2
    have hv:cr (decide (o8 z.an≤2048)) 3 (0)=3:=by unfold cr;rw [if_pos ⟨rfl,hb⟩]
    simp only [↓wR,RA,simprocAttr,TF,ae,hn2,gn,fy,fp]
    try rw [hv]
   ·have hb:(decide (o8 z.an≤2048))=true:=by simpa only [Bool.not_eq_false'] using hn2
    have hv:cr (decide (o8 z.an≤2048)) 3 (0)=0:=by unfold cr;rw [if_neg (fun q=>by rw [hb] at q;cases q.2)]
    simp only [↓wR,RA,simprocAttr,TF,ae,hn2,gn,fy,fp]
    try rw [hv]
  rintro _ _ ⟨rfl,rfl⟩
  simp only [↓wR,RA,simprocAttr,TF,ae,cx]
  refine c8 [0,45,46,47] (fun (x:Nat × Int)=>[.ptr 1 0,.vl false 5 (z.an.map (aj.val false)),.sc (.int .i64 (z.an.length)),.sc (.int .i64 (x.1))]) (fun x=>[some (.row [.vl false 1 (z.origin.map (ai.val false)),.vl false 5 (z.an.map (aj.val false))] 0 2 26),some (.row [.vl false 1 (z.origin.map (ai.val false)),.vl false 5 (z.an.map (aj.val false)),.sc (.int .i64 (x.2))] 0 2 61)]) (fun x=>x.1≤z.an.length∧G7 z.an (cr (decide (o8 z.an≤2048)) 3 0)=G7 (z.an.drop x.1) x.2) (fun x=>z.an.length - x.1) (0,cr (decide (o8 z.an≤2048)) 3 0) ⟨Nat.zero_le _,rfl⟩ (by simp only [↓wR,RA,simprocAttr,TF,ae]<;>rfl) (by simp only [↓wR,RA,simprocAttr,TF,ae]<;>rfl) ?_
  clear h hi hin hd
  rintro ⟨i,e⟩ ⟨hi,hx⟩
  simp only at hi hx
  simp only [↓wR,RA,simprocAttr,TF,ae]
  rw [bj];refine ⟨fun h=>?_,fun h=>?_⟩
  ·obtain ⟨c,hc,hd1,hlt⟩:=gm (decide_eq_true h)
   rw [at0 hd1] at hx
   have hcs:=hz.set c (List.mem_of_getElem? hc)
   simp only [↓wR,RA,simprocAttr,TF,ae,h,hc]
   rw [eb];refine ⟨fun ⟨h1,e1⟩=>?_,fun ⟨h1,e1⟩=>?_⟩
   ·rw [if_pos e1] at hx
    simp only [↓wR,RA,simprocAttr,TF,ae,h1,xb,hcs];repeat (simp (disch:=omega) only [ah,bh,bf,bg,be];try simp only [↓wR,RA,simprocAttr,TF,ae,h1,xb,hcs])
    exact ⟨(i+1,ng c),⟨hlt,hx⟩,by simp;omega,by (first|rfl|trivial|omega|((try (simp (disch:=omega) only [ah]));(try (simp only [FB]));first|done|rfl|omega)),by (first|rfl|trivial|omega|((try (simp (disch:=omega) only [ah]));(try (simp only [FB]));first|done|rfl|omega))⟩
   ·rw [if_neg e1] at hx
    simp only [↓wR,RA,simprocAttr,TF,ae,h1];repeat (simp (disch:=omega) only [ah,bh,bf,bg,be];try simp only [↓wR,RA,simprocAttr,TF,ae,h1])
    exact ⟨(i+1,e),⟨hlt,hx⟩,by simp;omega,by (first|rfl|trivial|omega|((try (simp (disch:=omega) only [ah]));(try (simp only [FB]));first|done|rfl|omega)),by (first|rfl|trivial|omega|((try (simp (disch:=omega) only [ah]));(try (simp only [FB]));first|done|rfl|omega))⟩
  ·rw [jh (decide_eq_false h)] at hx
   simp only [↓wR,RA,simprocAttr,TF,ae,h,gn,fy,fp]
   rw [hx];rfl
 rintro _ _ ⟨rfl,rfl⟩
 simp only [↓wR,RA,simprocAttr,TF,ae,cx]
 unfold kf
 rw [dm];refine ⟨fun h=>?_,fun h=>?_⟩
 ·have he:xd z≠0:=by simpa using h
  rw [if_pos he]
  simp only [↓wR,RA,simprocAttr,TF,ae,h]
 have he:xd z=0:=by simpa using h
 rw [if_neg (by omega)]
 simp only [↓wR,RA,simprocAttr,TF,ae,h]
 clear h he
 obtain ⟨e0,he0⟩:∃ e0,xd z=e0:=⟨_,rfl⟩
 rw [he0]
 refine ct (fun r st'=>r = .fc []∧st'=bb [some (.row [.vl false 1 (z.origin.map (ai.val false)),.vl false 5 (z.an.map (aj.val false))] 0 2 26),some (.row [.vl false 1 (z.origin.map (ai.val false)),.vl false 5 (z.an.map (aj.val false)),.sc (.int .i64 (g8 260 (kq z) 0 z.an e0))] 0 2 61)]) rfl ?_ ?_
 ·refine bm (T:=[dj,fv,ic,kb,ka,kc,jf,mr,qf,mo]) ok mixed Tryz.func16 rfl (by kernel_rfl) (by kernel_rfl) (by kernel_rfl) (by kernel_rfl) ?_;unfold Tryz.f16
  simp only [↓wR,RA,simprocAttr,TF,ae]
  refine c8 [0,1,2,12,13,14] (fun (x:Nat × Int)=>[.ptr 1 0,.sc (.int .i64 (260)),.fn (.func 17) [.ptr 1 0] [],.vl false 5 (z.an.map (aj.val false)),.sc (.int .i64 (z.an.length)),.sc (.int .i64 (x.1))]) (fun x=>[some (.row [.vl false 1 (z.origin.map (ai.val false)),.vl false 5 (z.an.map (aj.val false))] 0 2 26),some (.row [.vl false 1 (z.origin.map (ai.val false)),.vl false 5 (z.an.map (aj.val false)),.sc (.int .i64 (x.2))] 0 2 61)]) (fun x=>x.1≤z.an.length∧g8 260 (kq z) 0 z.an e0=g8 260 (kq z) x.1 (z.an.drop x.1) x.2) (fun x=>z.an.length - x.1) (0,e0) ⟨Nat.zero_le _,rfl⟩ (by simp only [↓wR,RA,simprocAttr,TF,ae]<;>rfl) (by simp only [↓wR,RA,simprocAttr,TF,ae]<;>rfl) ?_
  rintro ⟨i,e⟩ ⟨hi,hx⟩
  simp only at hi hx
  simp only [↓wR,RA,simprocAttr,TF,ae]
  rw [bj];refine ⟨fun h=>?_,fun h=>?_⟩
  ·obtain ⟨c,hc,hd1,hlt⟩:=gm (decide_eq_true h)
   rw [u9 hd1] at hx
   have hcs:=hz.set c (List.mem_of_getElem? hc)
   have hi2:(0:Int)≤i∧(i:Int)≤z.an.length:=by omega
   simp only [↓wR,RA,simprocAttr,TF,ae,h,hc]
   rw [ed];refine ⟨fun ⟨h1,e1⟩=>?_,fun ⟨h1,e1⟩=>?_⟩
   ·rw [if_pos e1] at hx
    simp only [↓wR,RA,simprocAttr,TF,ae,h1,gn,fy,fp]
    rw [hx]
   ·rw [if_neg (by omega)] at hx
    simp only [↓wR,RA,simprocAttr,TF,ae,h1,hcs,hz,hi2,I5]
    refine ct (fun r st'=>r = .fc []∧st'=bb [some (.row [.vl false 1 (z.origin.map (ai.val false)),.vl false 5 (z.an.map (aj.val false))] 0 2 26),some (.row [.vl false 1 (z.origin.map (ai.val false)),.vl false 5 (z.an.map (aj.val false)),.sc (.int .i64 (cr ((kq z) i c) 260 e))] 0 2 61),some (.row [.vl false 1 (c.owner.map (ai.val false)),.sc (.int .u16 c.type.toNat),.sc (.int .u16 c.cls.toNat),.sc (.int .u32 c.b7.toNat),.vl false 4 (c.data.map (ak.val false))] 0 2 58)]) rfl ?_ ?_
    ·refine bm (T:=[dj,fv,ic,kb,ka,kc,jf,mr,qf,mo]) ok mixed Tryz.func22 rfl (by kernel_rfl) (by kernel_rfl) (by kernel_rfl) (by kernel_rfl) ?_;unfold Tryz.f22
     simp only [↓wR,RA,simprocAttr,TF,ae,e1]
     rw [dm];refine ⟨fun hn2=>?_,fun hn2=>?_⟩
     ·have hb:((kq z) i c)=false:=by simpa only [Bool.not_eq_true'] using hn2
      have hv:cr ((kq z) i c) 260 0=260:=by unfold cr;rw [if_pos ⟨rfl,hb⟩]
      simp only [↓wR,RA,simprocAttr,TF,ae,hn2,gn,fy,fp]
      try rw [hv]
     ·have hb:((kq z) i c)=true:=by simpa only [Bool.not_eq_false'] using hn2
      have hv:cr ((kq z) i c) 260 0=0:=by unfold cr;rw [if_neg (fun q=>by rw [hb] at q;cases q.2)]
      simp only [↓wR,RA,simprocAttr,TF,ae,hn2,gn,fy,fp]
      try rw [hv]
    rintro _ _ ⟨rfl,rfl⟩
    simp only [↓wR,RA,simprocAttr,TF,ae,cx];repeat (simp (disch:=omega) only [ah,bh,bf,bg,be];try simp only [↓wR,RA,simprocAttr,TF,ae,cx])
    exact ⟨(i+1,cr ((kq z) i c) 260 e),⟨hlt,hx⟩,by simp;omega,by (first|rfl|trivial|omega|((try (simp (disch:=omega) only [ah]));(try (simp only [FB]));first|done|rfl|omega)),by (first|rfl|trivial|omega|((try (simp (disch:=omega) only [ah]));(try (simp only [FB]));first|done|rfl|omega))⟩
  ·rw [jh (decide_eq_false h)] at hx
   simp only [↓wR,RA,simprocAttr,TF,ae,h,gn,fy,fp]
   rw [hx];rfl
 rintro _ _ ⟨rfl,rfl⟩
 rw [← he0]
 clear he0
 simp only [↓wR,RA,simprocAttr,TF,ae,cx]
 rw [show g8 260 (kq z) 0 z.an (xd z)=Vi z from rfl]
 obtain ⟨e0,he0⟩:∃ e0,Vi z=e0:=⟨_,rfl⟩
 rw [he0]
 refine ct (fun r st'=>r = .fc []∧st'=bb [some (.row [.vl false 1 (z.origin.map (ai.val false)),.vl false 5 (z.an.map (aj.val false))] 0 2 26),some (.row [.vl false 1 (z.origin.map (ai.val false)),.vl false 5 (z.an.map (aj.val false)),.sc (.int .i64 (g8 261 (fun _ s=>rh s) 0 z.an e0))] 0 2 61)]) rfl ?_ ?_
 ·refine bm (T:=[dj,fv,ic,kb,ka,kc,jf,mr,qf,mo]) ok mixed Tryz.func16 rfl (by kernel_rfl) (by kernel_rfl) (by kernel_rfl) (by kernel_rfl) ?_;unfold Tryz.f16
  simp only [↓wR,RA,simprocAttr,TF,ae]
  refine c8 [0,1,2,12,13,14] (fun (x:Nat × Int)=>[.ptr 1 0,.sc (.int .i64 (261)),.sc (.func (.func 18) #[] #[]),.vl false 5 (z.an.map (aj.val false)),.sc (.int .i64 (z.an.length)),.sc (.int .i64 (x.1))]) (fun x=>[some (.row [.vl false 1 (z.origin.map (ai.val false)),.vl false 5 (z.an.map (aj.val false))] 0 2 26),some (.row [.vl false 1 (z.origin.map (ai.val false)),.vl false 5 (z.an.map (aj.val false)),.sc (.int .i64 (x.2))] 0 2 61)]) (fun x=>x.1≤z.an.length∧g8 261 (fun _ s=>rh s) 0 z.an e0=g8 261 (fun _ s=>rh s) x.1 (z.an.drop x.1) x.2) (fun x=>z.an.length - x.1) (0,e0) ⟨Nat.zero_le _,rfl⟩ (by simp only [↓wR,RA,simprocAttr,TF,ae]<;>rfl) (by simp only [↓wR,RA,simprocAttr,TF,ae]<;>rfl) ?_
  rintro ⟨i,e⟩ ⟨hi,hx⟩
  simp only at hi hx
  simp only [↓wR,RA,simprocAttr,TF,ae]
  rw [bj];refine ⟨fun h=>?_,fun h=>?_⟩
  ·obtain ⟨c,hc,hd1,hlt⟩:=gm (decide_eq_true h)
   rw [u9 hd1] at hx
   have hcs:=hz.set c (List.mem_of_getElem? hc)
   have hi2:(0:Int)≤i∧(i:Int)≤z.an.length:=by omega
   simp only [↓wR,RA,simprocAttr,TF,ae,h,hc]
   rw [ed];refine ⟨fun ⟨h1,e1⟩=>?_,fun ⟨h1,e1⟩=>?_⟩
   ·rw [if_pos e1] at hx
    simp only [↓wR,RA,simprocAttr,TF,ae,h1,gn,fy,fp]
    rw [hx]
   ·rw [if_neg (by omega)] at hx
    simp only [↓wR,RA,simprocAttr,TF,ae,h1,hcs,hz,hi2,We]
    refine ct (fun r st'=>r = .fc []∧st'=bb [some (.row [.vl false 1 (z.origin.map (ai.val false)),.vl false 5 (z.an.map (aj.val false))] 0 2 26),some (.row [.vl false 1 (z.origin.map (ai.val false)),.vl false 5 (z.an.map (aj.val false)),.sc (.int .i64 (cr ((fun _ s=>rh s) i c) 261 e))] 0 2 61),some (.row [.vl false 1 (c.owner.map (ai.val false)),.sc (.int .u16 c.type.toNat),.sc (.int .u16 c.cls.toNat),.sc (.int .u32 c.b7.toNat),.vl false 4 (c.data.map (ak.val false))] 0 2 58)]) rfl ?_ ?_
    ·refine bm (T:=[dj,fv,ic,kb,ka,kc,jf,mr,qf,mo]) ok mixed Tryz.func22 rfl (by kernel_rfl) (by kernel_rfl) (by kernel_rfl) (by kernel_rfl) ?_;unfold Tryz.f22
     simp only [↓wR,RA,simprocAttr,TF,ae,e1]
     rw [dm];refine ⟨fun hn2=>?_,fun hn2=>?_⟩
     ·have hb:((fun _ s=>rh s) i c)=false:=by simpa only [Bool.not_eq_true'] using hn2
      have hv:cr ((fun _ s=>rh s) i c) 261 0=261:=by unfold cr;rw [if_pos ⟨rfl,hb⟩]
      simp only [↓wR,RA,simprocAttr,TF,ae,hn2,gn,fy,fp]
      try rw [hv]
     ·have hb:((fun _ s=>rh s) i c)=true:=by simpa only [Bool.not_eq_false'] using hn2
      have hv:cr ((fun _ s=>rh s) i c) 261 0=0:=by unfold cr;rw [if_neg (fun q=>by rw [hb] at q;cases q.2)]
      simp only [↓wR,RA,simprocAttr,TF,ae,hn2,gn,fy,fp]
      try rw [hv]
    rintro _ _ ⟨rfl,rfl⟩
    simp only [↓wR,RA,simprocAttr,TF,ae,cx];repeat (simp (disch:=omega) only [ah,bh,bf,bg,be];try simp only [↓wR,RA,simprocAttr,TF,ae,cx])
    exact ⟨(i+1,cr ((fun _ s=>rh s) i c) 261 e),⟨hlt,hx⟩,by simp;omega,by (first|rfl|trivial|omega|((try (simp (disch:=omega) only [ah]));(try (simp only [FB]));first|done|rfl|omega)),by (first|rfl|trivial|omega|((try (simp (disch:=omega) only [ah]));(try (simp only [FB]));first|done|rfl|omega))⟩
  ·rw [jh (decide_eq_false h)] at hx
   simp only [↓wR,RA,simprocAttr,TF,ae,h,gn,fy,fp]
   rw [hx];rfl
 rintro _ _ ⟨rfl,rfl⟩
 rw [← he0]
 clear he0
 simp only [↓wR,RA,simprocAttr,TF,ae,cx]
 rw [show g8 261 (fun _ s=>rh s) 0 z.an (Vi z)=Uy z from rfl]
 obtain ⟨e0,he0⟩:∃ e0,Uy z=e0:=⟨_,rfl⟩
 rw [he0]
 refine ct (fun r st'=>r = .fc []∧st'=bb [some (.row [.vl false 1 (z.origin.map (ai.val false)),.vl false 5 (z.an.map (aj.val false))] 0 2 26),some (.row [.vl false 1 (z.origin.map (ai.val false)),.vl false 5 (z.an.map (aj.val false)),.sc (.int .i64 (g8 262 (fun _ s=>jm s.owner z.origin) 0 z.an e0))] 0 2 61)]) rfl ?_ ?_
 ·refine bm (T:=[dj,fv,ic,kb,ka,kc,jf,mr,qf,mo]) ok mixed Tryz.func16 rfl (by kernel_rfl) (by kernel_rfl) (by kernel_rfl) (by kernel_rfl) ?_;unfold Tryz.f16
  simp only [↓wR,RA,simprocAttr,TF,ae]
  refine c8 [0,1,2,12,13,14] (fun (x:Nat × Int)=>[.ptr 1 0,.sc (.int .i64 (262)),.fn (.func 19) [] [.ptr 0 0],.vl false 5 (z.an.map (aj.val false)),.sc (.int .i64 (z.an.length)),.sc (.int .i64 (x.1))]) (fun x=>[some (.row [.vl false 1 (z.origin.map (ai.val false)),.vl false 5 (z.an.map (aj.val false))] 0 2 26),some (.row [.vl false 1 (z.origin.map (ai.val false)),.vl false 5 (z.an.map (aj.val false)),.sc (.int .i64 (x.2))] 0 2 61)]) (fun x=>x.1≤z.an.length∧g8 262 (fun _ s=>jm s.owner z.origin) 0 z.an e0=g8 262 (fun _ s=>jm s.owner z.origin) x.1 (z.an.drop x.1) x.2) (fun x=>z.an.length - x.1) (0,e0) ⟨Nat.zero_le _,rfl⟩ (by simp only [↓wR,RA,simprocAttr,TF,ae]<;>rfl) (by simp only [↓wR,RA,simprocAttr,TF,ae]<;>rfl) ?_
  rintro ⟨i,e⟩ ⟨hi,hx⟩
  simp only at hi hx
  simp only [↓wR,RA,simprocAttr,TF,ae]
  rw [bj];refine ⟨fun h=>?_,fun h=>?_⟩
  ·obtain ⟨c,hc,hd1,hlt⟩:=gm (decide_eq_true h)
   rw [u9 hd1] at hx
   have hcs:=hz.set c (List.mem_of_getElem? hc)
   have hi2:(0:Int)≤i∧(i:Int)≤z.an.length:=by omega
   simp only [↓wR,RA,simprocAttr,TF,ae,h,hc]
   rw [ed];refine ⟨fun ⟨h1,e1⟩=>?_,fun ⟨h1,e1⟩=>?_⟩
   ·rw [if_pos e1] at hx
    simp only [↓wR,RA,simprocAttr,TF,ae,h1,gn,fy,fp]
    rw [hx]
   ·rw [if_neg (by omega)] at hx
    simp only [↓wR,RA,simprocAttr,TF,ae,h1,hcs,hz,hi2,Fb]
    refine ct (fun r st'=>r = .fc []∧st'=bb [some (.row [.vl false 1 (z.origin.map (ai.val false)),.vl false 5 (z.an.map (aj.val false))] 0 2 26),some (.row [.vl false 1 (z.origin.map (ai.val false)),.vl false 5 (z.an.map (aj.val false)),.sc (.int .i64 (cr ((fun _ s=>jm s.owner z.origin) i c) 262 e))] 0 2 61),some (.row [.vl false 1 (c.owner.map (ai.val false)),.sc (.int .u16 c.type.toNat),.sc (.int .u16 c.cls.toNat),.sc (.int .u32 c.b7.toNat),.vl false 4 (c.data.map (ak.val false))] 0 2 58)]) rfl ?_ ?_
    ·refine bm (T:=[dj,fv,ic,kb,ka,kc,jf,mr,qf,mo]) ok mixed Tryz.func22 rfl (by kernel_rfl) (by kernel_rfl) (by kernel_rfl) (by kernel_rfl) ?_;unfold Tryz.f22
     simp only [↓wR,RA,simprocAttr,TF,ae,e1]
     rw [dm];refine ⟨fun hn2=>?_,fun hn2=>?_⟩
     ·have hb:((fun _ s=>jm s.owner z.origin) i c)=false:=by simpa only [Bool.not_eq_true'] using hn2
      have hv:cr ((fun _ s=>jm s.owner z.origin) i c) 262 0=262:=by unfold cr;rw [if_pos ⟨rfl,hb⟩]
      simp only [↓wR,RA,simprocAttr,TF,ae,hn2,gn,fy,fp]
      try rw [hv]
     ·have hb:((fun _ s=>jm s.owner z.origin) i c)=true:=by simpa only [Bool.not_eq_false'] using hn2
      have hv:cr ((fun _ s=>jm s.owner z.origin) i c) 262 0=0:=by unfold cr;rw [if_neg (fun q=>by rw [hb] at q;cases q.2)]
      simp only [↓wR,RA,simprocAttr,TF,ae,hn2,gn,fy,fp]
      try rw [hv]
    rintro _ _ ⟨rfl,rfl⟩
    simp only [↓wR,RA,simprocAttr,TF,ae,cx];repeat (simp (disch:=omega) only [ah,bh,bf,bg,be];try simp only [↓wR,RA,simprocAttr,TF,ae,cx])
    exact ⟨(i+1,cr ((fun _ s=>jm s.owner z.origin) i c) 262 e),⟨hlt,hx⟩,by simp;omega,by (first|rfl|trivial|omega|((try (simp (disch:=omega) only [ah]));(try (simp only [FB]));first|done|rfl|omega)),by (first|rfl|trivial|omega|((try (simp (disch:=omega) only [ah]));(try (simp only [FB]));first|done|rfl|omega))⟩
  ·rw [jh (decide_eq_false h)] at hx
   simp only [↓wR,RA,simprocAttr,TF,ae,h,gn,fy,fp]
   rw [hx];rfl
 rintro _ _ ⟨rfl,rfl⟩
 rw [← he0]
 clear he0
 simp only [↓wR,RA,simprocAttr,TF,ae,cx,Ls,hz]
 rw [show g8 262 (fun _ s=>jm s.owner z.origin) 0 z.an (Uy z)=tf z from rfl]
 rw [eb];refine ⟨fun ⟨hs1,es1⟩=>?_,fun ⟨hs1,es1⟩=>?_⟩
 ·simp only [↓wR,RA,simprocAttr,TF,ae,hs1]
  rw [show (((iu z).2:Int) == 1)=(decide ((iu z).1=1) && decide ((iu z).2=1)) from by rw [decide_eq_true (show (iu z).1=1 by omega),Bool.true_and,Bool.eq_iff_iff];simp;omega]
  refine ct (fun r st'=>r = .fc []∧st'=bb [some (.row [.vl false 1 (z.origin.map (ai.val false)),.vl false 5 (z.an.map (aj.val false))] 0 2 26),some (.row [.vl false 1 (z.origin.map (ai.val false)),.vl false 5 (z.an.map (aj.val false)),.sc (.int .i64 (cr (decide ((iu z).1=1) && decide ((iu z).2=1)) 263 (tf z)))] 0 2 61)]) rfl ?_ ?_
  ·refine bm (T:=[dj,fv,ic,kb,ka,kc,jf,mr,qf,mo]) ok mixed Tryz.func22 rfl (by kernel_rfl) (by kernel_rfl) (by kernel_rfl) (by kernel_rfl) ?_;unfold Tryz.f22
   simp only [↓wR,RA,simprocAttr,TF,ae]
   rw [eb];refine ⟨fun ⟨hn1,en1⟩=>?_,fun ⟨hn1,en1⟩=>?_⟩
   ·simp only [↓wR,RA,simprocAttr,TF,ae,hn1]
    rw [dm];refine ⟨fun hn2=>?_,fun hn2=>?_⟩
    ·have hb:(decide ((iu z).1=1) && decide ((iu z).2=1))=false:=by simpa only [Bool.not_eq_true'] using hn2
     have hv:cr (decide ((iu z).1=1) && decide ((iu z).2=1)) 263 (tf z)=263:=by unfold cr;rw [if_pos ⟨en1,hb⟩]
     simp only [↓wR,RA,simprocAttr,TF,ae,hn1,hn2,gn,fy,fp]
     try rw [hv]
    ·have hb:(decide ((iu z).1=1) && decide ((iu z).2=1))=true:=by simpa only [Bool.not_eq_false'] using hn2
     have hv:cr (decide ((iu z).1=1) && decide ((iu z).2=1)) 263 (tf z)=tf z:=by unfold cr;rw [if_neg (fun q=>by rw [hb] at q;cases q.2)]
     simp only [↓wR,RA,simprocAttr,TF,ae,hn1,hn2,gn,fy,fp]
     try rw [hv]
   ·have hv:cr (decide ((iu z).1=1) && decide ((iu z).2=1)) 263 (tf z)=tf z:=by unfold cr;rw [if_neg (fun q=>en1 q.1)]
    simp only [↓wR,RA,simprocAttr,TF,ae,hn1,gn,fy,fp]
    try rw [hv]
  rintro _ _ ⟨rfl,rfl⟩
  rw [show cr (decide ((iu z).1=1) && decide ((iu z).2=1)) 263 (tf z)=ow z from rfl]
  simp only [↓wR,RA,simprocAttr,TF,ae,cx]
  refine bm (T:=[]) (aq.nil PP) mixed Tryz.func23 rfl (by kernel_rfl) (by kernel_rfl) (by kernel_rfl) (by kernel_rfl) ?_;unfold Tryz.f23
  simp only [↓wR,RA,simprocAttr,TF,ae]
  refine ⟨[1,3,6,45],?_⟩
  have hib:wt PP 42=some (Tryz.f42.ntmps,Tryz.f42.body.getD .skip):=by kernel_rfl
  simp only [↓wR,RA,simprocAttr,TF,ae,hib]
  refine ⟨by kernel_rfl,fun l=>?_⟩
  unfold Tryz.f42
  simp only [↓wR,RA,simprocAttr,TF,ae]
  refine Gg [0,2,7,8,9] (fun (x:Nat × Bool)=>[.sc (.func (.yield l) #[] #[]),.ptr 4 0,.vl false 5 (z.an.map (aj.val false)),.sc (.int .i64 (z.an.length)),.sc (.int .i64 (x.1))]) (fun x=>[some (.row [.vl false 1 (z.origin.map (ai.val false)),.vl false 5 (z.an.map (aj.val false))] 0 2 26),some (.row [.vl false 1 (z.origin.map (ai.val false)),.vl false 5 (z.an.map (aj.val false)),.sc (.int .i64 (ow z))] 0 2 61),some (.row [.sc (.bool (x.2))] 0 2 4),some (.row [.vl false 1 (z.origin.map (ai.val false)),.vl false 5 (z.an.map (aj.val false))] 0 2 26),some (.row [.sc (.int .u16 2)] 0 2 37)]) (fun x=>x.1≤z.an.length∧i5 z=(x.2 || Jf z (z.an.drop x.1))) (fun x=>z.an.length - x.1) (0,false) ⟨Nat.zero_le _,by rw [Bool.false_or];rfl⟩ (by simp only [↓wR,RA,simprocAttr,TF,ae]<;>rfl) (by simp only [↓wR,RA,simprocAttr,TF,ae]<;>rfl) ?_
  rintro ⟨i,b⟩ ⟨hi,hx⟩
  simp only at hi hx
  simp only [↓wR,RA,simprocAttr,TF,ae]
  rw [yc];refine ⟨fun h=>?_,fun h=>?_⟩
  ·obtain ⟨c,hc,hd1,hlt⟩:=gm h
   have hcs:=hz.set c (List.mem_of_getElem? hc)
   rw [acm hd1] at hx
   simp only [↓wR,RA,simprocAttr,TF,ae,h,hc]
   rw [yc];refine ⟨fun h2=>?_,fun h2=>?_⟩
   ·have e2:(c.type.toNat:Int)=2:=by simpa using h2
    rw [decide_eq_true e2,Bool.true_and] at hx
    simp only [↓wR,RA,simprocAttr,TF,ae,h2]
    refine z8 [0,2,7,8,9,17,19] ?_
    simp only [↓wR,RA,simprocAttr,TF,ae,A1,po]
    cases b with
    |true=>
     simp only [↓wR,RA,simprocAttr,TF,ae];repeat (simp (disch:=omega) only [ah,bh,bf,bg,be];try simp only [↓wR,RA,simprocAttr,TF,ae])
     exact ⟨(i+1,true),⟨hlt,by rw [hx];rfl⟩,by simp;omega,by (first|rfl|trivial|omega|((try (simp (disch:=omega) only [ah]));(try (simp only [FB]));first|done|rfl|omega)),by (first|rfl|trivial|omega|((try (simp (disch:=omega) only [ah]));(try (simp only [FB]));first|done|rfl|omega))⟩
    |false=>
     simp only [↓wR,RA,simprocAttr,TF,ae,nw,hcs.owner,hz.origin];repeat (simp (disch:=omega) only [ah,bh,bf,bg,be];try simp only [↓wR,RA,simprocAttr,TF,ae,nw,hcs.owner,hz.origin])
     exact ⟨(i+1,jg c.owner z.origin),⟨hlt,by rw [hx,Bool.false_or]⟩,by simp;omega,by (first|rfl|trivial|omega|((try (simp (disch:=omega) only [ah]));(try (simp only [FB]));first|done|rfl|omega)),by (first|rfl|trivial|omega|((try (simp (disch:=omega) only [ah]));(try (simp only [FB]));first|done|rfl|omega))⟩
   ·have e2:¬ (c.type.toNat:Int)=2:=by simpa using h2
    rw [decide_eq_false e2,Bool.false_and,Bool.false_or] at hx
    simp only [↓wR,RA,simprocAttr,TF,ae,h2];repeat (simp (disch:=omega) only [ah,bh,bf,bg,be];try simp only [↓wR,RA,simprocAttr,TF,ae,h2])
    exact ⟨(i+1,b),⟨hlt,hx⟩,by simp;omega,by (first|rfl|trivial|omega|((try (simp (disch:=omega) only [ah]));(try (simp only [FB]));first|done|rfl|omega)),by (first|rfl|trivial|omega|((try (simp (disch:=omega) only [ah]));(try (simp only [FB]));first|done|rfl|omega))⟩
  rw [jh h] at hx
  have hb:b=i5 z:=by rw [hx];simp [Jf]
  simp only [↓wR,RA,simprocAttr,TF,ae,h]
  rw [hb]
  clear h hx hb
  refine ct (fun r st'=>r = .fc []∧st'=bb [some (.row [.vl false 1 (z.origin.map (ai.val false)),.vl false 5 (z.an.map (aj.val false))] 0 2 26),some (.row [.vl false 1 (z.origin.map (ai.val false)),.vl false 5 (z.an.map (aj.val false)),.sc (.int .i64 (cr (i5 z) 264 (ow z)))] 0 2 61),some (.row [.sc (.bool (i5 z))] 0 2 4),some (.row [.vl false 1 (z.origin.map (ai.val false)),.vl false 5 (z.an.map (aj.val false))] 0 2 26),some (.row [.sc (.int .u16 2)] 0 2 37)]) rfl ?_ ?_
  ·refine bm (T:=[dj,fv,ic,kb,ka,kc,jf,mr,qf,mo]) ok mixed Tryz.func22 rfl (by kernel_rfl) (by kernel_rfl) (by kernel_rfl) (by kernel_rfl) ?_;unfold Tryz.f22
   simp only [↓wR,RA,simprocAttr,TF,ae]
   rw [eb];refine ⟨fun ⟨hn1,en1⟩=>?_,fun ⟨hn1,en1⟩=>?_⟩
   ·simp only [↓wR,RA,simprocAttr,TF,ae,hn1]
    rw [dm];refine ⟨fun hn2=>?_,fun hn2=>?_⟩
    ·have hb:(i5 z)=false:=by simpa only [Bool.not_eq_true'] using hn2
     have hv:cr (i5 z) 264 (ow z)=264:=by unfold cr;rw [if_pos ⟨en1,hb⟩]
     simp only [↓wR,RA,simprocAttr,TF,ae,hn1,hn2,gn,fy,fp]
     try rw [hv]
    ·have hb:(i5 z)=true:=by simpa only [Bool.not_eq_false'] using hn2
     have hv:cr (i5 z) 264 (ow z)=ow z:=by unfold cr;rw [if_neg (fun q=>by rw [hb] at q;cases q.2)]
     simp only [↓wR,RA,simprocAttr,TF,ae,hn1,hn2,gn,fy,fp]
     try rw [hv]
   ·have hv:cr (i5 z) 264 (ow z)=ow z:=by unfold cr;rw [if_neg (fun q=>en1 q.1)]
    simp only [↓wR,RA,simprocAttr,TF,ae,hn1,gn,fy,fp]
    try rw [hv]
  rintro _ _ ⟨rfl,rfl⟩
  rw [show cr (i5 z) 264 (ow z)=F0 z from rfl]
  simp only [↓wR,RA,simprocAttr,TF,ae,cx]
  obtain ⟨e0,he0⟩:∃ e0,F0 z=e0:=⟨_,rfl⟩
  rw [he0]
  refine ct (fun r st'=>r = .fc []∧st'=bb [some (.row [.vl false 1 (z.origin.map (ai.val false)),.vl false 5 (z.an.map (aj.val false))] 0 2 26),some (.row [.vl false 1 (z.origin.map (ai.val false)),.vl false 5 (z.an.map (aj.val false)),.sc (.int .i64 (g8 265 (jw z) 0 z.an e0))] 0 2 61),some (.row [.sc (.bool (i5 z))] 0 2 4),some (.row [.vl false 1 (z.origin.map (ai.val false)),.vl false 5 (z.an.map (aj.val false))] 0 2 26),some (.row [.sc (.int .u16 2)] 0 2 37)]) rfl ?_ ?_
  ·refine bm (T:=[dj,fv,ic,kb,ka,kc,jf,mr,qf,mo]) ok mixed Tryz.func16 rfl (by kernel_rfl) (by kernel_rfl) (by kernel_rfl) (by kernel_rfl) ?_;unfold Tryz.f16
   simp only [↓wR,RA,simprocAttr,TF,ae]
   refine c8 [0,1,2,12,13,14] (fun (x:Nat × Int)=>[.ptr 1 0,.sc (.int .i64 (265)),.fn (.func 24) [.ptr 1 0] [],.vl false 5 (z.an.map (aj.val false)),.sc (.int .i64 (z.an.length)),.sc (.int .i64 (x.1))]) (fun x=>[some (.row [.vl false 1 (z.origin.map (ai.val false)),.vl false 5 (z.an.map (aj.val false))] 0 2 26),some (.row [.vl false 1 (z.origin.map (ai.val false)),.vl false 5 (z.an.map (aj.val false)),.sc (.int .i64 (x.2))] 0 2 61),some (.row [.sc (.bool (i5 z))] 0 2 4),some (.row [.vl false 1 (z.origin.map (ai.val false)),.vl false 5 (z.an.map (aj.val false))] 0 2 26),some (.row [.sc (.int .u16 2)] 0 2 37)]) (fun x=>x.1≤z.an.length∧g8 265 (jw z) 0 z.an e0=g8 265 (jw z) x.1 (z.an.drop x.1) x.2) (fun x=>z.an.length - x.1) (0,e0) ⟨Nat.zero_le _,rfl⟩ (by simp only [↓wR,RA,simprocAttr,TF,ae]<;>rfl) (by simp only [↓wR,RA,simprocAttr,TF,ae]<;>rfl) ?_
   rintro ⟨i,e⟩ ⟨hi,hx⟩
   simp only at hi hx
   simp only [↓wR,RA,simprocAttr,TF,ae]
   rw [bj];refine ⟨fun h=>?_,fun h=>?_⟩
   ·obtain ⟨c,hc,hd1,hlt⟩:=gm (decide_eq_true h)
    rw [u9 hd1] at hx
    have hcs:=hz.set c (List.mem_of_getElem? hc)
    have hi2:(0:Int)≤i∧(i:Int)≤z.an.length:=by omega
    simp only [↓wR,RA,simprocAttr,TF,ae,h,hc]
    rw [ed];refine ⟨fun ⟨h1,e1⟩=>?_,fun ⟨h1,e1⟩=>?_⟩
    ·rw [if_pos e1] at hx
     simp only [↓wR,RA,simprocAttr,TF,ae,h1,gn,fy,fp]
     rw [hx]
    ·rw [if_neg (by omega)] at hx
     simp only [↓wR,RA,simprocAttr,TF,ae,h1,hcs,hz,hi2,El]
     refine ct (fun r st'=>r = .fc []∧st'=bb [some (.row [.vl false 1 (z.origin.map (ai.val false)),.vl false 5 (z.an.map (aj.val false))] 0 2 26),some (.row [.vl false 1 (z.origin.map (ai.val false)),.vl false 5 (z.an.map (aj.val false)),.sc (.int .i64 (cr ((jw z) i c) 265 e))] 0 2 61),some (.row [.sc (.bool (i5 z))] 0 2 4),some (.row [.vl false 1 (z.origin.map (ai.val false)),.vl false 5 (z.an.map (aj.val false))] 0 2 26),some (.row [.sc (.int .u16 2)] 0 2 37),some (.row [.vl false 1 (c.owner.map (ai.val false)),.sc (.int .u16 c.type.toNat),.sc (.int .u16 c.cls.toNat),.sc (.int .u32 c.b7.toNat),.vl false 4 (c.data.map (ak.val false))] 0 2 58)]) rfl ?_ ?_
     ·refine bm (T:=[dj,fv,ic,kb,ka,kc,jf,mr,qf,mo]) ok mixed Tryz.func22 rfl (by kernel_rfl) (by kernel_rfl) (by kernel_rfl) (by kernel_rfl) ?_;unfold Tryz.f22
      simp only [↓wR,RA,simprocAttr,TF,ae,e1]
      rw [dm];refine ⟨fun hn2=>?_,fun hn2=>?_⟩
      ·have hb:((jw z) i c)=false:=by simpa only [Bool.not_eq_true'] using hn2
       have hv:cr ((jw z) i c) 265 0=265:=by unfold cr;rw [if_pos ⟨rfl,hb⟩]
       simp only [↓wR,RA,simprocAttr,TF,ae,hn2,gn,fy,fp]
       try rw [hv]
      ·have hb:((jw z) i c)=true:=by simpa only [Bool.not_eq_false'] using hn2
       have hv:cr ((jw z) i c) 265 0=0:=by unfold cr;rw [if_neg (fun q=>by rw [hb] at q;cases q.2)]
       simp only [↓wR,RA,simprocAttr,TF,ae,hn2,gn,fy,fp]
       try rw [hv]
     rintro _ _ ⟨rfl,rfl⟩
     simp only [↓wR,RA,simprocAttr,TF,ae,cx];repeat (simp (disch:=omega) only [ah,bh,bf,bg,be];try simp only [↓wR,RA,simprocAttr,TF,ae,cx])
     exact ⟨(i+1,cr ((jw z) i c) 265 e),⟨hlt,hx⟩,by simp;omega,by (first|rfl|trivial|omega|((try (simp (disch:=omega) only [ah]));(try (simp only [FB]));first|done|rfl|omega)),by (first|rfl|trivial|omega|((try (simp (disch:=omega) only [ah]));(try (simp only [FB]));first|done|rfl|omega))⟩
   ·rw [jh (decide_eq_false h)] at hx
    simp only [↓wR,RA,simprocAttr,TF,ae,h,gn,fy,fp]
    rw [hx];rfl
  rintro _ _ ⟨rfl,rfl⟩
  rw [← he0]
  clear he0
  simp only [↓wR,RA,simprocAttr,TF,ae,cx]
  rw [show g8 265 (jw z) 0 z.an (F0 z)=Fy z from rfl]
  obtain ⟨e0,he0⟩:∃ e0,Fy z=e0:=⟨_,rfl⟩
  rw [he0]
  refine ct (fun r st'=>r = .fc []∧st'=bb [some (.row [.vl false 1 (z.origin.map (ai.val false)),.vl false 5 (z.an.map (aj.val false))] 0 2 26),some (.row [.vl false 1 (z.origin.map (ai.val false)),.vl false 5 (z.an.map (aj.val false)),.sc (.int .i64 (g8 266 (fun _ s=>mn s) 0 z.an e0))] 0 2 61),some (.row [.sc (.bool (i5 z))] 0 2 4),some (.row [.vl false 1 (z.origin.map (ai.val false)),.vl false 5 (z.an.map (aj.val false))] 0 2 26),some (.row [.sc (.int .u16 2)] 0 2 37)]) rfl ?_ ?_
  ·refine bm (T:=[dj,fv,ic,kb,ka,kc,jf,mr,qf,mo]) ok mixed Tryz.func16 rfl (by kernel_rfl) (by kernel_rfl) (by kernel_rfl) (by kernel_rfl) ?_;unfold Tryz.f16
   simp only [↓wR,RA,simprocAttr,TF,ae]
   refine c8 [0,1,2,12,13,14] (fun (x:Nat × Int)=>[.ptr 1 0,.sc (.int .i64 (266)),.sc (.func (.func 25) #[] #[]),.vl false 5 (z.an.map (aj.val false)),.sc (.int .i64 (z.an.length)),.sc (.int .i64 (x.1))]) (fun x=>[some (.row [.vl false 1 (z.origin.map (ai.val false)),.vl false 5 (z.an.map (aj.val false))] 0 2 26),some (.row [.vl false 1 (z.origin.map (ai.val false)),.vl false 5 (z.an.map (aj.val false)),.sc (.int .i64 (x.2))] 0 2 61),some (.row [.sc (.bool (i5 z))] 0 2 4),some (.row [.vl false 1 (z.origin.map (ai.val false)),.vl false 5 (z.an.map (aj.val false))] 0 2 26),some (.row [.sc (.int .u16 2)] 0 2 37)]) (fun x=>x.1≤z.an.length∧g8 266 (fun _ s=>mn s) 0 z.an e0=g8 266 (fun _ s=>mn s) x.1 (z.an.drop x.1) x.2) (fun x=>z.an.length - x.1) (0,e0) ⟨Nat.zero_le _,rfl⟩ (by simp only [↓wR,RA,simprocAttr,TF,ae]<;>rfl) (by simp only [↓wR,RA,simprocAttr,TF,ae]<;>rfl) ?_
   rintro ⟨i,e⟩ ⟨hi,hx⟩
   simp only at hi hx
   simp only [↓wR,RA,simprocAttr,TF,ae]
   rw [bj];refine ⟨fun h=>?_,fun h=>?_⟩
   ·obtain ⟨c,hc,hd1,hlt⟩:=gm (decide_eq_true h)
    rw [u9 hd1] at hx
    have hcs:=hz.set c (List.mem_of_getElem? hc)
    have hi2:(0:Int)≤i∧(i:Int)≤z.an.length:=by omega
    simp only [↓wR,RA,simprocAttr,TF,ae,h,hc]
    rw [ed];refine ⟨fun ⟨h1,e1⟩=>?_,fun ⟨h1,e1⟩=>?_⟩
    ·rw [if_pos e1] at hx
     simp only [↓wR,RA,simprocAttr,TF,ae,h1,gn,fy,fp]
     rw [hx]
    ·rw [if_neg (by omega)] at hx
     simp only [↓wR,RA,simprocAttr,TF,ae,h1,hcs,hz,hi2,Io]
     refine ct (fun r st'=>r = .fc []∧st'=bb [some (.row [.vl false 1 (z.origin.map (ai.val false)),.vl false 5 (z.an.map (aj.val false))] 0 2 26),some (.row [.vl false 1 (z.origin.map (ai.val false)),.vl false 5 (z.an.map (aj.val false)),.sc (.int .i64 (cr ((fun _ s=>mn s) i c) 266 e))] 0 2 61),some (.row [.sc (.bool (i5 z))] 0 2 4),some (.row [.vl false 1 (z.origin.map (ai.val false)),.vl false 5 (z.an.map (aj.val false))] 0 2 26),some (.row [.sc (.int .u16 2)] 0 2 37),some (.row [.vl false 1 (c.owner.map (ai.val false)),.sc (.int .u16 c.type.toNat),.sc (.int .u16 c.cls.toNat),.sc (.int .u32 c.b7.toNat),.vl false 4 (c.data.map (ak.val false))] 0 2 58)]) rfl ?_ ?_
     ·refine bm (T:=[dj,fv,ic,kb,ka,kc,jf,mr,qf,mo]) ok mixed Tryz.func22 rfl (by kernel_rfl) (by kernel_rfl) (by kernel_rfl) (by kernel_rfl) ?_;unfold Tryz.f22
      simp only [↓wR,RA,simprocAttr,TF,ae,e1]
      rw [dm];refine ⟨fun hn2=>?_,fun hn2=>?_⟩
      ·have hb:((fun _ s=>mn s) i c)=false:=by simpa only [Bool.not_eq_true'] using hn2
       have hv:cr ((fun _ s=>mn s) i c) 266 0=266:=by unfold cr;rw [if_pos ⟨rfl,hb⟩]
       simp only [↓wR,RA,simprocAttr,TF,ae,hn2,gn,fy,fp]
       try rw [hv]
      ·have hb:((fun _ s=>mn s) i c)=true:=by simpa only [Bool.not_eq_false'] using hn2
       have hv:cr ((fun _ s=>mn s) i c) 266 0=0:=by unfold cr;rw [if_neg (fun q=>by rw [hb] at q;cases q.2)]
       simp only [↓wR,RA,simprocAttr,TF,ae,hn2,gn,fy,fp]
       try rw [hv]
     rintro _ _ ⟨rfl,rfl⟩
     simp only [↓wR,RA,simprocAttr,TF,ae,cx];repeat (simp (disch:=omega) only [ah,bh,bf,bg,be];try simp only [↓wR,RA,simprocAttr,TF,ae,cx])
     exact ⟨(i+1,cr ((fun _ s=>mn s) i c) 266 e),⟨hlt,hx⟩,by simp;omega,by (first|rfl|trivial|omega|((try (simp (disch:=omega) only [ah]));(try (simp only [FB]));first|done|rfl|omega)),by (first|rfl|trivial|omega|((try (simp (disch:=omega) only [ah]));(try (simp only [FB]));first|done|rfl|omega))⟩
   ·rw [jh (decide_eq_false h)] at hx
    simp only [↓wR,RA,simprocAttr,TF,ae,h,gn,fy,fp]
    rw [hx];rfl
  rintro _ _ ⟨rfl,rfl⟩
  rw [← he0]
  clear he0
  simp only [↓wR,RA,simprocAttr,TF,ae,cx]
  rw [show g8 266 (fun _ s=>mn s) 0 z.an (Fy z)=M0 z from rfl]
  obtain ⟨e0,he0⟩:∃ e0,M0 z=e0:=⟨_,rfl⟩
  rw [he0]
  refine ct (fun r st'=>r = .fc []∧st'=bb [some (.row [.vl false 1 (z.origin.map (ai.val false)),.vl false 5 (z.an.map (aj.val false))] 0 2 26),some (.row [.vl false 1 (z.origin.map (ai.val false)),.vl false 5 (z.an.map (aj.val false)),.sc (.int .i64 (g8 267 (fun _ s=>ri z s) 0 z.an e0))] 0 2 61),some (.row [.sc (.bool (i5 z))] 0 2 4),some (.row [.vl false 1 (z.origin.map (ai.val false)),.vl false 5 (z.an.map (aj.val false))] 0 2 26),some (.row [.sc (.int .u16 2)] 0 2 37)]) rfl ?_ ?_
  ·refine bm (T:=[dj,fv,ic,kb,ka,kc,jf,mr,qf,mo]) ok mixed Tryz.func16 rfl (by kernel_rfl) (by kernel_rfl) (by kernel_rfl) (by kernel_rfl) ?_;unfold Tryz.f16
   simp only [↓wR,RA,simprocAttr,TF,ae]
   refine c8 [0,1,2,12,13,14] (fun (x:Nat × Int)=>[.ptr 1 0,.sc (.int .i64 (267)),.fn (.func 26) [] [.ptr 0 0],.vl false 5 (z.an.map (aj.val false)),.sc (.int .i64 (z.an.length)),.sc (.int .i64 (x.1))]) (fun x=>[some (.row [.vl false 1 (z.origin.map (ai.val false)),.vl false 5 (z.an.map (aj.val false))] 0 2 26),some (.row [.vl false 1 (z.origin.map (ai.val false)),.vl false 5 (z.an.map (aj.val false)),.sc (.int .i64 (x.2))] 0 2 61),some (.row [.sc (.bool (i5 z))] 0 2 4),some (.row [.vl false 1 (z.origin.map (ai.val false)),.vl false 5 (z.an.map (aj.val false))] 0 2 26),some (.row [.sc (.int .u16 2)] 0 2 37)]) (fun x=>x.1≤z.an.length∧g8 267 (fun _ s=>ri z s) 0 z.an e0=g8 267 (fun _ s=>ri z s) x.1 (z.an.drop x.1) x.2) (fun x=>z.an.length - x.1) (0,e0) ⟨Nat.zero_le _,rfl⟩ (by simp only [↓wR,RA,simprocAttr,TF,ae]<;>rfl) (by simp only [↓wR,RA,simprocAttr,TF,ae]<;>rfl) ?_
   rintro ⟨i,e⟩ ⟨hi,hx⟩
   simp only at hi hx
   simp only [↓wR,RA,simprocAttr,TF,ae]
   rw [bj];refine ⟨fun h=>?_,fun h=>?_⟩
   ·obtain ⟨c,hc,hd1,hlt⟩:=gm (decide_eq_true h)
    rw [u9 hd1] at hx
    have hcs:=hz.set c (List.mem_of_getElem? hc)
    have hi2:(0:Int)≤i∧(i:Int)≤z.an.length:=by omega
    simp only [↓wR,RA,simprocAttr,TF,ae,h,hc]
    rw [ed];refine ⟨fun ⟨h1,e1⟩=>?_,fun ⟨h1,e1⟩=>?_⟩
    ·rw [if_pos e1] at hx
     simp only [↓wR,RA,simprocAttr,TF,ae,h1,gn,fy,fp]
     rw [hx]
    ·rw [if_neg (by omega)] at hx
     simp only [↓wR,RA,simprocAttr,TF,ae,h1,hcs,hz,hi2,Ov]
     refine ct (fun r st'=>r = .fc []∧st'=bb [some (.row [.vl false 1 (z.origin.map (ai.val false)),.vl false 5 (z.an.map (aj.val false))] 0 2 26),some (.row [.vl false 1 (z.origin.map (ai.val false)),.vl false 5 (z.an.map (aj.val false)),.sc (.int .i64 (cr ((fun _ s=>ri z s) i c) 267 e))] 0 2 61),some (.row [.sc (.bool (i5 z))] 0 2 4),some (.row [.vl false 1 (z.origin.map (ai.val false)),.vl false 5 (z.an.map (aj.val false))] 0 2 26),some (.row [.sc (.int .u16 2)] 0 2 37),some (.row [.vl false 1 (c.owner.map (ai.val false)),.sc (.int .u16 c.type.toNat),.sc (.int .u16 c.cls.toNat),.sc (.int .u32 c.b7.toNat),.vl false 4 (c.data.map (ak.val false))] 0 2 58)]) rfl ?_ ?_
     ·refine bm (T:=[dj,fv,ic,kb,ka,kc,jf,mr,qf,mo]) ok mixed Tryz.func22 rfl (by kernel_rfl) (by kernel_rfl) (by kernel_rfl) (by kernel_rfl) ?_;unfold Tryz.f22
      simp only [↓wR,RA,simprocAttr,TF,ae,e1]
      rw [dm];refine ⟨fun hn2=>?_,fun hn2=>?_⟩
      ·have hb:((fun _ s=>ri z s) i c)=false:=by simpa only [Bool.not_eq_true'] using hn2
       have hv:cr ((fun _ s=>ri z s) i c) 267 0=267:=by unfold cr;rw [if_pos ⟨rfl,hb⟩]
       simp only [↓wR,RA,simprocAttr,TF,ae,hn2,gn,fy,fp]
       try rw [hv]
      ·have hb:((fun _ s=>ri z s) i c)=true:=by simpa only [Bool.not_eq_false'] using hn2
       have hv:cr ((fun _ s=>ri z s) i c) 267 0=0:=by unfold cr;rw [if_neg (fun q=>by rw [hb] at q;cases q.2)]
       simp only [↓wR,RA,simprocAttr,TF,ae,hn2,gn,fy,fp]
       try rw [hv]
     rintro _ _ ⟨rfl,rfl⟩
     simp only [↓wR,RA,simprocAttr,TF,ae,cx];repeat (simp (disch:=omega) only [ah,bh,bf,bg,be];try simp only [↓wR,RA,simprocAttr,TF,ae,cx])
     exact ⟨(i+1,cr ((fun _ s=>ri z s) i c) 267 e),⟨hlt,hx⟩,by simp;omega,by (first|rfl|trivial|omega|((try (simp (disch:=omega) only [ah]));(try (simp only [FB]));first|done|rfl|omega)),by (first|rfl|trivial|omega|((try (simp (disch:=omega) only [ah]));(try (simp only [FB]));first|done|rfl|omega))⟩
   ·rw [jh (decide_eq_false h)] at hx
    simp only [↓wR,RA,simprocAttr,TF,ae,h,gn,fy,fp]
    rw [hx];rfl
  rintro _ _ ⟨rfl,rfl⟩
  rw [← he0]
  clear he0
  simp only [↓wR,RA,simprocAttr,TF,ae,cx]
  rfl
 ·simp only [↓wR,RA,simprocAttr,TF,ae,hs1]
  have hbf:(decide ((iu z).1=1) && decide ((iu z).2=1))=false:=by rw [decide_eq_false (show ¬ (iu z).1=1 by omega),Bool.false_and]
  refine ct (fun r st'=>r = .fc []∧st'=bb [some (.row [.vl false 1 (z.origin.map (ai.val false)),.vl false 5 (z.an.map (aj.val false))] 0 2 26),some (.row [.vl false 1 (z.origin.map (ai.val false)),.vl false 5 (z.an.map (aj.val false)),.sc (.int .i64 (cr (decide ((iu z).1=1) && decide ((iu z).2=1)) 263 (tf z)))] 0 2 61)]) rfl ?_ ?_
  ·refine bm (T:=[dj,fv,ic,kb,ka,kc,jf,mr,qf,mo]) ok mixed Tryz.func22 rfl (by kernel_rfl) (by kernel_rfl) (by kernel_rfl) (by kernel_rfl) ?_;unfold Tryz.f22
   simp only [↓wR,RA,simprocAttr,TF,ae]
   rw [eb];refine ⟨fun ⟨hn1,en1⟩=>?_,fun ⟨hn1,en1⟩=>?_⟩
   ·have hv:cr (decide ((iu z).1=1) && decide ((iu z).2=1)) 263 (tf z)=263:=by unfold cr;rw [if_pos ⟨en1,hbf⟩]
    simp only [↓wR,RA,simprocAttr,TF,ae,hn1,gn,fy,fp]
    try rw [hv]
   ·have hv:cr (decide ((iu z).1=1) && decide ((iu z).2=1)) 263 (tf z)=tf z:=by unfold cr;rw [if_neg (fun q=>en1 q.1)]
    simp only [↓wR,RA,simprocAttr,TF,ae,hn1,gn,fy,fp]
    try rw [hv]
  rintro _ _ ⟨rfl,rfl⟩
  rw [show cr (decide ((iu z).1=1) && decide ((iu z).2=1)) 263 (tf z)=ow z from rfl]
  simp only [↓wR,RA,simprocAttr,TF,ae,cx]
  refine bm (T:=[]) (aq.nil PP) mixed Tryz.func23 rfl (by kernel_rfl) (by kernel_rfl) (by kernel_rfl) (by kernel_rfl) ?_;unfold Tryz.f23
  simp only [↓wR,RA,simprocAttr,TF,ae]
  refine ⟨[1,3,6,45],?_⟩
  have hib:wt PP 42=some (Tryz.f42.ntmps,Tryz.f42.body.getD .skip):=by kernel_rfl
  simp only [↓wR,RA,simprocAttr,TF,ae,hib]
  refine ⟨by kernel_rfl,fun l=>?_⟩
  unfold Tryz.f42
  simp only [↓wR,RA,simprocAttr,TF,ae]
  refine Gg [0,2,7,8,9] (fun (x:Nat × Bool)=>[.sc (.func (.yield l) #[] #[]),.ptr 4 0,.vl false 5 (z.an.map (aj.val false)),.sc (.int .i64 (z.an.length)),.sc (.int .i64 (x.1))]) (fun x=>[some (.row [.vl false 1 (z.origin.map (ai.val false)),.vl false 5 (z.an.map (aj.val false))] 0 2 26),some (.row [.vl false 1 (z.origin.map (ai.val false)),.vl false 5 (z.an.map (aj.val false)),.sc (.int .i64 (ow z))] 0 2 61),some (.row [.sc (.bool (x.2))] 0 2 4),some (.row [.vl false 1 (z.origin.map (ai.val false)),.vl false 5 (z.an.map (aj.val false))] 0 2 26),some (.row [.sc (.int .u16 2)] 0 2 37)]) (fun x=>x.1≤z.an.length∧i5 z=(x.2 || Jf z (z.an.drop x.1))) (fun x=>z.an.length - x.1) (0,false) ⟨Nat.zero_le _,by rw [Bool.false_or];rfl⟩ (by simp only [↓wR,RA,simprocAttr,TF,ae]<;>rfl) (by simp only [↓wR,RA,simprocAttr,TF,ae]<;>rfl) ?_
  rintro ⟨i,b⟩ ⟨hi,hx⟩
  simp only at hi hx
  simp only [↓wR,RA,simprocAttr,TF,ae]
  rw [yc];refine ⟨fun h=>?_,fun h=>?_⟩
  ·obtain ⟨c,hc,hd1,hlt⟩:=gm h
   have hcs:=hz.set c (List.mem_of_getElem? hc)
   rw [acm hd1] at hx
   simp only [↓wR,RA,simprocAttr,TF,ae,h,hc]
   rw [yc];refine ⟨fun h2=>?_,fun h2=>?_⟩
   ·have e2:(c.type.toNat:Int)=2:=by simpa using h2
    rw [decide_eq_true e2,Bool.true_and] at hx
    simp only [↓wR,RA,simprocAttr,TF,ae,h2]
    refine z8 [0,2,7,8,9,17,19] ?_
    simp only [↓wR,RA,simprocAttr,TF,ae,A1,po]
    cases b with
    |true=>
     simp only [↓wR,RA,simprocAttr,TF,ae];repeat (simp (disch:=omega) only [ah,bh,bf,bg,be];try simp only [↓wR,RA,simprocAttr,TF,ae])
     exact ⟨(i+1,true),⟨hlt,by rw [hx];rfl⟩,by simp;omega,by (first|rfl|trivial|omega|((try (simp (disch:=omega) only [ah]));(try (simp only [FB]));first|done|rfl|omega)),by (first|rfl|trivial|omega|((try (simp (disch:=omega) only [ah]));(try (simp only [FB]));first|done|rfl|omega))⟩
    |false=>
     simp only [↓wR,RA,simprocAttr,TF,ae,nw,hcs.owner,hz.origin];repeat (simp (disch:=omega) only [ah,bh,bf,bg,be];try simp only [↓wR,RA,simprocAttr,TF,ae,nw,hcs.owner,hz.origin])
     exact ⟨(i+1,jg c.owner z.origin),⟨hlt,by rw [hx,Bool.false_or]⟩,by simp;omega,by (first|rfl|trivial|omega|((try (simp (disch:=omega) only [ah]));(try (simp only [FB]));first|done|rfl|omega)),by (first|rfl|trivial|omega|((try (simp (disch:=omega) only [ah]));(try (simp only [FB]));first|done|rfl|omega))⟩
   ·have e2:¬ (c.type.toNat:Int)=2:=by simpa using h2
    rw [decide_eq_false e2,Bool.false_and,Bool.false_or] at hx
    simp only [↓wR,RA,simprocAttr,TF,ae,h2];repeat (simp (disch:=omega) only [ah,bh,bf,bg,be];try simp only [↓wR,RA,simprocAttr,TF,ae,h2])
    exact ⟨(i+1,b),⟨hlt,hx⟩,by simp;omega,by (first|rfl|trivial|omega|((try (simp (disch:=omega) only [ah]));(try (simp only [FB]));first|done|rfl|omega)),by (first|rfl|trivial|omega|((try (simp (disch:=omega) only [ah]));(try (simp only [FB]));first|done|rfl|omega))⟩
  rw [jh h] at hx
  have hb:b=i5 z:=by rw [hx];simp [Jf]
  simp only [↓wR,RA,simprocAttr,TF,ae,h]
  rw [hb]
  clear h hx hb
  refine ct (fun r st'=>r = .fc []∧st'=bb [some (.row [.vl false 1 (z.origin.map (ai.val false)),.vl false 5 (z.an.map (aj.val false))] 0 2 26),some (.row [.vl false 1 (z.origin.map (ai.val false)),.vl false 5 (z.an.map (aj.val false)),.sc (.int .i64 (cr (i5 z) 264 (ow z)))] 0 2 61),some (.row [.sc (.bool (i5 z))] 0 2 4),some (.row [.vl false 1 (z.origin.map (ai.val false)),.vl false 5 (z.an.map (aj.val false))] 0 2 26),some (.row [.sc (.int .u16 2)] 0 2 37)]) rfl ?_ ?_
  ·refine bm (T:=[dj,fv,ic,kb,ka,kc,jf,mr,qf,mo]) ok mixed Tryz.func22 rfl (by kernel_rfl) (by kernel_rfl) (by kernel_rfl) (by kernel_rfl) ?_;unfold Tryz.f22
   simp only [↓wR,RA,simprocAttr,TF,ae]
   rw [eb];refine ⟨fun ⟨hn1,en1⟩=>?_,fun ⟨hn1,en1⟩=>?_⟩
   ·simp only [↓wR,RA,simprocAttr,TF,ae,hn1]
    rw [dm];refine ⟨fun hn2=>?_,fun hn2=>?_⟩
    ·have hb:(i5 z)=false:=by simpa only [Bool.not_eq_true'] using hn2
     have hv:cr (i5 z) 264 (ow z)=264:=by unfold cr;rw [if_pos ⟨en1,hb⟩]
     simp only [↓wR,RA,simprocAttr,TF,ae,hn1,hn2,gn,fy,fp]
     try rw [hv]
    ·have hb:(i5 z)=true:=by simpa only [Bool.not_eq_false'] using hn2
     have hv:cr (i5 z) 264 (ow z)=ow z:=by unfold cr;rw [if_neg (fun q=>by rw [hb] at q;cases q.2)]
     simp only [↓wR,RA,simprocAttr,TF,ae,hn1,hn2,gn,fy,fp]
     try rw [hv]
   ·have hv:cr (i5 z) 264 (ow z)=ow z:=by unfold cr;rw [if_neg (fun q=>en1 q.1)]
    simp only [↓wR,RA,simprocAttr,TF,ae,hn1,gn,fy,fp]
    try rw [hv]
  rintro _ _ ⟨rfl,rfl⟩
  rw [show cr (i5 z) 264 (ow z)=F0 z from rfl]
  simp only [↓wR,RA,simprocAttr,TF,ae,cx]
  obtain ⟨e0,he0⟩:∃ e0,F0 z=e0:=⟨_,rfl⟩
  rw [he0]
  refine ct (fun r st'=>r = .fc []∧st'=bb [some (.row [.vl false 1 (z.origin.map (ai.val false)),.vl false 5 (z.an.map (aj.val false))] 0 2 26),some (.row [.vl false 1 (z.origin.map (ai.val false)),.vl false 5 (z.an.map (aj.val false)),.sc (.int .i64 (g8 265 (jw z) 0 z.an e0))] 0 2 61),some (.row [.sc (.bool (i5 z))] 0 2 4),some (.row [.vl false 1 (z.origin.map (ai.val false)),.vl false 5 (z.an.map (aj.val false))] 0 2 26),some (.row [.sc (.int .u16 2)] 0 2 37)]) rfl ?_ ?_
  ·refine bm (T:=[dj,fv,ic,kb,ka,kc,jf,mr,qf,mo]) ok mixed Tryz.func16 rfl (by kernel_rfl) (by kernel_rfl) (by kernel_rfl) (by kernel_rfl) ?_;unfold Tryz.f16
   simp only [↓wR,RA,simprocAttr,TF,ae]
   refine c8 [0,1,2,12,13,14] (fun (x:Nat × Int)=>[.ptr 1 0,.sc (.int .i64 (265)),.fn (.func 24) [.ptr 1 0] [],.vl false 5 (z.an.map (aj.val false)),.sc (.int .i64 (z.an.length)),.sc (.int .i64 (x.1))]) (fun x=>[some (.row [.vl false 1 (z.origin.map (ai.val false)),.vl false 5 (z.an.map (aj.val false))] 0 2 26),some (.row [.vl false 1 (z.origin.map (ai.val false)),.vl false 5 (z.an.map (aj.val false)),.sc (.int .i64 (x.2))] 0 2 61),some (.row [.sc (.bool (i5 z))] 0 2 4),some (.row [.vl false 1 (z.origin.map (ai.val false)),.vl false 5 (z.an.map (aj.val false))] 0 2 26),some (.row [.sc (.int .u16 2)] 0 2 37)]) (fun x=>x.1≤z.an.length∧g8 265 (jw z) 0 z.an e0=g8 265 (jw z) x.1 (z.an.drop x.1) x.2) (fun x=>z.an.length - x.1) (0,e0) ⟨Nat.zero_le _,rfl⟩ (by simp only [↓wR,RA,simprocAttr,TF,ae]<;>rfl) (by simp only [↓wR,RA,simprocAttr,TF,ae]<;>rfl) ?_
   rintro ⟨i,e⟩ ⟨hi,hx⟩
   simp only at hi hx
   simp only [↓wR,RA,simprocAttr,TF,ae]
   rw [bj];refine ⟨fun h=>?_,fun h=>?_⟩
   ·obtain ⟨c,hc,hd1,hlt⟩:=gm (decide_eq_true h)
    rw [u9 hd1] at hx
    have hcs:=hz.set c (List.mem_of_getElem? hc)
    have hi2:(0:Int)≤i∧(i:Int)≤z.an.length:=by omega
    simp only [↓wR,RA,simprocAttr,TF,ae,h,hc]
    rw [ed];refine ⟨fun ⟨h1,e1⟩=>?_,fun ⟨h1,e1⟩=>?_⟩
    ·rw [if_pos e1] at hx
     simp only [↓wR,RA,simprocAttr,TF,ae,h1,gn,fy,fp]
     rw [hx]
    ·rw [if_neg (by omega)] at hx
     simp only [↓wR,RA,simprocAttr,TF,ae,h1,hcs,hz,hi2,El]
     refine ct (fun r st'=>r = .fc []∧st'=bb [some (.row [.vl false 1 (z.origin.map (ai.val false)),.vl false 5 (z.an.map (aj.val false))] 0 2 26),some (.row [.vl false 1 (z.origin.map (ai.val false)),.vl false 5 (z.an.map (aj.val false)),.sc (.int .i64 (cr ((jw z) i c) 265 e))] 0 2 61),some (.row [.sc (.bool (i5 z))] 0 2 4),some (.row [.vl false 1 (z.origin.map (ai.val false)),.vl false 5 (z.an.map (aj.val false))] 0 2 26),some (.row [.sc (.int .u16 2)] 0 2 37),some (.row [.vl false 1 (c.owner.map (ai.val false)),.sc (.int .u16 c.type.toNat),.sc (.int .u16 c.cls.toNat),.sc (.int .u32 c.b7.toNat),.vl false 4 (c.data.map (ak.val false))] 0 2 58)]) rfl ?_ ?_
     ·refine bm (T:=[dj,fv,ic,kb,ka,kc,jf,mr,qf,mo]) ok mixed Tryz.func22 rfl (by kernel_rfl) (by kernel_rfl) (by kernel_rfl) (by kernel_rfl) ?_;unfold Tryz.f22
      simp only [↓wR,RA,simprocAttr,TF,ae,e1]
      rw [dm];refine ⟨fun hn2=>?_,fun hn2=>?_⟩
      ·have hb:((jw z) i c)=false:=by simpa only [Bool.not_eq_true'] using hn2
       have hv:cr ((jw z) i c) 265 0=265:=by unfold cr;rw [if_pos ⟨rfl,hb⟩]
       simp only [↓wR,RA,simprocAttr,TF,ae,hn2,gn,fy,fp]
       try rw [hv]
      ·have hb:((jw z) i c)=true:=by simpa only [Bool.not_eq_false'] using hn2
       have hv:cr ((jw z) i c) 265 0=0:=by unfold cr;rw [if_neg (fun q=>by rw [hb] at q;cases q.2)]
       simp only [↓wR,RA,simprocAttr,TF,ae,hn2,gn,fy,fp]
       try rw [hv]
     rintro _ _ ⟨rfl,rfl⟩
     simp only [↓wR,RA,simprocAttr,TF,ae,cx];repeat (simp (disch:=omega) only [ah,bh,bf,bg,be];try simp only [↓wR,RA,simprocAttr,TF,ae,cx])
     exact ⟨(i+1,cr ((jw z) i c) 265 e),⟨hlt,hx⟩,by simp;omega,by (first|rfl|trivial|omega|((try (simp (disch:=omega) only [ah]));(try (simp only [FB]));first|done|rfl|omega)),by (first|rfl|trivial|omega|((try (simp (disch:=omega) only [ah]));(try (simp only [FB]));first|done|rfl|omega))⟩
   ·rw [jh (decide_eq_false h)] at hx
    simp only [↓wR,RA,simprocAttr,TF,ae,h,gn,fy,fp]
    rw [hx];rfl
  rintro _ _ ⟨rfl,rfl⟩
  rw [← he0]
  clear he0
  simp only [↓wR,RA,simprocAttr,TF,ae,cx]
  rw [show g8 265 (jw z) 0 z.an (F0 z)=Fy z from rfl]
  obtain ⟨e0,he0⟩:∃ e0,Fy z=e0:=⟨_,rfl⟩
  rw [he0]
  refine ct (fun r st'=>r = .fc []∧st'=bb [some (.row [.vl false 1 (z.origin.map (ai.val false)),.vl false 5 (z.an.map (aj.val false))] 0 2 26),some (.row [.vl false 1 (z.origin.map (ai.val false)),.vl false 5 (z.an.map (aj.val false)),.sc (.int .i64 (g8 266 (fun _ s=>mn s) 0 z.an e0))] 0 2 61),some (.row [.sc (.bool (i5 z))] 0 2 4),some (.row [.vl false 1 (z.origin.map (ai.val false)),.vl false 5 (z.an.map (aj.val false))] 0 2 26),some (.row [.sc (.int .u16 2)] 0 2 37)]) rfl ?_ ?_
  ·refine bm (T:=[dj,fv,ic,kb,ka,kc,jf,mr,qf,mo]) ok mixed Tryz.func16 rfl (by kernel_rfl) (by kernel_rfl) (by kernel_rfl) (by kernel_rfl) ?_;unfold Tryz.f16
   simp only [↓wR,RA,simprocAttr,TF,ae]
   refine c8 [0,1,2,12,13,14] (fun (x:Nat × Int)=>[.ptr 1 0,.sc (.int .i64 (266)),.sc (.func (.func 25) #[] #[]),.vl false 5 (z.an.map (aj.val false)),.sc (.int .i64 (z.an.length)),.sc (.int .i64 (x.1))]) (fun x=>[some (.row [.vl false 1 (z.origin.map (ai.val false)),.vl false 5 (z.an.map (aj.val false))] 0 2 26),some (.row [.vl false 1 (z.origin.map (ai.val false)),.vl false 5 (z.an.map (aj.val false)),.sc (.int .i64 (x.2))] 0 2 61),some (.row [.sc (.bool (i5 z))] 0 2 4),some (.row [.vl false 1 (z.origin.map (ai.val false)),.vl false 5 (z.an.map (aj.val false))] 0 2 26),some (.row [.sc (.int .u16 2)] 0 2 37)]) (fun x=>x.1≤z.an.length∧g8 266 (fun _ s=>mn s) 0 z.an e0=g8 266 (fun _ s=>mn s) x.1 (z.an.drop x.1) x.2) (fun x=>z.an.length - x.1) (0,e0) ⟨Nat.zero_le _,rfl⟩ (by simp only [↓wR,RA,simprocAttr,TF,ae]<;>rfl) (by simp only [↓wR,RA,simprocAttr,TF,ae]<;>rfl) ?_
   rintro ⟨i,e⟩ ⟨hi,hx⟩
   simp only at hi hx
   simp only [↓wR,RA,simprocAttr,TF,ae]
   rw [bj];refine ⟨fun h=>?_,fun h=>?_⟩
   ·obtain ⟨c,hc,hd1,hlt⟩:=gm (decide_eq_true h)
    rw [u9 hd1] at hx
    have hcs:=hz.set c (List.mem_of_getElem? hc)
    have hi2:(0:Int)≤i∧(i:Int)≤z.an.length:=by omega
    simp only [↓wR,RA,simprocAttr,TF,ae,h,hc]
    rw [ed];refine ⟨fun ⟨h1,e1⟩=>?_,fun ⟨h1,e1⟩=>?_⟩
    ·rw [if_pos e1] at hx
     simp only [↓wR,RA,simprocAttr,TF,ae,h1,gn,fy,fp]
     rw [hx]
    ·rw [if_neg (by omega)] at hx
     simp only [↓wR,RA,simprocAttr,TF,ae,h1,hcs,hz,hi2,Io]
     refine ct (fun r st'=>r = .fc []∧st'=bb [some (.row [.vl false 1 (z.origin.map (ai.val false)),.vl false 5 (z.an.map (aj.val false))] 0 2 26),some (.row [.vl false 1 (z.origin.map (ai.val false)),.vl false 5 (z.an.map (aj.val false)),.sc (.int .i64 (cr ((fun _ s=>mn s) i c) 266 e))] 0 2 61),some (.row [.sc (.bool (i5 z))] 0 2 4),some (.row [.vl false 1 (z.origin.map (ai.val false)),.vl false 5 (z.an.map (aj.val false))] 0 2 26),some (.row [.sc (.int .u16 2)] 0 2 37),some (.row [.vl false 1 (c.owner.map (ai.val false)),.sc (.int .u16 c.type.toNat),.sc (.int .u16 c.cls.toNat),.sc (.int .u32 c.b7.toNat),.vl false 4 (c.data.map (ak.val false))] 0 2 58)]) rfl ?_ ?_
     ·refine bm (T:=[dj,fv,ic,kb,ka,kc,jf,mr,qf,mo]) ok mixed Tryz.func22 rfl (by kernel_rfl) (by kernel_rfl) (by kernel_rfl) (by kernel_rfl) ?_;unfold Tryz.f22
      simp only [↓wR,RA,simprocAttr,TF,ae,e1]
      rw [dm];refine ⟨fun hn2=>?_,fun hn2=>?_⟩
      ·have hb:((fun _ s=>mn s) i c)=false:=by simpa only [Bool.not_eq_true'] using hn2
       have hv:cr ((fun _ s=>mn s) i c) 266 0=266:=by unfold cr;rw [if_pos ⟨rfl,hb⟩]
       simp only [↓wR,RA,simprocAttr,TF,ae,hn2,gn,fy,fp]
       try rw [hv]
      ·have hb:((fun _ s=>mn s) i c)=true:=by simpa only [Bool.not_eq_false'] using hn2
       have hv:cr ((fun _ s=>mn s) i c) 266 0=0:=by unfold cr;rw [if_neg (fun q=>by rw [hb] at q;cases q.2)]
       simp only [↓wR,RA,simprocAttr,TF,ae,hn2,gn,fy,fp]
       try rw [hv]
     rintro _ _ ⟨rfl,rfl⟩
     simp only [↓wR,RA,simprocAttr,TF,ae,cx];repeat (simp (disch:=omega) only [ah,bh,bf,bg,be];try simp only [↓wR,RA,simprocAttr,TF,ae,cx])
     exact ⟨(i+1,cr ((fun _ s=>mn s) i c) 266 e),⟨hlt,hx⟩,by simp;omega,by (first|rfl|trivial|omega|((try (simp (disch:=omega) only [ah]));(try (simp only [FB]));first|done|rfl|omega)),by (first|rfl|trivial|omega|((try (simp (disch:=omega) only [ah]));(try (simp only [FB]));first|done|rfl|omega))⟩
   ·rw [jh (decide_eq_false h)] at hx
    simp only [↓wR,RA,simprocAttr,TF,ae,h,gn,fy,fp]
    rw [hx];rfl
  rintro _ _ ⟨rfl,rfl⟩
  rw [← he0]
  clear he0
  simp only [↓wR,RA,simprocAttr,TF,ae,cx]
  rw [show g8 266 (fun _ s=>mn s) 0 z.an (Fy z)=M0 z from rfl]
  obtain ⟨e0,he0⟩:∃ e0,M0 z=e0:=⟨_,rfl⟩
  rw [he0]
  refine ct (fun r st'=>r = .fc []∧st'=bb [some (.row [.vl false 1 (z.origin.map (ai.val false)),.vl false 5 (z.an.map (aj.val false))] 0 2 26),some (.row [.vl false 1 (z.origin.map (ai.val false)),.vl false 5 (z.an.map (aj.val false)),.sc (.int .i64 (g8 267 (fun _ s=>ri z s) 0 z.an e0))] 0 2 61),some (.row [.sc (.bool (i5 z))] 0 2 4),some (.row [.vl false 1 (z.origin.map (ai.val false)),.vl false 5 (z.an.map (aj.val false))] 0 2 26),some (.row [.sc (.int .u16 2)] 0 2 37)]) rfl ?_ ?_
  ·refine bm (T:=[dj,fv,ic,kb,ka,kc,jf,mr,qf,mo]) ok mixed Tryz.func16 rfl (by kernel_rfl) (by kernel_rfl) (by kernel_rfl) (by kernel_rfl) ?_;unfold Tryz.f16
   simp only [↓wR,RA,simprocAttr,TF,ae]
   refine c8 [0,1,2,12,13,14] (fun (x:Nat × Int)=>[.ptr 1 0,.sc (.int .i64 (267)),.fn (.func 26) [] [.ptr 0 0],.vl false 5 (z.an.map (aj.val false)),.sc (.int .i64 (z.an.length)),.sc (.int .i64 (x.1))]) (fun x=>[some (.row [.vl false 1 (z.origin.map (ai.val false)),.vl false 5 (z.an.map (aj.val false))] 0 2 26),some (.row [.vl false 1 (z.origin.map (ai.val false)),.vl false 5 (z.an.map (aj.val false)),.sc (.int .i64 (x.2))] 0 2 61),some (.row [.sc (.bool (i5 z))] 0 2 4),some (.row [.vl false 1 (z.origin.map (ai.val false)),.vl false 5 (z.an.map (aj.val false))] 0 2 26),some (.row [.sc (.int .u16 2)] 0 2 37)]) (fun x=>x.1≤z.an.length∧g8 267 (fun _ s=>ri z s) 0 z.an e0=g8 267 (fun _ s=>ri z s) x.1 (z.an.drop x.1) x.2) (fun x=>z.an.length - x.1) (0,e0) ⟨Nat.zero_le _,rfl⟩ (by simp only [↓wR,RA,simprocAttr,TF,ae]<;>rfl) (by simp only [↓wR,RA,simprocAttr,TF,ae]<;>rfl) ?_
   rintro ⟨i,e⟩ ⟨hi,hx⟩
   simp only at hi hx
   simp only [↓wR,RA,simprocAttr,TF,ae]
   rw [bj];refine ⟨fun h=>?_,fun h=>?_⟩
   ·obtain ⟨c,hc,hd1,hlt⟩:=gm (decide_eq_true h)
    rw [u9 hd1] at hx
    have hcs:=hz.set c (List.mem_of_getElem? hc)
    have hi2:(0:Int)≤i∧(i:Int)≤z.an.length:=by omega
    simp only [↓wR,RA,simprocAttr,TF,ae,h,hc]
    rw [ed];refine ⟨fun ⟨h1,e1⟩=>?_,fun ⟨h1,e1⟩=>?_⟩
    ·rw [if_pos e1] at hx
     simp only [↓wR,RA,simprocAttr,TF,ae,h1,gn,fy,fp]
     rw [hx]
    ·rw [if_neg (by omega)] at hx
     simp only [↓wR,RA,simprocAttr,TF,ae,h1,hcs,hz,hi2,Ov]
     refine ct (fun r st'=>r = .fc []∧st'=bb [some (.row [.vl false 1 (z.origin.map (ai.val false)),.vl false 5 (z.an.map (aj.val false))] 0 2 26),some (.row [.vl false 1 (z.origin.map (ai.val false)),.vl false 5 (z.an.map (aj.val false)),.sc (.int .i64 (cr ((fun _ s=>ri z s) i c) 267 e))] 0 2 61),some (.row [.sc (.bool (i5 z))] 0 2 4),some (.row [.vl false 1 (z.origin.map (ai.val false)),.vl false 5 (z.an.map (aj.val false))] 0 2 26),some (.row [.sc (.int .u16 2)] 0 2 37),some (.row [.vl false 1 (c.owner.map (ai.val false)),.sc (.int .u16 c.type.toNat),.sc (.int .u16 c.cls.toNat),.sc (.int .u32 c.b7.toNat),.vl false 4 (c.data.map (ak.val false))] 0 2 58)]) rfl ?_ ?_
     ·refine bm (T:=[dj,fv,ic,kb,ka,kc,jf,mr,qf,mo]) ok mixed Tryz.func22 rfl (by kernel_rfl) (by kernel_rfl) (by kernel_rfl) (by kernel_rfl) ?_;unfold Tryz.f22
      simp only [↓wR,RA,simprocAttr,TF,ae,e1]
      rw [dm];refine ⟨fun hn2=>?_,fun hn2=>?_⟩
      ·have hb:((fun _ s=>ri z s) i c)=false:=by simpa only [Bool.not_eq_true'] using hn2
       have hv:cr ((fun _ s=>ri z s) i c) 267 0=267:=by unfold cr;rw [if_pos ⟨rfl,hb⟩]
       simp only [↓wR,RA,simprocAttr,TF,ae,hn2,gn,fy,fp]
       try rw [hv]
      ·have hb:((fun _ s=>ri z s) i c)=true:=by simpa only [Bool.not_eq_false'] using hn2
       have hv:cr ((fun _ s=>ri z s) i c) 267 0=0:=by unfold cr;rw [if_neg (fun q=>by rw [hb] at q;cases q.2)]
       simp only [↓wR,RA,simprocAttr,TF,ae,hn2,gn,fy,fp]
       try rw [hv]
     rintro _ _ ⟨rfl,rfl⟩
     simp only [↓wR,RA,simprocAttr,TF,ae,cx];repeat (simp (disch:=omega) only [ah,bh,bf,bg,be];try simp only [↓wR,RA,simprocAttr,TF,ae,cx])
     exact ⟨(i+1,cr ((fun _ s=>ri z s) i c) 267 e),⟨hlt,hx⟩,by simp;omega,by (first|rfl|trivial|omega|((try (simp (disch:=omega) only [ah]));(try (simp only [FB]));first|done|rfl|omega)),by (first|rfl|trivial|omega|((try (simp (disch:=omega) only [ah]));(try (simp only [FB]));first|done|rfl|omega))⟩
   ·rw [jh (decide_eq_false h)] at hx
    simp only [↓wR,RA,simprocAttr,TF,ae,h,gn,fy,fp]
    rw [hx];rfl
  rintro _ _ ⟨rfl,rfl⟩
  rw [← he0]
  clear he0
  simp only [↓wR,RA,simprocAttr,TF,ae,cx]
  rfl
noncomputable def B2 (x:cw × Unit):Option AV:=if dw x.1 then some ((r1 (bc .i64)).E true (kf x.1)) else none
set_option maxRecDepth 2000000 in
theorem Hu (x:cw × Unit) (r:AV) (h:B2 x=some r):bu PP 6 ((aC eg a0).E x) r:=by
 by_cases hc:dw x.1
 case neg=>simp only [B2,if_neg hc] at h;cases h
 simp only [B2,if_pos hc] at h
 cases h
 exact bk (aq.cons (ar sh) (aq.cons (ar v5) (aq.cons (ar Dv) (aq.cons (ar Qc) (aq.cons (ar Qf) (aq.cons (ar Pv) (aq.cons (ar M8) (aq.cons (ar Tz) (aq.cons (ar Za) (aq.cons (ar Tu) (aq.nil PP))))))))))) Tryz.func6 (by kernel_rfl) (by kernel_rfl) (by kernel_rfl) (Nat.le_of_ble_eq_true (by kernel_rfl)) (r1 (bc .i64)) true (kf x.1) (adl x.1 hc)
noncomputable abbrev Ux:Nat × Bool × (List AV→M AV):=(6,true,dq (aC eg a0) B2)
def Xj (l:List aw):Bool:=l.all fun s=>!decide ((20:Int)<s.data.length)
def N4 (z:cw):Bool:=Xj z.an && decide ((z.an.length:Int)≤40)
theorem ay0 (z:cw) (hz:dw z):wl PP [] 0 (Tryz.f5.body.getD .skip) (du PP Tryz.f5.results.toList (fun r st=>(r1 bw).get true st.h r=some (N4 z))) (cg 0 [eg.val false z]) (bb []):=by
 have hl:=hz.len
 unfold Tryz.f5
 simp only [p0]
 simp only [↓wR,RA,simprocAttr,TF,ae]
 refine c8 [1,3] (fun (i:Nat)=>[.ptr 0 0,.sc (.int .i64 (i))]) (fun _=>[some (.row [.vl false 1 (z.origin.map (ai.val false)),.vl false 5 (z.an.map (aj.val false))] 0 2 26)]) (fun i=>i≤z.an.length∧Xj z.an=Xj (z.an.drop i)) (fun i=>z.an.length - i) 0 ⟨Nat.zero_le _,rfl⟩ (by simp only [↓wR,RA,simprocAttr,TF,ae]<;>rfl) (by simp only [↓wR,RA,simprocAttr,TF,ae]<;>rfl) ?_
 rintro i ⟨hi,hx⟩
 simp only [↓wR,RA,simprocAttr,TF,ae]
 rw [bj];refine ⟨fun h=>?_,fun h=>?_⟩
 ·obtain ⟨c,hc,hd1,hlt⟩:=gm (decide_eq_true h)
  have hx':Xj z.an=(!decide ((20:Int)<c.data.length) && Xj (z.an.drop (i+1))):=by rw [hx,hd1];rfl
  simp only [↓wR,RA,simprocAttr,TF,ae,h,hc];repeat (simp (disch:=omega) only [ah,bh,bf,bg,be];try simp only [↓wR,RA,simprocAttr,TF,ae,h,hc])
  rw [bj];refine ⟨fun h2=>?_,fun h2=>?_⟩
  ·rw [decide_eq_true h2,Bool.not_true,Bool.false_and] at hx'
   simp only [↓wR,RA,simprocAttr,TF,ae,h2];repeat (simp (disch:=omega) only [ah,bh,bf,bg,be];try simp only [↓wR,RA,simprocAttr,TF,ae,h2])
   rw [N4,hx'];rfl
  ·rw [decide_eq_false h2,Bool.not_false,Bool.true_and] at hx'
   simp only [↓wR,RA,simprocAttr,TF,ae,h2];repeat (simp (disch:=omega) only [ah,bh,bf,bg,be];try simp only [↓wR,RA,simprocAttr,TF,ae,h2])
   exact ⟨i+1,⟨hlt,hx'⟩,by omega,by (first|rfl|trivial|omega|((try (simp (disch:=omega) only [ah]));(try (simp only [FB]));first|done|rfl|omega))⟩
 ·rw [jh (decide_eq_false h)] at hx
  simp only [↓wR,RA,simprocAttr,TF,ae,h]
  rw [N4,hx];rfl
noncomputable def S1 (x:cw × Unit):Option AV:=if dw x.1 then some ((r1 bw).E true (N4 x.1)) else none
set_option maxRecDepth 2000000 in
theorem aoq (x:cw × Unit) (r:AV) (h:S1 x=some r):bu PP 5 ((aC eg a0).E x) r:=by
 by_cases hc:dw x.1
 case neg=>simp only [S1,if_neg hc] at h;cases h
 simp only [S1,if_pos hc] at h
 cases h
 exact bk (aq.nil PP) Tryz.func5 (by kernel_rfl) (by kernel_rfl) (by kernel_rfl) (Nat.le_of_ble_eq_true (by kernel_rfl)) (r1 bw) true (N4 x.1) (ay0 x.1 hc)
noncomputable abbrev axs:Nat × Bool × (List AV→M AV):=(5,true,dq (aC eg a0) S1)
noncomputable def abz (z:cw) (n:Name):Int:=if kf z≠0 then kf z else if cy n≠0 then cy n else if jm n z.origin=false then 2 else 0
def xa (z:cw):Name→Name
 | []=>[]
 |a::r=>if ak2 z (a::r)=true then a::r else xa z r
noncomputable def al4 (z:cw) (n:Name):abc × Int:=
 if abz z n≠0 then (mkP 0 [] [],abz z n)
 else match Am z n with
  |some c=>(mkP 4 c [],0)
  |none=>
   if 0<(atV z n).length then (mkP 1 n (xa z n),0)
   else if (xa z n).length=n.length then (mkP 2 [] (xa z n),0)
   else if ak2 z (akr::xa z n)=true then (mkP 3 (akr::xa z n) (xa z n),0)
   else (mkP 0 [] (xa z n),0)
end Go.Proofs.YtifjogffkafalaaGreat
end
section
namespace Go.Proofs.YtifjogffkafalaaGreat
open Go.Vm
theorem xo {err:Int} (he:err≠0) (p:Nat→aw→Bool):∀ (l:List aw) (i:Nat) (e:Int),g8 err p i l e=0→e=0∧∀ k s,l[k]? = some s→p (i+k) s=true:=by
 intro l
 induction l with
 |nil=>intro i e h;exact ⟨h,fun k s hs=>by simp at hs⟩
 |cons a l ih=>
  intro i e h
  rw [g8] at h
  split at h
  ·contradiction
  ·rename_i h0
   have h0:e=0:=by omega
   obtain ⟨h1,h2⟩:=ih (i+1) _ h
   refine ⟨h0,fun k s hs=>?_⟩
   cases k with
   |zero=>
    simp at hs
    subst hs
    cases hp:p i a with
    |true=>simp [hp]
    |false=>rw [cr,if_pos ⟨h0,hp⟩] at h1;exact (he h1).elim
   |succ k=>
    have:=h2 k s (by simpa using hs)
    rwa [show i+1+k=i+(k+1) from by omega] at this
theorem Tj {b:Bool} {err e:Int} (he:err≠0) (h:cr b err e=0):e=0∧b=true:=by
 unfold cr at h
 split at h
 ·exact (he h).elim
 ·rename_i hn
  refine ⟨h,?_⟩
  cases b with
  |true=>rfl
  |false=>exact (hn ⟨h,rfl⟩).elim
structure akt (z:cw):Prop where
 first:xd z=0
 auj:∀ k s,z.an[k]? = some s→kq z k s=true
 cls:∀ s ∈ z.an,rh s=true
 inside:∀ s ∈ z.an,jm s.owner z.origin=true
 aA4:(iu z).1=1∧(iu z).2=1
 aA5:i5 z=true
 alone:∀ k s,z.an[k]? = some s→jw z k s=true
 star:∀ s ∈ z.an,mn s=true
 occ:∀ s ∈ z.an,ri z s=true
theorem abf {z:cw} (h:kf z=0):akt z:=by
 unfold kf at h
 split at h
 ·contradiction
 rename_i h0
 obtain ⟨h7,p8⟩:=xo (by decide) _ _ _ _ h
 obtain ⟨h6,p7⟩:=xo (by decide) _ _ _ _ h7
 obtain ⟨h5,p6⟩:=xo (by decide) _ _ _ _ h6
 obtain ⟨h4,p5⟩:=Tj (by decide) h5
 obtain ⟨h3,p4⟩:=Tj (by decide) h4
 obtain ⟨h2,p3⟩:=xo (by decide) _ _ _ _ h3
 obtain ⟨h1,p2⟩:=xo (by decide) _ _ _ _ h2
 obtain ⟨_,p1⟩:=xo (by decide) _ _ _ _ h1
 have mem:∀ (p:aw→Bool),(∀ k s,z.an[k]? = some s→p s=true)→∀ s ∈ z.an,p s=true:=fun p hp s hs=>by
  obtain ⟨k,hk,rfl⟩:=List.getElem_of_mem hs
  exact hp k _ (List.getElem?_eq_getElem hk)
 simp only [Bool.and_eq_true,decide_eq_true_eq] at p4
 exact ⟨by omega,fun k s hs=>by simpa using p1 k s hs,mem _ p2,mem _ p3,p4,p5,fun k s hs=>by simpa using p6 k s hs,mem _ p7,mem _ p8⟩
theorem oe {a b:Name}:jg a b=true↔fw a=fw b:=by simp [jg]
end Go.Proofs.YtifjogffkafalaaGreat
end
section
namespace Go.Proofs.YtifjogffkafalaaGreat
open Go.Vm
set_option maxRecDepth 2000000
def y5 (l:List aw):Prop:=di lh l≤16777216
instance (l:List aw):Decidable (y5 l):=inferInstanceAs (Decidable (_≤_))
theorem y5.mem {l:List aw} (h:y5 l):∀ s ∈ l,de s:=fun s hs=>by
 have h1:lh s<di lh l:=z5 hs
 unfold y5 at h;unfold de;omega
theorem y5.len {l:List aw} (h:y5 l):l.length≤16777216:=Nat.le_trans (B3 lh l) h
theorem dw.an {z:cw} (h:dw z):y5 z.an:=by unfold dw N5 at h;unfold y5;omega
def Ds (l:List aw):Prop:=l.length≤281474976710656∧∀ s ∈ l,de s
instance (l:List aw):Decidable (Ds l):=inferInstanceAs (Decidable (_∧_))
theorem dw.mid {z:cw} (h:dw z):Ds z.an:=⟨Nat.le_trans h.an.len (by decide),h.an.mem⟩
def azl (n:Name) (t:UInt16) (s:aw):Bool:=decide ((s.type.toNat:Int)=t.toNat) && (decide ((s.cls.toNat:Int)=1) && jg s.owner n)
def aug (l:List aw) (n:Name) (t:UInt16):Option aw:=l.find? (azl n t)
def axd:aw:=ld [] 0 0 0 []
noncomputable def aqa (z:cw) (n:Name) (t:UInt16):abc × Int:=
 if (al4 z n).2=0∧((t.toNat:Int)=0∨(t.toNat:Int)=41) then (mkP 0 [] [],6) else al4 z n
theorem J7 {s:aw} (h:ng s=0):∀ d ∈ s.data,c7 s.type d=0:=by
 have key:∀ (l pre:List bn),g7 s.type pre l=0→∀ d ∈ l,c7 s.type d=0:=by
  intro l
  induction l with
  |nil=>intro pre _ d hd;cases hd
  |cons a l ih=>
   intro pre h d hd
   rw [g7] at h
   split at h
   ·contradiction
   split at h
   ·cases h
   rcases List.mem_cons.1 hd with rfl|hd
   ·omega
   ·exact ih _ h d hd
 unfold ng at h
 split at h
 ·contradiction
 split at h
 ·cases h
 split at h
 ·cases h
 exact key _ _ h
theorem sb {z:cw} (h:kf z=0):∀ s ∈ z.an,ng s=0:=by
 have hf:=(abf h).first
 unfold xd at hf
 split at hf
 ·contradiction
 have key:∀ (l:List aw) (e:Int),G7 l e=0→e=0∧∀ s ∈ l,ng s=0:=by
  intro l
  induction l with
  |nil=>intro e h;exact ⟨h,fun s hs=>by cases hs⟩
  |cons a l ih=>
   intro e h
   rw [G7] at h
   obtain ⟨h1,h2⟩:=ih _ h
   split at h1
   ·rename_i e0
    exact ⟨e0,fun s hs=>(List.mem_cons.1 hs).elim (fun q=>q ▸ h1) (h2 s)⟩
   ·rename_i e0;exact (e0 h1).elim
 exact (key _ _ hf).2
def aAf (n:Name) (s:aw):aw:=ld n s.type s.cls s.b7 s.data
end Go.Proofs.YtifjogffkafalaaGreat
end
namespace Go.Vm
def nf {α:Type} (lt : α → α→Bool) (x : α):List α→List α
 | []=>[x]
 |y::l=>bif lt x y then x::y::l else y::nf lt x l
def dg {α:Type} (lt : α → α→Bool):List α→List α:=List.foldl (fun acc x=>nf lt x acc) []
def dz {α:Type} (lt : α → α→Bool):List α→List α→List α
 | [],r=>r
 |x::l,[]=>x::l
 |x::l,y::r=>bif lt y x then y::dz lt (x::l) r else x::dz lt l (y::r)
termination_by l r=>l.length+r.length
structure vk {α:Type} (lt : α → α→Bool) (V : α→Prop):Prop where
 Ws:∀ x y,V x→V y→lt x y=true→lt y x=false
 trans:∀ x y z,V x→V y→V z→lt y x=false→lt z y=false→lt z x=false
def ir {α:Type} (lt : α → α→Bool) (l:List α):Prop:=l.Pairwise fun x y=>lt y x=false
theorem js {α:Type} {lt : α → α→Bool} (r:List α):dz lt [] r=r:=by rw [dz]
theorem jb {α:Type} {lt : α → α→Bool} (l:List α):dz lt l []=l:=by cases l<;>rw [dz]
theorem l0 {α:Type} {lt : α → α→Bool} (x y : α) (l r:List α):dz lt (x::l) (y::r)=bif lt y x then y::dz lt (x::l) r else x::dz lt l (y::r):=by rw [dz]
theorem ade {α:Type} {lt : α → α→Bool} {x z : α}:∀ {l:List α},z ∈ nf lt x l↔z=x∨z ∈ l
 | []=>by simp [nf]
 |y::l=>by
  rw [nf]
  cases lt x y with
  |true=>simp
  |false=>simp only [cond_false,List.mem_cons,ade (l:=l)];constructor<;>(rintro (h|h|h)<;>simp [h])
theorem Zm {α:Type} {lt : α → α→Bool} {x : α}:∀ {l:List α},(nf lt x l).Perm (x::l)
 | []=>.refl _
 |y::l=>by
  rw [nf]
  cases lt x y with
  |true=>exact .refl _
  |false=>exact (List.Perm.cons y (Zm (l:=l))).trans (List.Perm.swap x y l)
theorem Yw {α:Type} {lt : α → α→Bool}:dg lt []=[]:=rfl
theorem ye {α:Type} {lt : α → α→Bool} (l:List α) (x : α):dg lt (l++[x])=nf lt x (dg lt l):=by simp [dg,List.foldl_append]
theorem So {α:Type} {p:List α→Prop} (l:List α) (h0:p []) (h1:∀ l x,p l→p (l++[x])):p l:=by
 have key:∀ r:List α,p r.reverse:=fun r=>by
  induction r with
  |nil=>exact h0
  |cons a r ih=>rw [List.reverse_cons];exact h1 _ _ ih
 rw [← List.reverse_reverse l];exact key _
theorem xq {α:Type} {lt : α → α→Bool} (l:List α):(dg lt l).Perm l:=by
 refine So (p:=fun l=>(dg lt l).Perm l) l (.refl _) fun l x ih=>?_
 rw [ye]
 exact Zm.trans ((List.Perm.cons x ih).trans (List.perm_append_singleton x l).symm)
theorem gz {α:Type} {lt : α → α→Bool} {l:List α} {z : α}:z ∈ dg lt l↔z ∈ l:=(xq l).mem_iff
theorem ec {α:Type} {lt : α → α→Bool} (l:List α):(dg lt l).length=l.length:=(xq l).length_eq
theorem Hq {α:Type} {lt : α → α→Bool}:∀ (l r:List α),(dz lt l r).Perm (l++r)
 | [],r=>by rw [js];exact .refl _
 |x::l,[]=>by rw [jb,List.append_nil]
 |x::l,y::r=>by
  rw [l0]
  cases lt y x with
  |true=>exact (List.Perm.cons y (Hq (x::l) r)).trans (List.perm_middle (l₁:=x::l)).symm
  |false=>exact List.Perm.cons x (Hq l (y::r))
termination_by l r=>l.length+r.length
theorem S5 {α:Type} {lt : α → α→Bool} (l r:List α):(dz lt l r).length=l.length+r.length:=by rw [(Hq l r).length_eq,List.length_append]
theorem vk.le_of_lt {α:Type} {lt : α → α→Bool} {V : α→Prop} (O:vk lt V) {x y z : α} (hx:V x) (hy:V y) (hz:V z) (h:lt x y=true) (k:lt z y=false):lt z x=false:=O.trans x y z hx hy hz (O.Ws x y hx hy h) k
theorem V1 {α:Type} {lt : α → α→Bool} {V : α→Prop} (O:vk lt V) {x : α} (hx:V x):∀ {l:List α},(∀ y ∈ l,V y)→ir lt l→ir lt (nf lt x l)
 | [],_,_=>by simp [nf,ir]
 |y::l,hV,h=>by
  have h1:=List.pairwise_cons.1 h
  have hy:=hV y List.mem_cons_self
  have hl:∀ z ∈ l,V z:=fun z hz=>hV z (List.mem_cons_of_mem _ hz)
  rw [nf]
  cases e:lt x y with
  |true=>
   rw [cond_true]
   refine List.pairwise_cons.2 ⟨fun z hz=>?_,h⟩
   rcases List.mem_cons.1 hz with rfl|hz
   ·exact O.Ws _ _ hx hy e
   ·exact O.le_of_lt hx hy (hl z hz) e (h1.1 z hz)
  |false=>
   rw [cond_false]
   refine List.pairwise_cons.2 ⟨fun z hz=>?_,V1 O hx hl h1.2⟩
   rcases ade.1 hz with rfl|hz
   ·exact e
   ·exact h1.1 z hz
theorem l6 {α:Type} {lt : α → α→Bool} {V : α→Prop} (O:vk lt V) (l:List α) (hV:∀ y ∈ l,V y):ir lt (dg lt l):=by
 revert hV
 refine So (p:=fun l=>(∀ y ∈ l,V y)→ir lt (dg lt l)) l (fun _=>List.Pairwise.nil) fun l x ih hV=>?_
 rw [ye]
 exact V1 O (hV x (by simp)) (fun y hy=>hV y (by simp [gz.1 hy])) (ih fun y hy=>hV y (by simp [hy]))
theorem Hg {α:Type} {lt : α → α→Bool} {V : α→Prop} (O:vk lt V) {x : α} (hx:V x):∀ (a b:List α),(∀ y ∈ a,V y)→(∀ y ∈ b,V y)→dz lt a (nf lt x b)=nf lt x (dz lt a b)
 | [],b,_,_=>by rw [js,js]
 |a::s,[],ha,hb=>by
  have ih:=Hg O hx s [] (fun y hy=>ha y (List.mem_cons_of_mem _ hy)) hb
  rw [jb] at ih ⊢
  rw [nf,l0,nf]
  cases lt x a with
  |true=>rw [cond_true,cond_true,jb]
  |false=>rw [cond_false,cond_false];rw [nf] at ih;rw [ih]
 |a::s,b::r,ha,hb=>by
  have va:=ha a List.mem_cons_self
  have vb:=hb b List.mem_cons_self
  have ih1:=Hg O hx s (b::r) (fun y hy=>ha y (List.mem_cons_of_mem _ hy)) hb
  have ih2:=Hg O hx (a::s) r ha (fun y hy=>hb y (List.mem_cons_of_mem _ hy))
  rw [l0]
  rw [nf] at ih1 ⊢
  cases e1:lt x b with
  |true=>
   rw [e1,cond_true] at ih1
   rw [cond_true,l0]
   cases e2:lt b a with
   |true=>
    have e3:lt x a=true:=by
     cases e3:lt x a with
     |true=>rfl
     |false=>
      have:=O.trans a x b va hx vb e3 (O.Ws _ _ hx vb e1)
      rw [e2] at this;cases this
    rw [e3,cond_true,cond_true,nf,e1,cond_true,l0,e2,cond_true]
   |false=>
    rw [cond_false,nf]
    cases e3:lt x a with
    |true=>rw [cond_true,cond_true,l0,e2,cond_false]
    |false=>rw [cond_false,cond_false,ih1]
  |false=>
   rw [e1,cond_false] at ih1
   rw [cond_false,l0]
   cases e2:lt b a with
   |true=>rw [cond_true,cond_true,nf,e1,cond_false,ih2]
   |false=>
    have e3:=O.trans a b x va vb hx e2 e1
    rw [cond_false,cond_false,nf,e3,cond_false,ih1]
termination_by a b=>a.length+b.length
theorem D0 {α:Type} {lt : α → α→Bool} {V : α→Prop} (O:vk lt V) (a b:List α) (ha:∀ y ∈ a,V y) (hb:∀ y ∈ b,V y):dz lt (dg lt a) (dg lt b)=dg lt (a++b):=by
 revert hb
 refine So (p:=fun b=>(∀ y ∈ b,V y)→dz lt (dg lt a) (dg lt b)=dg lt (a++b)) b (fun _=>by rw [Yw,jb,List.append_nil]) fun b x ih hb=>?_
 rw [ye,← List.append_assoc,ye,Hg O (hb x (by simp)) _ _ (fun y hy=>ha y (gz.1 hy)) (fun y hy=>hb y (by simp [gz.1 hy])),ih fun y hy=>hb y (by simp [hy])]
theorem M1 {α:Type} {lt : α → α→Bool} {x : α}:∀ (A B:List α),(∀ y ∈ A,lt x y=false)→(∀ y ∈ B.head?,lt x y=true)→nf lt x (A++B)=A++x::B
 | [],[],_,_=>rfl
 | [],b::B,_,h=>by rw [List.nil_append,nf,h b rfl];rfl
 |a::A,B,h,h2=>by rw [List.cons_append,nf,h a List.mem_cons_self,cond_false,M1 A B (fun y hy=>h y (List.mem_cons_of_mem _ hy)) h2];rfl
theorem qa {α:Type} {lt : α → α→Bool}:∀ (A B C D:List α),(∀ x ∈ A,∀ y ∈ D,lt y x=false)→(∀ x ∈ B,∀ y ∈ C,lt y x=true)→dz lt (A++B) (C++D)=dz lt A C++dz lt B D
 | [],B,[],D,_,_=>by rw [js];rfl
 | [],[],c::C,D,_,_=>by rw [List.append_nil,js,js,js]
 | [],b::B,c::C,D,h1,h2=>by
  have ih:=qa [] (b::B) C D (by simp) (fun x hx y hy=>h2 x hx y (List.mem_cons_of_mem _ hy))
  rw [List.nil_append,List.cons_append,l0,h2 b List.mem_cons_self c List.mem_cons_self,cond_true,js]
  rw [List.nil_append,js] at ih
  rw [ih];rfl
 |a::A,B,[],[],_,_=>by rw [List.append_nil,jb,jb,jb]
 |a::A,B,[],d::D,h1,h2=>by
  have ih:=qa A B [] (d::D) (fun x hx=>h1 x (List.mem_cons_of_mem _ hx)) (by simp)
  rw [List.nil_append,jb] at ih ⊢
  rw [List.cons_append,l0,h1 a List.mem_cons_self d List.mem_cons_self,cond_false,ih];rfl
 |a::A,B,c::C,D,h1,h2=>by
  have ih1:=qa A B (c::C) D (fun x hx=>h1 x (List.mem_cons_of_mem _ hx)) h2
  have ih2:=qa (a::A) B C D h1 (fun x hx y hy=>h2 x hx y (List.mem_cons_of_mem _ hy))
  rw [List.cons_append,List.cons_append,l0,l0]
  cases lt c a with
  |true=>rw [cond_true,cond_true];rw [List.cons_append] at ih2;rw [ih2];rfl
  |false=>rw [cond_false,cond_false];rw [List.cons_append] at ih1;rw [ih1];rfl
termination_by A _ C _=>A.length+C.length
theorem Nx {α:Type} {lt : α → α→Bool} {V : α→Prop} (O:vk lt V) {A:List α} {x y : α} {D:List α} (hA:∀ z ∈ A++[x],V z) (hD:∀ z ∈ y::D,V z) (h1:ir lt (A++[x])) (h2:ir lt (y::D)) (h:lt y x=false):∀ a ∈ A++[x],∀ d ∈ y::D,lt d a=false:=by
 have k1:=List.pairwise_append.1 h1
 have k2:=List.pairwise_cons.1 h2
 intro a ha d hd
 have vx:=hA x (by simp)
 have vy:=hD y (by simp)
 have e1:lt y a=false:=by
  rcases List.mem_append.1 ha with q|q
  ·exact O.trans a x y (hA a ha) vx vy (k1.2.2 a q x (by simp)) h
  ·simp at q;subst q;exact h
 rcases List.mem_cons.1 hd with rfl|q
 ·exact e1
 ·exact O.trans a y d (hA a ha) vy (hD d hd) e1 (k2.1 d q)
theorem Jx {α:Type} {lt : α → α→Bool} {V : α→Prop} (O:vk lt V) {B:List α} {x y : α} {C:List α} (hB:∀ z ∈ x::B,V z) (hC:∀ z ∈ C++[y],V z) (h1:ir lt (x::B)) (h2:ir lt (C++[y])) (h:lt y x=true):∀ b ∈ x::B,∀ c ∈ C++[y],lt c b=true:=by
 have k1:=List.pairwise_cons.1 h1
 have k2:=List.pairwise_append.1 h2
 intro b hb c hc
 have vx:=hB x (by simp)
 have vy:=hC y (by simp)
 cases e:lt c b with
 |true=>rfl
 |false=>
  have e1:lt y b=false:=by
   rcases List.mem_append.1 hc with q|q
   ·exact O.trans b c y (hB b hb) (hC c hc) vy e (k2.2.2 c q y (by simp))
   ·simp at q;subst q;exact e
  have e2:lt y x=false:=by
   rcases List.mem_cons.1 hb with rfl|q
   ·exact e1
   ·exact O.trans x b y vx (hB b hb) vy (k1.1 b q) e1
  rw [h] at e2;cases e2
end Go.Vm
section
namespace Go.Proofs.YtifjogffkafalaaGreat
open Go.Vm
set_option maxRecDepth 2000000
theorem F7 {α:Type} (c:Bool) (x : α):(bif c then x else x)=x:=by cases c<;>rfl
theorem qz {α:Type} (X Y:List α) (p q : α):(X++p::Y).set X.length q=X++q::Y:=by
 rw [List.set_append];simp
theorem get_at {α:Type} (X Y:List α) (p : α):(X++p::Y)[X.length]? = some p:=by
 rw [List.getElem?_append_right (Nat.le_refl _),Nat.sub_self];rfl
theorem Rr {α:Type} (C:c9 α) {xs:List α} {i:Nat} {c : α} (hc:xs[i]? = some c):((cellsOf C true xs).drop (i * C.sz)).take C.sz=C.cells true c∧C.sz≤((cellsOf C true xs).drop (i * C.sz)).length:=by
 obtain ⟨hi,rfl⟩:=List.getElem?_eq_some_iff.1 hc
 rw [N6,List.drop_eq_getElem_cons hi,Ni]
 refine ⟨by rw [← C.len true xs[i],List.take_left],by rw [List.length_append,C.len];omega⟩
theorem Mz {α:Type} (C:c9 α) {xs:List α} {i:Nat} {c : α} (y : α) (k:Nat) (et:TypeId) (id:Nat) (hc:xs[i]? = some c) :
 jz id (i * C.sz) C.sz (C.cells true y) (.row (cellsOf C true xs) 0 k et)=(gh id (.row (cellsOf C true (xs.set i y)) 0 k et)).bind fun _=>.pure (.sc undef):=by
 obtain ⟨hi,rfl⟩:=List.getElem?_eq_some_iff.1 hc
 have hl:(cellsOf C true xs).length=xs.length * C.sz:=tn C true xs
 have h1:(cellsOf C true xs).take (i * C.sz)=cellsOf C true (xs.take i):=ab8 C true xs i
 have h3:(cellsOf C true xs).drop (i * C.sz+C.sz)=cellsOf C true (xs.drop (i+1)):=by
  rw [show i * C.sz+C.sz=(i+1) * C.sz by rw [Nat.succ_mul],N6]
 have hlt:i * C.sz+C.sz≤xs.length * C.sz:=by rw [← Nat.succ_mul];exact Nat.mul_le_mul_right _ hi
 have h4:(cellsOf C true xs).take (i * C.sz)++C.cells true y++(cellsOf C true xs).drop (i * C.sz+C.sz)=cellsOf C true (xs.set i y):=by
  rw [h1,h3,List.set_eq_take_append_cons_drop,if_pos hi,yp,Ni,List.append_assoc]
 have hone:(C.cells true y).all AV.one=true:=aoj C true y
 have hb:Nat.beq (C.cells true y).length C.sz=true:=by rw [C.len];exact Nat.beq_refl _
 unfold jz
 simp only [hl,Nat.ble_eq_true_of_le hlt,h4,hone,hb]
 rfl
theorem ml {xs:List aw} {i:Nat} {c:aw} (k st et) (hc:xs[i]? = some c):i9 PP 58 (i * 5) (.row (cellsOf aj true xs) k st et) = .pure (aj.val true c):=by
 have h:=Rr aj hc
 have h1:kj PP 58=some true:=by kernel_rfl
 have h2:dc PP 58=some 5:=by kernel_rfl
 have h3:((cellsOf aj true xs).drop (i * 5)).take 5=aj.cells true c:=h.1
 have h4:Nat.ble 5 ((cellsOf aj true xs).drop (i * 5)).length=true:=Nat.ble_eq_true_of_le h.2
 unfold i9 oz
 simp only [h1,h2,h3,h4,cond_true]
 rfl
theorem uv {xs:List aw} {i:Nat} {c:aw} (y:aw) (k:Nat) (et:TypeId) (id:Nat) (hc:xs[i]? = some c) :
 jz id (i * 5) 5 [.vl true 1 (y.owner.map (ai.val false)),.sc (.int .u16 y.type.toNat),.sc (.int .u16 y.cls.toNat),.sc (.int .u32 y.b7.toNat),.vl true 4 (y.data.map (ak.val true))] (.row (cellsOf aj true xs) 0 k et)=(gh id (.row (cellsOf aj true (xs.set i y)) 0 k et)).bind fun _=>.pure (.sc undef):=
 Mz aj y k et id hc
theorem kn {xs:List bn} {i:Nat} {c:bn} (k st et) (hc:xs[i]? = some c):i9 PP 44 (i * 4) (.row (cellsOf ak true xs) k st et) = .pure (ak.val true c):=by
 have h:=Rr ak hc
 have h1:kj PP 44=some true:=by kernel_rfl
 have h2:dc PP 44=some 4:=by kernel_rfl
 have h3:((cellsOf ak true xs).drop (i * 4)).take 4=ak.cells true c:=h.1
 have h4:Nat.ble 4 ((cellsOf ak true xs).drop (i * 4)).length=true:=Nat.ble_eq_true_of_le h.2
 unfold i9 oz
 simp only [h1,h2,h3,h4,cond_true]
 rfl
theorem tl {xs:List bn} {i:Nat} {c:bn} (y:bn) (k:Nat) (et:TypeId) (id:Nat) (hc:xs[i]? = some c) :
 jz id (i * 4) 4 [.vl true 1 (y.names.map (az.val true)),.vl true 1 (y.nums.map (db.val false)),.vl true 1 (y.texts.map (ai.val false)),.vl true 1 (y.raw.map (bp.val false))] (.row (cellsOf ak true xs) 0 k et)=(gh id (.row (cellsOf ak true (xs.set i y)) 0 k et)).bind fun _=>.pure (.sc undef):=
 Mz ak y k et id hc
theorem ee {P:Program} {f:Nat} {args:List AV} {st:St} {R0 R:AV→St→Prop} (h1:gp P f args st R0) (h2:∀ r st',R0 r st'→R r st'):gp P f args st R:=by
 intro g w vs hok hfr hrel
 rcases h1 g w vs hok hfr hrel with ⟨v,w',g',r,st',q1,q2,q3⟩|⟨q1,q2⟩
 ·exact .inl ⟨v,w',g',r,st',q1,h2 _ _ q2,q3⟩
 ·refine .inr ⟨q1,q2.mono ?_⟩
  rintro e w' ⟨v,g',r,st',rfl,q2,q3⟩
  exact ⟨v,g',r,st',rfl,h2 _ _ q2,q3⟩
end Go.Proofs.YtifjogffkafalaaGreat
end
namespace Go.Vm
noncomputable section
inductive Bp:ba→ba→Prop
 |rfl (x:ba):Bp x x
 |perm (es es':List (Value × AV)) (h:es.Perm es') (hl:loose es=true):Bp (.map es) (.map es')
theorem Bp.ghost {x y} (hs:Bp x y) (h:Bw y):Bw x:=by
 cases hs with
 |rfl=>exact h
 |perm es es' hp hl=>obtain ⟨s,e,he⟩:=h;cases he
theorem Bp.obj {g w b base x y} (hs:Bp x y) (h:mc g w b base y):mc g w b base x:=by
 cases hs with
 |rfl=>exact h
 |perm es es' hp hl=>
  obtain ⟨h0,ms,clock,h1,h2,h3,h4,l,h5,h6,h7⟩:=h
  refine ⟨h0,ms,clock,h1,by rw [h2,hp.length_eq],h3,h4,?_⟩
  have hlen:l.length=es'.length:=by rw [h5.length_eq,← h2];simp
  have key:∀ (k k':List (Value × AV)),k.Perm k'→∀ l':List MapEntry,l'.length=k'.length→(∀ (i:Nat) e m,k'[i]? = some e→l'[i]? = some m→m.key=e.1∧Rel g w e.2 m.val) →
   ∃ l:List MapEntry,l.Perm l'∧l.length=k.length∧(∀ (i:Nat) e m,k[i]? = some e→l[i]? = some m→m.key=e.1∧Rel g w e.2 m.val):=by
   intro k k' hp
   induction hp with
   |nil=>intro l' hl' hr;exact ⟨l',.refl _,hl',hr⟩
   |cons a _ ih=>
    intro l' hl' hr
    cases l' with
    |nil=>simp at hl'
    |cons m l'=>
     obtain ⟨l,q1,q2,q3⟩:=ih l' (by simpa using hl') (fun i e m' he hm=>hr (i+1) e m' (by simpa using he) (by simpa using hm))
     refine ⟨m::l,q1.cons m,by simp [q2],fun i e m' he hm=>?_⟩
     cases i with
     |zero=>exact hr 0 e m' (by simpa using he) (by simpa using hm)
     |succ i=>exact q3 i e m' (by simpa using he) (by simpa using hm)
   |swap a b k=>
    intro l' hl' hr
    match l',hl' with
    |m::n::l',hl'=>
     refine ⟨n::m::l',List.Perm.swap _ _ _,by simpa using hl',fun i e m' he hm=>?_⟩
     match i with
     |0=>exact hr 1 e m' (by simpa using he) (by simpa using hm)
     |1=>exact hr 0 e m' (by simpa using he) (by simpa using hm)
     |i+2=>exact hr (i+2) e m' (by simpa using he) (by simpa using hm)
   |trans _ _ ih1 ih2=>
    intro l' hl' hr
    obtain ⟨l2,q1,q2,q3⟩:=ih2 l' hl' hr
    obtain ⟨l1,p1,p2,p3⟩:=ih1 l2 q2 q3
    exact ⟨l1,p1.trans q1,p2,p3⟩
  obtain ⟨l2,q1,_,q3⟩:=key es es' hp l hlen h6
  exact ⟨l2,q1.trans h5,q3,.inr hl⟩
theorem Ok.abg {g h h' w} (hok:Ok g h' w) (hs:∀ o x,h.get o=some x→∃ y,h'.get o=some y∧Bp x y):Ok g h w:=by
 refine ⟨hok.size,fun o x hx=>?_,fun o o' x x' b base base' hne hx hx'=>?_,hok.K⟩
 ·obtain ⟨y,h1,h2⟩:=hs o x hx
  refine (hok.mb o y h1).imp (fun q=>⟨q.1,h2.ghost q.2⟩) ?_
  rintro ⟨b,base,q1,q2,q3⟩
  exact ⟨b,base,q1,q2,h2.obj q3⟩
 ·obtain ⟨y,h1,_⟩:=hs o x hx
  obtain ⟨y',h1',_⟩:=hs o' x' hx'
  exact hok.sep o o' y y' b base base' hne h1 h1'
theorem aal {h h':Tr ba} (hs:∀ o x,h.get o=some x→∃ y,h'.get o=some y∧Bp x y) {o:Nat} (ho:(h.get o).isSome=true):(h'.get o).isSome=true:=by
 obtain ⟨x,hx⟩:=Option.isSome_iff_exists.1 ho
 obtain ⟨y,h1,_⟩:=hs o x hx
 rw [h1];rfl
structure Lit where
 i:Nat
 d:TypeDesc
 e:Value × AV
def rm (lits:List Lit) (D:Nat→Bool):List (Value × AV):=(lits.filter fun q=>D q.i).map (·.e)
structure agf (lits:List Lit):Prop where
 idx:(lits.map (·.i)).Nodup
 apart:∀ q ∈ lits,∀ r ∈ lits,q.i≠r.i→pj q.e.1 r.e.1=true∧Instr.sameNow q.d q.e.1 r.e.1=some false
theorem ac9 {lits:List Lit} {D:Nat→Bool} {e:Value × AV} (h:e ∈ rm lits D):∃ q ∈ lits,D q.i=true∧q.e=e:=by
 simp only [rm,List.mem_map,List.mem_filter] at h
 obtain ⟨q,⟨h1,h2⟩,h3⟩:=h
 exact ⟨q,h1,h2,h3⟩
theorem Qy {D:Nat→Bool}:∀ {lits:List Lit},agf lits→so (rm lits D)=true
 | [],_=>rfl
 |q::l,h=>by
  have hl:agf l:=⟨by have:=h.idx;rw [List.map_cons,List.nodup_cons] at this;exact this.2,fun a ha b hb=>h.apart a (by simp [ha]) b (by simp [hb])⟩
  have ih:=Qy (D:=D) hl
  unfold rm at ih ⊢
  rw [List.filter_cons]
  split
  ·simp only [List.map_cons,so,Bool.and_eq_true,List.all_eq_true]
   refine ⟨fun x hx=>?_,ih⟩
   obtain ⟨r,h1,_,rfl⟩:=ac9 (D:=D) hx
   refine (h.apart q (by simp) r (by simp [h1]) (fun e=>?_)).1
   have:=h.idx
   rw [List.map_cons,List.nodup_cons] at this
   exact this.1 (by rw [e];exact List.mem_map_of_mem h1)
  ·exact ih
theorem ar1 {lits:List Lit} (h:(lits.map (·.i)).Nodup) {D:Nat→Bool} {q:Lit} (hq:q ∈ lits) (hD:D q.i=false):(rm lits (ko D q.i)).Perm (rm lits D++[q.e]):=by
 induction lits with
 |nil=>cases hq
 |cons a l ih=>
  rw [List.map_cons,List.nodup_cons] at h
  unfold rm at ih ⊢
  rcases List.mem_cons.1 hq with rfl|hq
  ·rw [List.filter_cons_of_pos (by simp [ko]),List.filter_cons_of_neg (by simp [hD])]
   have:l.filter (fun r=>ko D q.i r.i)=l.filter (fun r=>D r.i):=by
    refine List.filter_congr fun r hr=>?_
    have:r.i≠q.i:=fun e=>h.1 (by rw [← e];exact List.mem_map_of_mem hr)
    simp [ko,this]
   rw [this,List.map_cons]
   exact (List.perm_append_singleton _ _).symm
  ·have hne:a.i≠q.i:=fun e=>h.1 (by rw [e];exact List.mem_map_of_mem hq)
   have hu:ko D q.i a.i=D a.i:=by simp [ko,hne]
   cases hb:D a.i with
   |true=>
    rw [List.filter_cons_of_pos (by rw [hu,hb]),List.filter_cons_of_pos (by rw [hb])]
    exact (ih h.2 hq).cons _
   |false=>
    rw [List.filter_cons_of_neg (by rw [hu,hb];simp),List.filter_cons_of_neg (by rw [hb];simp)]
    exact ih h.2 hq
theorem ams {lits:List Lit} {D:Nat→Bool} {i:Nat} (h:∀ q ∈ lits,q.i≠i):rm lits (ko D i)=rm lits D:=by
 unfold rm
 congr 1
 exact List.filter_congr fun q hq=>by simp [ko,h q hq]
theorem aqd {lits:List Lit} {D:Nat→Bool} (h:∀ q ∈ lits,D q.i=false):rm lits D=[]:=by
 unfold rm
 rw [List.filter_eq_nil_iff.2 (fun q hq=>by simp [h q hq])]
 rfl
theorem atj {lits:List Lit} {D:Nat→Bool} (h:∀ q ∈ lits,D q.i=true):rm lits D=lits.map (·.e):=by
 unfold rm
 rw [List.filter_eq_self.2 (fun q hq=>h q hq)]
theorem Nk (d:TypeDesc) (k:Value):∀ (l:List MapEntry) (i:Nat),(∀ m ∈ l,Instr.sameNow d k m.key=some false)→Instr.findNow d k l i=some none
 | [],_,_=>rfl
 |m::l,i,h=>by
  rw [Instr.findNow,h m (by simp)]
  exact Nk d k l (i+1) (fun m hm=>h m (by simp [hm]))
theorem akh {P:Program} {kt:TypeId} {d:TypeDesc} {k:Value} {es:List (Value × AV)} (hu:P.underlying kt=some d) (h:∀ e ∈ es,Instr.sameNow d k e.1=some false):rj P kt k es=some none:=by
 have hf:Instr.findNow d k (qb es) 0=some none:=Nk d k _ 0 (fun m hm=>by
  simp only [qb,List.mem_map] at hm
  obtain ⟨e,he,rfl⟩:=hm
  exact h e he)
 have hn:T8 P kt k es=true:=by unfold T8;rw [hu];simp only;rw [hf];rfl
 unfold rj
 rw [hn,Bool.or_true,cond_true]
 have hevu:ev P (underlying kt)=some d:=by
  simp [underlying,program,ev,hu,lr,xu,Sem.bind,bind]
 have:ev P (Instr.findKey kt k (qb es))=some none:=by
  unfold Instr.findKey
  rw [lr,hevu]
  simp only [Option.bind_some]
  rw [hf];rfl
 rw [this];rfl
theorem Step.abg {g h w lo hi g' h' h'' w'} (s:Step g h w lo hi g' h' w') (hs:∀ o x,h''.get o=some x→∃ y,h'.get o=some y∧Bp x y):Step g h w lo hi g' h'' w':=
 ⟨s.ext,s.size,s.os,s.tape,s.output,s.frame,s.fresh,fun o b base ho hi=>s.own o b base (aal hs ho) hi,s.k8⟩
def u7 (o:Oper):Bool:=match o.op with|.insert .. => true|_=>false
def wu (ops:Array Oper) (L:SL) (o:Oper):Option Bool:=bif u7 o then some false else zi ops L o
def alw (P:Program) (T:er) (ops:Array Oper) (E:List Rec→Prop):List Oper→(SL→St→Prop)→List Rec→SL→St→Prop
 | [],K=>fun recs L st=>E recs∧K L st
 |o::r,K=>fun recs L st=>(wu ops L o=some true∧Ty P T o recs (alw P T ops E r K) L st)∨(wu ops L o=some false∧alw P T ops E r K (recs++[⟨[],[]⟩]) (iy o.dst (.sc undef) L) st)
theorem atp {P:Program} {T:er} {ops:Array Oper} {E:List Rec→Prop} {K:SL→St→Prop}:∀ (l:List Oper) (L:SL) (st:St) (recs:List Rec),alw P T ops E l K recs L st →
 ∃ ds L' st',ds.map (·.o)=l∧(∀ d ∈ ds,DSRun P T d∧wu ops d.L d.o=some d.want)∧On ds L st L' st'∧E (recs++ds.map fun d=>⟨d.R,d.W⟩)∧K L' st':=by
 intro l
 induction l with
 |nil=>intro L st recs h;exact ⟨[],L,st,rfl,by simp,⟨rfl,rfl⟩,by simpa using h.1,h.2⟩
 |cons o l ih=>
  intro L st recs h
  rcases h with ⟨hb,F,W,v,bd,hop,h4,h5,h6,h7,h8⟩|⟨hb,h3⟩
  ·obtain ⟨ds,L',st',e1,e2,e3,e4,e5⟩:=ih _ _ _ h8
   have hle:=zo hop
   refine ⟨{ o,L,st,want:=true,v,bd,R:=F,W:=W++dh st.nx (bd.nx - st.nx) }::ds,L',st',by simp [e1],?_,⟨rfl,rfl,?_⟩,?_,e5⟩
   ·intro d hd
    rcases List.mem_cons.1 hd with rfl|hd
    ·refine ⟨⟨fun _=>⟨hop,h6,h7,fun q=>?_,fun q hq hn=>?_⟩,fun e=>by cases e⟩,hb⟩
     ·simp only [List.mem_append,je]
      constructor
      ·rintro (hq|hq)
       ·exact .inl ⟨.inl hq,h4 q hq⟩
       ·exact .inr ⟨hq.1,by simp at hle;omega⟩
      ·rintro (hq|hq)
       ·exact hq.1
       ·exact .inr ⟨hq.1,by omega⟩
     ·have:=h5 q hq (fun hw=>hn (List.mem_append.2 (.inl hw)))
      rw [r9 _ _ _ (fun p hp=>by have:=h6 p hp;simp at hle;omega),if_pos hq] at this
      exact this
    ·exact e2 d hd
   ·exact e3
   ·simpa [List.append_assoc] using e4
  ·obtain ⟨ds,L',st',e1,e2,e3,e4,e5⟩:=ih _ _ _ h3
   refine ⟨{ o,L,st,want:=false,v:=.sc undef,bd:=st,R:=[],W:=[] }::ds,L',st',by simp [e1],?_,⟨rfl,rfl,?_⟩,?_,e5⟩
   ·intro d hd
    rcases List.mem_cons.1 hd with rfl|hd
    ·exact ⟨⟨(fun e=>by cases e),fun _=>⟨rfl,rfl,rfl,rfl⟩⟩,hb⟩
    ·exact e2 d hd
   ·exact e3
   ·simpa [List.append_assoc] using e4
theorem at1 {P:Program} {T:er} {ops:Array Oper} {ds:List DS} {L:SL} {st:St} {L':SL} {st':St} (hs:oc ops=true) (e1:ds.map (·.o)=ops.toList) (e2:∀ d ∈ ds,DSRun P T d) (e3:On ds L st L' st'):u5 P T ops ds L st L' st':=by
 obtain ⟨c1,c2,c3,c4⟩:=afa e2 e3
 unfold oc at hs
 rw [Bool.and_eq_true] at hs
 refine ⟨e1,e2,c1,⟨c2,c3,c4⟩,fun i k x y t hik hx hy ht hdt=>?_,fun i o ho e he hb=>?_⟩
 ·have hxi:(x.o,i) ∈ ops.toList.zipIdx:=by
   rw [List.mem_zipIdx_iff_getElem?,← e1];simp [hx]
  have hyk:(y.o,k) ∈ ops.toList.zipIdx:=by
   rw [List.mem_zipIdx_iff_getElem?,← e1];simp [hy]
  have h1:=List.all_eq_true.1 hs.1 _ hxi
  have h2:=List.all_eq_true.1 h1 t ht
  have h3:=List.all_eq_true.1 h2 _ hyk
  simp only [hdt,Bool.or_eq_true] at h3
  rcases h3 with (h3|h3)|h3
  ·simp at h3
  ·simp at h3;omega
  ·rw [Nat.max_comm,Nat.min_comm];exact h3
 ·have hoi:(o,i) ∈ ops.toList.zipIdx:=by rw [List.mem_zipIdx_iff_getElem?];simpa using ho
  have h1:=List.all_eq_true.1 hs.2 _ hoi
  rw [Array.all_eq_true_iff_forall_mem] at h1
  have:=h1 e he
  rw [hb] at this
  simpa using this
theorem av8 {ops:Array Oper} {ds:List DS} (e4:c0 (Region.before ops) 0 (ds.map fun d=>⟨d.R,d.W⟩)=true):Calm ops ds:=fun i k x y hik hx hy=>by
 have:=H0 _ 0 e4 i k ⟨x.R,x.W⟩ ⟨y.R,y.W⟩ hik (by simp [hx]) (by simp [hy])
 simp only [w6,Nat.zero_add,Bool.or_eq_true,Bool.and_eq_true] at this
 rcases this with h1|h1
 ·exact .inr ⟨h1.1.1,h1.1.2,h1.2⟩
 ·exact .inl h1
end
end Go.Vm
namespace Go.Vm
noncomputable section
theorem At.ins {H:(Nat→Bool)→Nat→Option ba} {P:Program} {T:er} (hT:pn P T) {ops:Array Oper} {ds:List DS} {L0:SL} {g0:Gh} {st0:St} {w0:World} {df:List Deferred} {ro:Option Nat} {N:Nat} {nt:Nat} {L':SL} {st':St} (R:u5 P T ops ds L0 st0 L' st')
 {D:Nat→Bool} {a:Act} {w:World} {i:Nat} {d:DS} (hi:ds[i]? = some d) (hD:D i=false) (hr:∀ e ∈ d.o.after,Region.binds .any e=true→D e.on=true) (A:At H ops ds L0 g0 st0 w0 df nt (jx ds st0.nx ds.length) D a w)
 {t:TypeId} {m k x:Operand} (hop:d.o.op = .insert t m k x) (hdst:d.o.dst=none) (hgd:d.o.guard=none) {p:Nat} {kt et:TypeId} {key:Value} (hu:P.underlying t=some (.map kt et)) (hm:b9 d.o d.L m = .mp p) (hkey:(b9 d.o d.L k).gw=some key)
 (hck:ev P (Instr.checkKey false 10000 kt key)=some ()) {es:List (Value × AV)} (hes:H D p=some (.map es)) (hlim:p≤br) (hplt:p<jx ds st0.nx ds.length) (hfind:rj P kt key es=some none) (hst:stays es (es++[(key,b9 d.o d.L x)])=true)
 {es':List (Value × AV)} (hes':H (ko D i) p=some (.map es')) (hsame:Bp (.map es') (.map (es++[(key,b9 d.o d.L x)]))) (hoth:∀ o,o≠p→H (ko D i) o=H D o)
 {Q:Exit→Act→World→Prop} {K:Act→World→Prop} (hK:∀ a' w',At H ops ds L0 g0 st0 w0 df nt (jx ds st0.nx ds.length) (ko D i) a' w'→K a' w'):wpOpIn (fm ro) N P ops Q i K a w:=by
 have ho:=R.get hi
 have hbef:=xk A.closed ho hr
 have hcl:=A.closed.ko ho hr
 obtain ⟨a1,a2,a3,a4⟩:=R.vq i d hi
 obtain ⟨g,h,h1,h2,h3,h4,h5⟩:=A.mem
 have slot:∀ t ∈ vp ops d.o,k9 ds L0 D ds.length t=lk d.L t:=by
  intro t ht
  have hlt:i<ds.length:=(List.getElem?_eq_some_iff.1 hi).1
  have:=Mx (L0:=L0) (D:=D) (i:=i) (t:=t) (ds:=ds) (fun k e hk he=>?_) ds.length
  ·rw [this,a1 t];congr 1;omega
  ·rcases Nat.lt_trichotomy k i with hlt'|rfl|hgt
   ·have:=R.slots i k d e t (by omega) hi hk ht he
    rw [show max i k=i from by omega,show min i k=k from by omega] at this
    exact ⟨fun _=>hlt',fun _=>hbef k this⟩
   ·exact ⟨(fun q=>by rw [hD] at q;cases q),(fun q=>by omega)⟩
   ·have:=R.slots i k d e t (by omega) hi hk ht he
    rw [show max i k=k from by omega,show min i k=i from by omega] at this
    exact ⟨(fun q=>by have:=A.closed k i q this;rw [hD] at this;cases this),(fun q=>by omega)⟩
 have mono1:∀ i d,ds[i]? = some d→d.st.nx=jx ds st0.nx i∧d.st.nx≤d.bd.nx:=fun i d hd=>⟨(R.vq i d hd).2.2.1,(R.vq i d hd).2.2.2⟩
 have hp:∀ q ∈ [p],q≤br:=fun q hq=>by rw [List.mem_singleton] at hq;subst hq;exact hlim
 have hmask:∀ o,(ll h [p]).get o=if o=p then h.get o else none:=fun o=>by rw [r9 _ _ _ hp];simp
 have hsub:∀ o x,(ll h [p]).get o=some x→h.get o=some x:=fun o x hx=>by
  rw [hmask] at hx
  by_cases e:o=p
  ·rw [if_pos e] at hx;exact hx
  ·rw [if_neg e] at hx;cases hx
 have hrel:om g w (b9 d.o d.L) a.eval:=S7 fun t ⟨x,hx,e⟩=>by
  have hu:t ∈ vp ops d.o:=by
   simp only [vp,List.mem_append,List.mem_filterMap]
   exact .inl (.inr ⟨x,hx,by rw [e]⟩)
  rw [← slot t hu]
  exact h4 t
 have hgp:(ll h [p]).get p=some (.map es):=by rw [hmask,if_pos rfl,h1,hes]
 obtain ⟨bd,hst1⟩:∃ bd:St,bd = { h:=(ll h [p]).set depth p (some (.map (es++[(key,b9 d.o d.L x)]))),nx:=jx ds st0.nx ds.length,rl:=[p],wl:=[p] }:=⟨_,rfl⟩
 have hrun:ft P T d.o (b9 d.o d.L) { h:=ll h [p],nx:=jx ds st0.nx ds.length,rl:=[],wl:=[] }=some (.sc undef,bd):=by
  have h6:C5 P d.o (b9 d.o d.L) { h:=ll h [p],nx:=jx ds st0.nx ds.length,rl:=[],wl:=[] }=some (.sc undef,bd):=by
   unfold C5
   rw [hop]
   simp only [mh,hu,hm,hkey,M.bind,cj,hgp,qm,hck,hfind,hst,cond_true,gh,M.pure,hst1]
   rw [show Nat.ble p br=true from Nat.ble_eq_true_of_le hlim]
   rfl
  have h7:ft P T d.o (b9 d.o d.L)=mono (C5 P d.o (b9 d.o d.L)):=by unfold ft;rw [hop]
  rw [h7,mono,h6]
  simp only
  rw [hst1]
  simp only
  rw [show Nat.ble (jx ds st0.nx ds.length) (jx ds st0.nx ds.length)=true from Nat.ble_eq_true_of_le (Nat.le_refl _)]
  rfl
 unfold wpOpIn
 rw [ho]
 dsimp only
 rw [if_pos (by simp [Region.wanted,hgd])]
 refine Gf hT (h2.part hsub) (fun o q1 q2=>by rw [hst1] at q2;exact absurd (Nat.lt_of_le_of_lt q1 q2) (Nat.lt_irrefl _)) (fun o x hx=>?_) hrel hrun ro N _ _ ?_
 ·have hx':(ll h [p]).get o=some x:=hx
  rw [hmask] at hx'
  by_cases e:o=p
  ·subst e;exact hplt
  ·rw [if_neg e] at hx';cases hx'
 rintro u w' ⟨g',q1,q2,q3⟩
 have hget1:∀ o,bd.h.get o=if o=p then some (.map (es++[(key,b9 d.o d.L x)])) else none:=fun o=>by
  rw [hst1]
  simp only
  rw [ea _ _ _ _ hlim,hmask]
  by_cases e:o=p
  ·rw [if_pos e,if_pos e]
  ·rw [if_neg e,if_neg e,if_neg e]
 have hfs:=T5 (h':=q8 bd.h [p] h) (S:=fun o=>o ∈ [p]) h2 hsub (fun o x hx=>by
  rw [hmask] at hx
  by_cases e:o=p
  ·rw [e];exact List.mem_singleton.2 rfl
  ·rw [if_neg e] at hx;cases hx) q1 q2 (fun o hS=>by rw [p9 _ _ _ _ hp,if_pos hS]) (fun o hS=>by rw [p9 _ _ _ _ hp,if_neg hS]) (fun o e1 e2=>by rw [hst1] at e2;exact absurd (Nat.lt_of_le_of_lt e1 e2) (Nat.lt_irrefl _))
 have hH:∀ o,((q8 bd.h [p] h).set depth p (some (.map es'))).get o=H (ko D i) o:=fun o=>by
  rw [ea _ _ _ _ hlim]
  by_cases e:o=p
  ·rw [if_pos e,e,hes']
  ·rw [if_neg e,p9 _ _ _ _ hp,if_neg (by simpa using e),h1,hoth o e]
 have hcov:∀ o y,((q8 bd.h [p] h).set depth p (some (.map es'))).get o=some y→∃ z,(q8 bd.h [p] h).get o=some z∧Bp y z:=fun o y hy=>by
  rw [ea _ _ _ _ hlim] at hy
  by_cases e:o=p
  ·rw [if_pos e] at hy
   cases hy
   refine ⟨_,?_,hsame⟩
   rw [p9 _ _ _ _ hp,if_pos (by simpa using e),hget1,if_pos e]
  ·rw [if_neg e] at hy
   exact ⟨y,hy,.rfl _⟩
 have hnx1:bd.nx=jx ds st0.nx ds.length:=by rw [hst1]
 refine hK _ _ ⟨⟨g',_,hH,hfs.2.abg hcov,(h3.both ((by have:=hfs.1;rw [hnx1] at this;exact this.abe (mu mono1 ds.length 0 (Nat.zero_le _)) (Nat.le_refl _)))).abg hcov,fun t=>?_,fun k e hk hkD o o1 o2=>?_⟩,by rw [Sd];exact A.size,by rw [put_defers];exact A.defers,hcl⟩
 ·rw [Rh hi (fun q=>by rw [hdst] at q;cases q),if_neg (fun q=>by have:=q.1;rw [hdst] at this;cases this),hdst]
  exact (h4 t).ext q1.ext
 ·have hki:k≠i:=fun q=>by subst q;simp [ko] at hkD
  simp only [ko,if_neg hki] at hkD
  exact q1.fresh o (h5 k e hk hkD o o1 o2) (fun q=>by have:=q.2;rw [hnx1] at this;exact absurd (Nat.lt_of_le_of_lt q.1 this) (Nat.lt_irrefl _))
theorem Xy {P:Program} {T:er} (hm:P.follows .mixedOrders=true) {H:(Nat→Bool)→Nat→Option ba} {ops:Array Oper} {ro:Option Nat} {N:Nat} {B:dk} {nt id:Nat} {Q:Exit→Act→World→Prop} {ds:List DS} {L:SL} {st:St} {L':SL} {st' stF:St} (R:u5 P T ops ds L st L' st')
 {g:Gh} {w:World} {a:Act} (h0:∀ o,H (fun _=>false) o=st.h.get o) (hF:∀ D,(∀ i,i<ds.length→D i=true)→∀ o,H D o=stF.h.get o) (hnF:stF.nx=st'.nx)
 (hstep:∀ (w0:World) (D:Nat→Bool) (a':Act) (w':World) (i:Nat) (d:DS) (Q:Exit→Act→World→Prop) (K:Act→World→Prop),ds[i]? = some d→D i=false→(∀ e ∈ d.o.after,Region.binds .any e=true→D e.on=true)→At H ops ds L g st w0 a.defers nt (jx ds st.nx ds.length) D a' w'→(∀ a'' w'',At H ops ds L g st w0 a.defers nt (jx ds st.nx ds.length) (ko D i) a'' w''→K a'' w'')→wpOpIn (fm ro) N P ops Q i K a' w')
 (hnear:B.wk st.nx st'.nx) (hc:gj B g st w) (hr:ew g w nt L a.tmps) (hd:Marks B.n0 st.h g w a.defers)
 (hK:∀ g w a',gj B g stF w→ew g w nt L' a'.tmps→Marks B.n0 stF.h g w a'.defers→a'.defers=a.defers→Q .normal a' w) :
 (Code.region id ops true).wpIn (fm ro) N P Q a w:=by
 have c1:=R.vq
 obtain ⟨c2,c3,c4⟩:=R.fin
 have hc1:=hc.drawn
 have hd':Marks B.n0 st.h g { w with drawn:=w.drawn+1 } a.defers:=hd
 have mono1:∀ i d,ds[i]? = some d→d.st.nx=jx ds st.nx i∧d.st.nx≤d.bd.nx:=fun i d hd=>⟨(c1 i d hd).2.2.1,(c1 i d hd).2.2.2⟩
 refine wpIn_region_any hm (ao9 (H:=H) (L0:=L) (g0:=g) (st0:=st) (w0:={ w with drawn:=w.drawn+1 }) (df:=a.defers) R (fun D a w i d Q K hi hD hr A hK=>hstep _ D a w i d Q K hi hD hr A hK) ?_ ops.size _ a _ (by simp) ?_ ?_)
 ·intro D a' w' hall A
  obtain ⟨g',h',q1,q2,q3,q4,q5⟩:=A.mem
  have hh:∀ o,h'.get o=stF.h.get o:=fun o=>by rw [q1 o,hF D hall o]
  have hle:st.nx≤st'.nx:=by rw [c4];exact mu mono1 ds.length 0 (Nat.zero_le _)
  refine hK g' w' a' (hc1.step (st':=stF) (by rw [hnF];exact hnear) ⟨by rw [hnF];exact hle,?_⟩ (q2.congr hh)) ⟨A.size,fun t=>?_⟩ (by rw [A.defers];exact Marks.congr (Marks.step q3 hd') hh) A.defers
  ·rw [hnF,c4];exact q3.congr hh
  ·rw [c2 t,← Rw _ hall];exact q4 t
 ·exact Wv _ _
 ·have hf:(fun k=>(Array.replicate ops.size false).getD k false)=fun _=>false:=by
   funext k
   simp only [Array.getD_eq_getD_getElem?,Array.getElem?_replicate]
   split<;>rfl
  rw [hf]
  exact ⟨⟨g,st.h,fun o=>(h0 o).symm,hc1.ok,.refl _ _ _ _ _,fun t=>by
   rw [Mo];exact (hr.2 t).ext (Ext.same (w:=w) (w':={ w with drawn:=w.drawn+1 }) rfl),fun i d hd _ o h1 h9=>hc.fresh o (by
   have:=mu mono1 i 0 (Nat.zero_le _)
   rw [(c1 i d hd).2.2.1] at h1
   exact Nat.le_trans this h1) (hnear o (by
   have:=mu mono1 i 0 (Nat.zero_le _)
   rw [(c1 i d hd).2.2.1] at h1
   exact Nat.le_trans this h1) (by
   rw [c4]
   have h10:=mu mono1 ds.length (i+1) (List.getElem?_eq_some_iff.1 hd).1
   rw [jx.eq_2,hd] at h10
   exact Nat.lt_of_lt_of_le h9 h10))⟩,hr.1,rfl,fun i k hik=>by cases hik⟩
theorem F5 {ds:List DS} {h0:Tr ba} {D:Nat→Bool} {p:Nat}:∀ m,(∀ k e,k<m→ds[k]? = some e→D k=true→p ∉ e.W)→ki ds h0 D m p=h0.get p
 |0,_=>rfl
 |m+1,h=>by
  have ih:=F5 (h0:=h0) (D:=D) (p:=p) m (fun k e hk=>h k e (by omega))
  rw [ki]
  cases hd:ds[m]? with
  |none=>exact ih
  |some d=>
   simp only
   rw [if_neg (fun q=>h m d (by omega) hd q.1 q.2),ih]
theorem Zp {ds:List DS} {h0:Tr ba} {D:Nat→Bool} {p k0:Nat} {d:DS} (hd:ds[k0]? = some d) (hW:p ∈ d.W) (hD:D k0=true) (ho:∀ k e,ds[k]? = some e→k≠k0→p ∉ e.W):∀ m,k0<m→ki ds h0 D m p=d.bd.h.get p
 |0,h=>by omega
 |m+1,h=>by
  rw [ki]
  by_cases e:m=k0
  ·subst e
   rw [hd]
   simp only
   rw [if_pos ⟨hD,hW⟩]
  ·have ih:=Zp (h0:=h0) hd hW hD ho m (by omega)
   cases hm:ds[m]? with
   |none=>exact ih
   |some f=>
    simp only
    rw [if_neg (fun q=>ho m f hm e q.2),ih]
def Lm (ds:List DS) (h0:Tr ba) (p k0:Nat) (lits:List Lit) (D:Nat→Bool) (o:Nat):Option ba:=if o=p then (if D k0=true then some (.map (rm lits D)) else h0.get p) else ki ds h0 D ds.length o
structure azz (P:Program) (ops:Array Oper) (ds:List DS) (p k0:Nat) (q:Lit):Prop where
 vq:∃ d,ds[q.i]? = some d∧∃ t m k x kt et,d.o.op = .insert t m k x∧d.o.dst=none∧d.o.guard=none∧P.underlying t=some (.map kt et)∧P.underlying kt=some q.d∧b9 d.o d.L m = .mp p∧(b9 d.o d.L k).gw=some q.e.1∧ev P (Instr.checkKey false 10000 kt q.e.1)=some ()∧b9 d.o d.L x=q.e.2
 bef:((Region.before ops).getD q.i 0).testBit k0=true
theorem ank {P:Program} {T:er} (hT:pn P T) (hm:P.follows .mixedOrders=true) {ops:Array Oper} {ro:Option Nat} {N:Nat} {B:dk} {nt id:Nat} {Q:Exit→Act→World→Prop} (hg:qu nt ops=true) (hdst:v8 nt ops=true) {ds:List DS} {L:SL} {st:St} {L':SL} {st' stF:St} (R:u5 P T ops ds L st L' st') (C:Calm ops ds)
 (hgY:∀ d ∈ ds,wu ops d.L d.o=some d.want) {p k0:Nat} {lits:List Lit} (hl:agf lits) (hat:∀ q ∈ lits,azz P ops ds p k0 q) (hall:∀ i d,ds[i]? = some d→u7 d.o=true→∃ q ∈ lits,q.i=i) {d0:DS} (hk0:ds[k0]? = some d0) (hk0':u7 d0.o=false) (hno:∀ k e,ds[k]? = some e→k≠k0→p ∉ e.R∧p ∉ e.W)
 (hp:st'.h.get p=some (.map [])) (hplt:p<st'.nx) (hlim:p≤br) (hF:∀ o,stF.h.get o=if o=p then some (.map (lits.map (·.e))) else st'.h.get o) (hnF:stF.nx=st'.nx)
 {g:Gh} {w:World} {a:Act} (hnear:B.wk st.nx st'.nx) (hc:gj B g st w) (hr:ew g w nt L a.tmps) (hd:Marks B.n0 st.h g w a.defers)
 (hK:∀ g w a',gj B g stF w→ew g w nt L' a'.tmps→Marks B.n0 stF.h g w a'.defers→a'.defers=a.defers→Q .normal a' w) :
 (Code.region id ops true).wpIn (fm ro) N P Q a w:=by
 have hlt0:k0<ds.length:=(List.getElem?_eq_some_iff.1 hk0).1
 have hlen:∀ q ∈ lits,q.i<ds.length:=fun q hq=>by
  obtain ⟨d,h1,_⟩:=(hat q hq).vq
  exact (List.getElem?_eq_some_iff.1 h1).1
 have hne0:∀ q ∈ lits,q.i≠k0:=fun q hq e=>by
  obtain ⟨d,h1,t,m,k,x,kt,et,h2,_⟩:=(hat q hq).vq
  rw [e,hk0] at h1
  cases h1
  unfold u7 at hk0'
  rw [h2] at hk0'
  cases hk0'
 have hfin:ki ds st.h (fun _=>true) ds.length p=some (.map []):=by rw [← R.fin.2.1 p,hp]
 have hW0:p ∈ d0.W→d0.bd.h.get p=some (.map []):=fun hW=>by
  rw [← Zp (h0:=st.h) (D:=fun _=>true) hk0 hW rfl (fun k e hk hne=>(hno k e hk hne).2) ds.length hlt0];exact hfin
 have hN0:p ∉ d0.W→st.h.get p=some (.map []):=fun hW=>by
  rw [← F5 (h0:=st.h) (D:=fun _=>true) (p:=p) ds.length (fun k e _ hk _=>by
   by_cases h:k=k0
   ·rw [h,hk0] at hk;cases hk;exact hW
   ·exact (hno k e hk h).2)]
  exact hfin
 have hnx:st'.nx=jx ds st.nx ds.length:=R.fin.2.2
 refine Xy hm (H:=Lm ds st.h p k0 lits) (stF:=stF) R (fun o=>?_) (fun D hD o=>?_) hnF (fun w0 D a' w' i d Q K hi hD hrd A hK=>?_) hnear hc hr hd hK
 ·unfold Lm
  by_cases e:o=p
  ·rw [if_pos e,if_neg (by simp),e]
  ·rw [if_neg e,Gy]
 ·unfold Lm
  rw [hF]
  by_cases e:o=p
  ·rw [if_pos e,if_pos e,if_pos (hD k0 hlt0),atj (fun q hq=>hD _ (hlen q hq))]
  ·rw [if_neg e,if_neg e,J0 _ hD,← R.fin.2.1 o]
 ·have hbef:=xk A.closed (R.get hi) hrd
  have hmem:=List.mem_of_getElem? hi
  have hgv:=hgY d hmem
  have hcalm:=Fj R C hi hD A.closed hrd
  cases hins:u7 d.o with
  |false=>
   have hgv':zi ops d.L d.o=some d.want:=by unfold wu at hgv;rw [hins] at hgv;exact hgv
   have hnl:∀ q ∈ lits,q.i≠i:=fun q hq e=>by
    obtain ⟨d',h1,t,m,k,x,kt,et,h2,_⟩:=(hat q hq).vq
    rw [e,hi] at h1
    cases h1
    unfold u7 at hins
    rw [h2] at hins
    cases hins
   refine At.step hT R hg hdst hi hgv' (fun o ho=>?_) (fun o=>?_) hD hrd A hK
   ·unfold Lm
    by_cases e:o=p
    ·subst e
     by_cases hik:i=k0
     ·subst hik
      rw [if_pos rfl,if_neg (by rw [hD];simp)]
      rw [(R.vq i d hi).2.1 o,F5 i (fun k e hk he _=>(hno k e he (by omega)).2)]
     ·exact ((hno i d hi hik).1 ho).elim
    ·rw [if_neg e];exact hcalm.1 o ho
   ·unfold Lm
    by_cases e:o=p
    ·subst e
     rw [if_pos rfl,if_pos rfl]
     by_cases hik:i=k0
     ·subst hik
      rw [hk0] at hi
      cases hi
      have hen:rm lits (ko D i)=[]:=aqd (fun q hq=>by
       have hne:=hne0 q hq
       simp only [ko,if_neg hne]
       cases hDq:D q.i with
       |false=>rfl
       |true=>have:=A.closed q.i i hDq (hat q hq).bef;rw [hD] at this;cases this)
      rw [if_pos (show ko D i i=true from by simp [ko]),hen]
      by_cases hW:o ∈ d0.W
      ·rw [if_pos hW,hW0 hW]
      ·rw [if_neg hW,if_neg (by rw [hD];simp),hN0 hW]
     ·rw [if_neg (hno i d hi hik).2,ams hnl]
      simp only [ko,if_neg (Ne.symm hik)]
    ·rw [if_neg e,if_neg e];exact hcalm.2 o
  |true=>
   obtain ⟨q,hq,rfl⟩:=hall i d hi hins
   obtain ⟨d',h1,t,m,k,x,kt,et,h2,h3,h4,h5,h6,h7,h8,h9,h10⟩:=(hat q hq).vq
   rw [hi] at h1
   cases h1
   have hDk:D k0=true:=hbef k0 (hat q hq).bef
   have hne:=hne0 q hq
   have hothers:∀ e ∈ rm lits D,∃ r ∈ lits,r.i≠q.i∧r.e=e:=fun e he=>by
    obtain ⟨r,r1,r2,r3⟩:=ac9 he
    exact ⟨r,r1,(fun e=>by rw [e,hD] at r2;cases r2),r3⟩
   have hperm:=ar1 hl.idx hq hD
   have hW:d.W=[]:=by
    have:d.want=false:=by
     unfold wu at hgv
     rw [hins] at hgv
     simpa using hgv.symm
    exact ((R.ok d hmem).skip this).2.2.2
   refine At.ins hT R hi hD hrd A h2 h3 h4 h5 h7 h8 h9 (es:=rm lits D) (es':=rm lits (ko D q.i)) ?_ hlim (by rw [← hnx];exact hplt) (akh h6 (fun e he=>?_)) ?_ ?_ ?_ (fun o e=>?_) hK
   ·unfold Lm;rw [if_pos rfl,if_pos hDk]
   ·obtain ⟨r,r1,r2,rfl⟩:=hothers e he
    exact (hl.apart q hq r r1 (Ne.symm r2)).2
   ·have hqe:(q.e.1,b9 d.o d.L x)=q.e:=by rw [h10]
    rw [hqe]
    unfold stays
    cases hlo:loose (rm lits D) with
    |false=>rfl
    |true=>
     have:loose (rm lits D++[q.e])=true:=by
      unfold loose at hlo ⊢
      simp only [Bool.and_eq_true] at hlo ⊢
      refine ⟨Nat.ble_eq_true_of_le (by have:=Nat.le_of_ble_eq_true hlo.1;rw [List.length_append];omega),?_⟩
      have key:∀ l:List (Value × AV),so l=true→(∀ e ∈ l,pj e.1 q.e.1=true)→so (l++[q.e])=true:=by
       intro l
       induction l with
       |nil=>intro _ _;rfl
       |cons b l ih=>
        intro h1 h2
        simp only [so,List.cons_append,Bool.and_eq_true,List.all_eq_true] at h1 ⊢
        refine ⟨fun y hy=>?_,ih h1.2 (fun e he=>h2 e (by simp [he]))⟩
        rcases List.mem_append.1 hy with hy|hy
        ·exact h1.1 y hy
        ·rw [List.mem_singleton] at hy;rw [hy];exact h2 b (by simp)
      refine key _ hlo.2 (fun e he=>?_)
      obtain ⟨r,r1,r2,rfl⟩:=hothers e he
      exact (hl.apart r r1 q hq r2).1
     rw [this];rfl
   ·unfold Lm;rw [if_pos rfl,if_pos (by simp [ko,hDk])]
   ·have hqe:(q.e.1,b9 d.o d.L x)=q.e:=by rw [h10]
    rw [hqe]
    by_cases h2 : 2≤(rm lits (ko D q.i)).length
    ·refine .perm _ _ hperm ?_
     unfold loose
     rw [Nat.ble_eq_true_of_le h2,Qy hl]
     rfl
    ·have h3:(rm lits D).length=0:=by have:=hperm.length_eq;rw [List.length_append] at this;simp at this;omega
     have h4:rm lits D=[]:=List.eq_nil_of_length_eq_zero h3
     rw [h4] at hperm ⊢
     rw [List.nil_append] at hperm ⊢
     rw [List.perm_singleton.1 hperm]
     exact .rfl _
   ·unfold Lm
    rw [if_neg e,if_neg e,hcalm.2 o,hW,if_neg (by simp)]
end
end Go.Vm
