/- A piece of the proof. Proved: where the arguments are together of bulk at most 1048576, the law LookupHolds returns true (each set that is answered holds), and what it was given reads afterwards as it did before. No other conditions. -/
import Derived.WalkKit
import Derived.CallsIn
import Derived.RangeFuncIn
import Derived.RangeFuncLeaves
import Derived.Orders
import Derived.OrdersIn
import Derived.Scope
import Derived.RangeFuncOwn
import Derived.Stop.SameAnswer
import Derived.Laws.Externs
import Derived.Lib.Bytealg
import Derived.ProofKit
import Derived.OpenShut
import Derived.ReadAgain
import Derived.Deep.Slices
import Derived.ChangeSame
import Derived.Test.YtajammoepjpiiaaGreatProg
import Derived.KernelRfl
import Derived.Test.YtajammoepjpiiaaGreatRows
import Derived.Maps.RangeRun
import Derived.JoinedCond
import Derived.Test.YtajammoepjpiiaaGreatC2
set_option linter.unusedSimpArgs false
set_option linter.unusedVariables false
section
namespace Go.Proofs.YtajammoepjpiiaaGreat
open Go.Vm
set_option maxRecDepth 2000000
def fu {α:Type} (f : α→Nat) (l:List α):Nat:=l.foldr (fun x k=>f x+k+1) 0
def uh (d:db):Nat:=fu bt d.names+d.nums.length+fu ByteArray.size d.texts+d.raw.length
theorem pc {α:Type} {f : α→Nat} {l:List α} {x : α} (h:x ∈ l):f x<fu f l:=by
 induction l with
 |nil=>cases h
 |cons a l ih=>
  simp only [fu,List.foldr_cons] at ih ⊢
  rcases List.mem_cons.1 h with rfl|h
  ·omega
  ·have:=ih h;omega
theorem rm {α:Type} (f : α→Nat) (l:List α):l.length≤fu f l:=by
 induction l with
 |nil=>exact Nat.le_refl _
 |cons a l ih=>simp only [fu,List.foldr_cons,List.length_cons] at ih ⊢;omega
def eb (d:db):Prop:=uh d≤16777216
instance (d:db):Decidable (eb d):=inferInstanceAs (Decidable (_≤_))
theorem eb.name {d:db} (h:eb d):∀ n ∈ d.names,bc n:=fun n hn=>by
 have h1:bt n<fu bt d.names:=pc hn
 unfold eb uh at h;unfold bc;omega
theorem eb.text {d:db} (h:eb d):∀ s ∈ d.texts,s.size≤16777216:=fun s hs=>by
 have h1:ByteArray.size s<fu ByteArray.size d.texts:=pc hs
 unfold eb uh at h;omega
theorem eb.lens {d:db} (h:eb d):d.names.length≤16777216∧d.nums.length≤16777216∧d.texts.length≤16777216∧d.raw.length≤16777216:=by
 have h1:=rm bt d.names
 have h2:=rm ByteArray.size d.texts
 unfold eb uh at h;omega
noncomputable def Ps (s:Shape):Int:=IntKind.u32.wrap (1 * 2 ^ (if (8 * s.size).toNat≤32 then (8 * s.size).toNat else 32))
noncomputable def Ah (s:Shape) (t:UInt16) (d:db):Bool:=
 if (d.names.length:Int)≠s.names∨(d.nums.length:Int)≠s.nums∨(0≤s.raw∧(d.raw.length:Int)≠s.raw) then false
 else if s.size<4∧(d.nums.any fun n=>decide (Ps s≤(n.toNat:Int)))=true then false
 else if (t.toNat:Int)=257 then decide (d.texts.length=2) && Oj (d.texts.headD ⟨#[]⟩)
 else if s.texts=0 then decide (d.texts.length=0)
 else decide (0<d.texts.length) && !(d.texts.any fun x=>decide (255<x.size))
noncomputable def T4 (s:Shape) (t:UInt16) (d:db):Bool:=
 if s.size<4∧(d.nums.any fun n=>decide (Ps s≤(n.toNat:Int)))=true then false
 else if (t.toNat:Int)=257 then decide (d.texts.length=2) && Oj (d.texts.headD ⟨#[]⟩)
 else if s.texts=0 then decide (d.texts.length=0)
 else decide (0<d.texts.length) && !(d.texts.any fun x=>decide (255<x.size))
theorem azj (s:Shape) (t:UInt16) (d:db) (hs : 0≤s.size∧s.size≤4) (hd:eb d):wl PP [aF1] 0 (Tryz.f160.body.getD .skip) (dp PP Tryz.f160.results.toList (fun r st=>(r1 bp).get true st.h r=some (Ah s t d))) (ca 0 [u6.val false s,cw.val false t,cf.val false d]) (br []):=by
 unfold Tryz.f160
 obtain ⟨l1,l2,l3,l4⟩:=hd.lens
 simp only [Gl,nq,dm]
 simp only [↓wR,RA,simprocAttr,TF]
 rw [je];refine ⟨fun ⟨h,e⟩=>?_,fun ⟨h,e⟩=>?_⟩
 ·have hv:Ah s t d=false:=if_pos (.inl e)
  simp only [↓wR,RA,simprocAttr,TF,h,hv]
 simp only [↓wR,RA,simprocAttr,TF,h]
 rw [je];refine ⟨fun ⟨h2,e2⟩=>?_,fun ⟨h2,e2⟩=>?_⟩
 ·have hv:Ah s t d=false:=if_pos (.inr (.inl e2))
  simp only [↓wR,RA,simprocAttr,TF,h2,hv]
 simp only [↓wR,RA,simprocAttr,TF,h2]
 have hraw:¬ (0≤s.raw∧(d.raw.length:Int)≠s.raw)→Ah s t d=T4 s t d:=fun hr=>if_neg (fun h=>by
  rcases h with h|h|h
  ·exact h e
  ·exact h e2
  ·exact hr h)
 rw [bj];refine ⟨fun h3=>?_,fun h3=>?_⟩
 simp only [↓wR,RA,simprocAttr,TF,h3]
 rw [je];refine ⟨fun ⟨h4,e4⟩=>?_,fun ⟨h4,e4⟩=>?_⟩
 have hv:Ah s t d=false:=if_pos (.inr (.inr ⟨h3,e4⟩))
 simp only [↓wR,RA,simprocAttr,TF,h4,hv]
 rw [hraw (fun q=>q.2 e4)]
 simp only [↓wR,RA,simprocAttr,TF,h4]
 rotate_left
 rw [hraw (fun q=>h3 q.1)]
 simp only [↓wR,RA,simprocAttr,TF,h3]
 all_goals
  clear hraw
  refine dh [1,3,5,37,38,39] (fun (i:Nat)=>[.sc (.int .u16 t.toNat),.ptr 0 0,.ptr 1 0,.vl false 1 (d.nums.map (bn.val false)),.sc (.int .i64 d.nums.length),.sc (.int .i64 i)]) (fun _=>[some (.row [.sc (.int .i64 s.names),.sc (.int .i64 s.nums),.sc (.int .i64 s.size),.sc (.int .i64 s.texts),.sc (.int .i64 s.raw)] 0 2 214),some (.row [.vl false 1 (d.names.map (ar.val false)),.vl false 1 (d.nums.map (bn.val false)),.vl false 1 (d.texts.map (aq.val false)),.vl false 1 (d.raw.map (cy.val false))] 0 2 77)]) (fun i=>i≤d.nums.length∧(s.size<4→(d.nums.any fun n=>decide (Ps s≤(n.toNat:Int)))=((d.nums.drop i).any fun n=>decide (Ps s≤(n.toNat:Int))))) (fun i=>d.nums.length - i) 0 ⟨Nat.zero_le _,fun _=>rfl⟩ (by simp only [↓wR,RA,simprocAttr,TF]<;>rfl) (by simp only [↓wR,RA,simprocAttr,TF]<;>rfl) ?_
  clear h h2 e e2
  rintro i ⟨hi,hR⟩
  simp only [↓wR,RA,simprocAttr,TF]
  rw [bj];refine ⟨fun h=>?_,fun h=>?_⟩
  ·obtain ⟨c,hc,hd1,hlt⟩:=dw (decide_eq_true h)
   rw [hd1,List.any_cons] at hR
   simp only [↓wR,RA,simprocAttr,TF,h,hc]
   rw [bj];refine ⟨fun h5=>?_,fun h5=>?_⟩
   ·have hR:=hR h5
    have h80:(0:Int)≤8 * s.size:=by omega
    simp only [↓wR,RA,simprocAttr,TF,h5,h80];repeat (simp (disch:=omega) only [ah,b9,bu,bw,bz];try simp only [↓wR,RA,simprocAttr,TF,h5,h80])
    rw [bj];refine ⟨fun h6=>?_,fun h6=>?_⟩
    ·have hv:T4 s t d=false:=by
      rw [T4,if_pos ⟨h5,by rw [hR,decide_eq_true (show Ps s≤(c.toNat:Int) from h6)];rfl⟩]
     simp only [↓wR,RA,simprocAttr,TF,h6,hv]
    ·simp only [↓wR,RA,simprocAttr,TF,h6];repeat (simp (disch:=omega) only [ah,b9,bu,bw,bz];try simp only [↓wR,RA,simprocAttr,TF,h6])
     refine ⟨i+1,⟨hlt,fun _=>?_⟩,by omega,by (first|rfl|trivial|omega|((try (simp (disch:=omega) only [ah]));(try (simp only [FB]));first|done|rfl|omega))⟩
     rw [hR,decide_eq_false (show ¬ Ps s≤(c.toNat:Int) from h6),Bool.false_or]
   ·simp only [↓wR,RA,simprocAttr,TF,h5];repeat (simp (disch:=omega) only [ah,b9,bu,bw,bz];try simp only [↓wR,RA,simprocAttr,TF,h5])
    exact ⟨i+1,⟨hlt,fun h=>h.elim⟩,by omega,by (first|rfl|trivial|omega|((try (simp (disch:=omega) only [ah]));(try (simp only [FB]));first|done|rfl|omega))⟩
  ·rw [dz (decide_eq_false h),List.any_nil] at hR
   have hr:T4 s t d=if (t.toNat:Int)=257 then decide (d.texts.length=2) && Oj (d.texts.headD ⟨#[]⟩) else if s.texts=0 then decide (d.texts.length=0) else decide (0<d.texts.length) && !(d.texts.any fun x=>decide (255<x.size)):=by
    rw [T4,if_neg];rintro ⟨q1,q2⟩;rw [hR q1] at q2;cases q2
   simp only [↓wR,RA,simprocAttr,TF,h]
   rw [cz];refine ⟨fun ⟨h6,e6⟩=>?_,fun ⟨h6,e6⟩=>?_⟩
   ·rw [if_pos e6] at hr
    simp only [↓wR,RA,simprocAttr,TF,h6]
    rw [cz];refine ⟨fun ⟨h7,e7⟩=>?_,fun ⟨h7,e7⟩=>?_⟩
    ·obtain ⟨c,hc⟩:∃ c,d.texts[0]? = some c:=⟨_,List.getElem?_eq_getElem (by omega)⟩
     have hh:d.texts.headD ⟨#[]⟩=c:=by
      cases ht:d.texts with
      |nil=>rw [ht] at hc;cases hc
      |cons a l=>rw [ht] at hc;simpa using hc
     rw [hh,decide_eq_true (show d.texts.length=2 by omega)] at hr
     simp only [↓wR,RA,simprocAttr,TF,h7,hc,Xh,hd.text c (List.mem_of_getElem? hc)]
     rw [hr];rfl
    ·simp only [↓wR,RA,simprocAttr,TF,h7]
     rw [hr,decide_eq_false (show ¬ d.texts.length=2 by omega)];rfl
   ·rw [if_neg e6] at hr
    simp only [↓wR,RA,simprocAttr,TF,h6]
    rw [cz];refine ⟨fun ⟨h7,e7⟩=>?_,fun ⟨h7,e7⟩=>?_⟩
    ·rw [if_pos e7] at hr
     simp only [↓wR,RA,simprocAttr,TF,h7]
     rw [hr];congr 1
     rw [Bool.eq_iff_iff];simp
    ·rw [if_neg e7] at hr
     simp only [↓wR,RA,simprocAttr,TF,h7]
     rw [bj];refine ⟨fun h8=>?_,fun h8=>?_⟩
     ·simp only [↓wR,RA,simprocAttr,TF,h8]
      refine bo (T:=[]) (ak.nil PP) mixed Tryz.func180 rfl (by kernel_rfl) (by kernel_rfl) (by kernel_rfl) (by kernel_rfl) ?_;unfold Tryz.f180
      simp only [↓wR,RA,simprocAttr,TF]
      refine bo (T:=[]) (ak.nil PP) mixed Tryz.func192 rfl (by kernel_rfl) (by kernel_rfl) (by kernel_rfl) (by kernel_rfl) ?_;unfold Tryz.f192
      simp only [↓wR,RA,simprocAttr,TF]
      refine dh [0,1,7,8] (fun (i:Nat)=>[.vl false 1 (d.texts.map (aq.val false)),.sc (.func (.func 181) #[] #[]),.sc (.int .i64 d.texts.length),.sc (.int .i64 i)]) (fun _=>[some (.row [.sc (.int .i64 s.names),.sc (.int .i64 s.nums),.sc (.int .i64 s.size),.sc (.int .i64 s.texts),.sc (.int .i64 s.raw)] 0 2 214),some (.row [.vl false 1 (d.names.map (ar.val false)),.vl false 1 (d.nums.map (bn.val false)),.vl false 1 (d.texts.map (aq.val false)),.vl false 1 (d.raw.map (cy.val false))] 0 2 77)]) (fun i=>i≤d.texts.length∧(d.texts.any fun x=>decide (255<x.size))=((d.texts.drop i).any fun x=>decide (255<x.size))) (fun i=>d.texts.length - i) 0 ⟨Nat.zero_le _,rfl⟩ (by simp only [↓wR,RA,simprocAttr,TF]<;>rfl) (by simp only [↓wR,RA,simprocAttr,TF]<;>rfl) ?_
      rintro k ⟨hk,hK⟩
      simp only [↓wR,RA,simprocAttr,TF]
      rw [bj];refine ⟨fun h9=>?_,fun h9=>?_⟩
      ·obtain ⟨c,hc,hd1,hlt⟩:=dw (decide_eq_true h9)
       rw [hd1,List.any_cons] at hK
       simp only [↓wR,RA,simprocAttr,TF,h9,hc];repeat (simp (disch:=omega) only [ah,b9,bu,bw,bz];try simp only [↓wR,RA,simprocAttr,TF,h9,hc])
       refine bo (T:=[]) (ak.nil PP) mixed Tryz.func181 rfl (by kernel_rfl) (by kernel_rfl) (by kernel_rfl) (by kernel_rfl) ?_;unfold Tryz.f181
       simp only [↓wR,RA,simprocAttr,TF]
       rw [bj];refine ⟨fun h10=>?_,fun h10=>?_⟩
       ·simp only [↓wR,RA,simprocAttr,TF,h10]
        rw [hr,hK,decide_eq_true (show 0<d.texts.length by omega),decide_eq_true (show 255<c.size by omega)];rfl
       ·simp only [↓wR,RA,simprocAttr,TF,h10];repeat (simp (disch:=omega) only [ah,b9,bu,bw,bz];try simp only [↓wR,RA,simprocAttr,TF,h10])
        refine ⟨k+1,⟨hlt,?_⟩,by omega,by (first|rfl|trivial|omega|((try (simp (disch:=omega) only [ah]));(try (simp only [FB]));first|done|rfl|omega))⟩
        rw [hK,decide_eq_false (show ¬ 255<c.size by omega),Bool.false_or]
      ·rw [dz (decide_eq_false h9),List.any_nil] at hK
       simp only [↓wR,RA,simprocAttr,TF,h9]
       rw [hr,hK,decide_eq_true (show 0<d.texts.length by omega)];rfl
     ·simp only [↓wR,RA,simprocAttr,TF,h8]
      rw [hr,decide_eq_false (show ¬ 0<d.texts.length by omega)];rfl
theorem Wz (t:UInt16) : 0≤(jn t).size∧(jn t).size≤4:=by
 unfold jn
 repeat' split
 all_goals simp
noncomputable def N8 (x:Shape × UInt16 × db × Unit):Option AV:=if (0≤x.1.size∧x.1.size≤4)∧eb x.2.2.1 then some ((r1 bp).E true (Ah x.1 x.2.1 x.2.2.1)) else none
set_option maxRecDepth 2000000 in
theorem aos (x:Shape × UInt16 × db × Unit) (r:AV) (h:N8 x=some r):be PP 160 ((aC u6 (aC cw (aC cf a0))).E x) r:=by
 by_cases hc:(0≤x.1.size∧x.1.size≤4)∧eb x.2.2.1
 case neg=>simp only [N8,if_neg hc] at h;cases h
 simp only [N8,if_pos hc] at h
 cases h
 exact bb (ak.cons (ai aq4) (ak.nil PP)) Tryz.func160 (by kernel_rfl) (by kernel_rfl) (by kernel_rfl) (Nat.le_of_ble_eq_true (by kernel_rfl)) (r1 bp) true (Ah x.1 x.2.1 x.2.2.1) (azj x.1 x.2.1 x.2.2.1 hc.1 hc.2)
noncomputable abbrev aD2:Nat × Bool × (List AV→M AV):=(160,true,dc (aC u6 (aC cw (aC cf a0))) N8)
theorem akh {α:Type} {l:List (List α)} {i:Nat} {c:List α} (h:l[i]? = some c):(l.drop i).flatten=c++(l.drop (i+1)).flatten:=by rw [Jr h];rfl
theorem ay8 {α:Type} {l:List (List α)} {c:List α} (h:c ∈ l):c.length≤l.flatten.length:=by
 induction l with
 |nil=>cases h
 |cons a l ih=>
  simp only [List.flatten_cons,List.length_append]
  rcases List.mem_cons.1 h with rfl|h
  ·omega
  ·have:=ih h;omega
theorem ati (l:List (List UInt8)) (hl:l.length≤16777216) (hf:l.flatten.length≤134217728):wl PP [] 0 (Tryz.f184.body.getD .skip) (dp PP Tryz.f184.results.toList (fun r st=>(r1 (cp cy)).get true st.h r=some l.flatten)) (ca 0 [(cp (cp cy)).val false l]) (br []):=by
 unfold Tryz.f184
 rw [qe]
 simp only [↓wR,RA,simprocAttr,TF]
 refine dh [0,3,9,10,11] (fun (x:Nat × Nat)=>[.vl false 1 (l.map ((cp cy).val false)),.sc (.int .i64 x.2),.vl false 1 (l.map ((cp cy).val false)),.sc (.int .i64 l.length),.sc (.int .i64 x.1)]) (fun _=>[]) (fun x=>x.1≤l.length∧x.2+(l.drop x.1).flatten.length=l.flatten.length) (fun x=>l.length - x.1) (0,0) ⟨Nat.zero_le _,by simp⟩ (by simp only [↓wR,RA,simprocAttr,TF]<;>rfl) (by simp only [↓wR,RA,simprocAttr,TF]<;>rfl) ?_
 rintro ⟨i,k⟩ ⟨hi,hk⟩
 simp only at hi hk
 simp only [↓wR,RA,simprocAttr,TF]
 rw [bj];refine ⟨fun h=>?_,fun h=>?_⟩
 ·obtain ⟨c,hc,hd1,hlt⟩:=dw (decide_eq_true h)
  rw [akh hc,List.length_append] at hk
  simp only [↓wR,RA,simprocAttr,TF,h,hc];repeat (simp (disch:=omega) only [ah,b9,bu,bw,bz];try simp only [↓wR,RA,simprocAttr,TF,h,hc])
  rw [bj];refine ⟨fun h1=>?_,fun h1=>?_⟩
  ·exfalso;omega
  ·simp only [↓wR,RA,simprocAttr,TF,h1];repeat (simp (disch:=omega) only [ah,b9,bu,bw,bz];try simp only [↓wR,RA,simprocAttr,TF,h1])
   exact ⟨(i+1,k+c.length),⟨hlt,by show k+c.length+(l.drop (i+1)).flatten.length=_;omega⟩,by simp;omega,by simp⟩
 ·rw [dz (decide_eq_false h)] at hk
  have hk:k=l.flatten.length:=by simpa using hk
  subst hk
  simp only [↓wR,RA,simprocAttr,TF,h]
  refine bo (T:=[]) (ak.nil PP) mixed Tryz.func193 rfl (by kernel_rfl) (by kernel_rfl) (by kernel_rfl) (by kernel_rfl) ?_;unfold Tryz.f193
  simp only [↓wR,RA,simprocAttr,TF]
  rw [bj];refine ⟨fun h1=>?_,fun h1=>?_⟩
  ·exfalso;omega
  simp only [↓wR,RA,simprocAttr,TF,h1];repeat (simp (disch:=omega) only [ah,b9,bu,bw,bz];try simp only [↓wR,RA,simprocAttr,TF,h1])
  rw [bj];refine ⟨fun h2=>?_,fun h2=>?_⟩
  ·have hpos : 0<l.flatten.length:=by omega
   simp only [↓wR,RA,simprocAttr,TF,h2,hpos];repeat (simp (disch:=omega) only [ah,b9,bu,bw,bz];try simp only [↓wR,RA,simprocAttr,TF,h2,hpos])
   refine dh [25,26,27,6] (fun (x:Nat × Nat × List UInt8)=>[.vl false 1 (l.map ((cp cy).val false)),.sc (.int .i64 l.length),.sc (.int .i64 x.1),.sl 0 0 x.2.1 1]) (fun x=>[some (.row (x.2.2.map (cy.val false)) 0 0 5)]) (fun x=>x.1≤l.length∧(x.2.1=x.2.2.length∨x.2.1=0)∧x.2.2.take x.2.1++(l.drop x.1).flatten=l.flatten) (fun x=>l.length - x.1) (0,0,List.replicate l.flatten.length 0) ⟨Nat.zero_le _,.inr rfl,rfl⟩ (by simp only [↓wR,RA,simprocAttr,TF]<;>rfl) (by simp only [↓wR,RA,simprocAttr,TF]<;>rfl) ?_
   rintro ⟨k,m,r⟩ ⟨hk1,hk0,hk3⟩
   simp only at hk1 hk0 hk3
   have hk2:m≤r.length:=by omega
   simp only [↓wR,RA,simprocAttr,TF]
   rw [bj];refine ⟨fun h3=>?_,fun h3=>?_⟩
   ·obtain ⟨c,hc,hd1,hlt⟩:=dw (decide_eq_true h3)
    rw [akh hc] at hk3
    have hm:m+c.length≤134217728:=by
     have:=congrArg List.length hk3
     simp only [List.length_append,List.length_take] at this
     omega
    simp only [↓wR,RA,simprocAttr,TF,h3,hc,hk2];repeat (simp (disch:=omega) only [ah,b9,bu,bw,bz];try simp only [↓wR,RA,simprocAttr,TF,h3,hc,hk2])
    have hl1:(r.take m++c).length=m+c.length:=by simp [Nat.min_eq_left hk2]
    refine ⟨(k+1,m+c.length,r.take m++c),⟨hlt,.inl hl1.symm,?_⟩,by simp;omega,by simp,by simp⟩
    show (r.take m++c).take (m+c.length)++_=_
    rw [List.take_of_length_le (Nat.le_of_eq hl1),List.append_assoc]
    exact hk3
   ·rw [dz (decide_eq_false h3)] at hk3
    have hmr:m=r.length:=by
     have:=congrArg List.length hk3
     simp only [List.length_append,List.length_take,List.flatten_nil,List.length_nil] at this
     omega
    subst hmr
    have hr:r=l.flatten:=by simpa using hk3
    subst hr
    simp only [↓wR,RA,simprocAttr,TF,h3,hk2];repeat (simp (disch:=omega) only [ah,b9,bu,bw,bz];try simp only [↓wR,RA,simprocAttr,TF,h3,hk2])
  ·have hnil:l.flatten=[]:=List.eq_nil_of_length_eq_zero (by omega)
   simp only [↓wR,RA,simprocAttr,TF,h2];repeat (simp (disch:=omega) only [ah,b9,bu,bw,bz];try simp only [↓wR,RA,simprocAttr,TF,h2])
   refine dh [25,26,27,6] (fun (x:Nat)=>[.vl false 1 (l.map ((cp cy).val false)),.sc (.int .i64 l.length),.sc (.int .i64 x),.sc (.slice none 0 0)]) (fun _=>[]) (fun x=>x≤l.length) (fun x=>l.length - x) 0 (Nat.zero_le _) (by simp only [↓wR,RA,simprocAttr,TF]<;>rfl) (by simp only [↓wR,RA,simprocAttr,TF]<;>rfl) ?_
   intro k hk1
   simp only [↓wR,RA,simprocAttr,TF]
   rw [bj];refine ⟨fun h3=>?_,fun h3=>?_⟩
   ·obtain ⟨c,hc,hd1,hlt⟩:=dw (decide_eq_true h3)
    have hc0:c=[]:=List.eq_nil_of_length_eq_zero (by have:=ay8 (List.mem_of_getElem? hc);rw [hnil] at this;simpa using this)
    subst hc0
    simp only [↓wR,RA,simprocAttr,TF,h3,hc];repeat (simp (disch:=omega) only [ah,b9,bu,bw,bz];try simp only [↓wR,RA,simprocAttr,TF,h3,hc])
    refine ⟨k+1,hlt,?_⟩
    first|(refine ⟨by simp;omega,?_⟩;simp)|(simp;omega)
   ·simp only [↓wR,RA,simprocAttr,TF,h3];repeat (simp (disch:=omega) only [ah,b9,bu,bw,bz];try simp only [↓wR,RA,simprocAttr,TF,h3])
    rw [hnil]
noncomputable def Bs (x:List (List UInt8) × Unit):Option AV:=if x.1.length≤16777216∧x.1.flatten.length≤134217728 then some ((r1 (cp cy)).E true (x.1.flatten)) else none
set_option maxRecDepth 2000000 in
theorem afl (x:List (List UInt8) × Unit) (r:AV) (h:Bs x=some r):be PP 184 ((aC (cp (cp cy)) a0).E x) r:=by
 by_cases hc:x.1.length≤16777216∧x.1.flatten.length≤134217728
 case neg=>simp only [Bs,if_neg hc] at h;cases h
 simp only [Bs,if_pos hc] at h
 cases h
 exact bb (ak.nil PP) Tryz.func184 (by kernel_rfl) (by kernel_rfl) (by kernel_rfl) (Nat.le_of_ble_eq_true (by kernel_rfl)) (r1 (cp cy)) true (x.1.flatten) (ati x.1 hc.1 hc.2)
noncomputable abbrev azm:Nat × Bool × (List AV→M AV):=(184,true,dc (aC (cp (cp cy)) a0) Bs)
theorem aq9 (n:Name):(y5 n).length≤bt n:=by
 unfold y5 nameBytes
 split
 ·exact Nat.zero_le _
 ·have:=Lj n;rw [List.length_append];simp only [List.length_cons,List.length_nil];omega
noncomputable def Td (t:UInt16) (n:UInt32):List UInt8:=(Gv n).drop (4 - (jn t).size).toNat
def xi (t:UInt16):Nat→List ByteArray→List UInt8
 |_,[]=>[]
 |i,x::r=>(if (t.toNat:Int)=16∨i=0 then [UInt8.ofNat x.size] else [])++x.data.toList++xi t (i+1) r
noncomputable def D7 (t:UInt16) (d:db):List UInt8:=d.nums.flatMap (Td t)
def Dk (d:db):List UInt8:=d.names.flatMap y5
def Ar (t:UInt16) (d:db):List UInt8:=xi t 0 d.texts
noncomputable def I6 (t:UInt16) (d:db):List UInt8:=if (t.toNat:Int)=6 then Dk d++D7 t d else D7 t d++(Dk d++(Ar t d++d.raw))
theorem Oq (n):(Gv n).length=4:=rfl
theorem ajy {α:Type} (f : α→List UInt8) (μ : α→Nat) (h:∀ x,(f x).length ≤ μ x) (l:List α):(l.flatMap f).length≤fu μ l:=by
 induction l with
 |nil=>simp
 |cons a l ih=>have:=h a;simp only [List.flatMap_cons,List.length_append,fu,List.foldr_cons] at ih ⊢;omega
theorem am0 (t:UInt16) (l:List ByteArray):∀ i,(xi t i l).length≤fu ByteArray.size l:=by
 induction l with
 |nil=>intro i;simp [xi]
 |cons a l ih=>
  intro i
  have:=ih (i+1)
  have ha:a.data.size=a.size:=rfl
  simp only [xi,List.length_append,fu,List.foldr_cons,Array.length_toList] at this ⊢
  split<;>simp<;>omega
theorem apn (t d):(D7 t d).length≤4 * d.nums.length:=by
 unfold D7
 induction d.nums with
 |nil=>simp
 |cons a l ih=>
  have:(Td t a).length≤4:=by unfold Td;rw [List.length_drop,Oq];omega
  simp only [List.flatMap_cons,List.length_append,List.length_cons];omega
theorem eb.written {d:db} (h:eb d) (t):(D7 t d).length≤67108864∧(Dk d).length≤16777216∧(Ar t d).length≤16777216:=by
 have h1:=apn t d
 have h2:(Dk d).length≤fu bt d.names:=ajy y5 bt aq9 d.names
 have h3:(Ar t d).length≤fu ByteArray.size d.texts:=am0 t d.texts 0
 unfold eb uh at h
 omega
theorem Ve {α:Type} {l:List α} {i:Nat} {c : α} (f : α→List UInt8) (h:l.drop i=c::l.drop (i+1)):(l.drop i).flatMap f=f c++(l.drop (i+1)).flatMap f:=by rw [h];rfl
theorem U4 (c):(Gv c).take 4=Gv c:=rfl
theorem ak0 (t) (c):(Gv c).drop (4 - (jn t).size).toNat=Td t c:=rfl
theorem ar8 (t:UInt16) {l:List ByteArray} {i:Nat} {c:ByteArray} (h:l.drop i=c::l.drop (i+1)):xi t i (l.drop i)=(if (t.toNat:Int)=16∨i=0 then [UInt8.ofNat c.size] else [])++c.data.toList++xi t (i+1) (l.drop (i+1)):=by rw [h];rfl
theorem av1 (t:UInt16) (d:db) (hd:eb d):wl PP [X6,aBj,ams,azm] 0 (Tryz.f161.body.getD .skip) (dp PP Tryz.f161.results.toList (fun r st=>(r1 (cp cy)).get true st.h r=some (I6 t d))) (ca 0 [cw.val false t,cf.val false d]) (br []):=by
 have hl:=hd.lens
 have hk:=hd.written t
 have hs:=Wz t
 unfold Tryz.f161
 simp only [nq,dm]
 simp only [↓wR,RA,simprocAttr,TF,Gf,Gl]
 refine ma [0,3,6,7,8,21,22,23,5] (fun (x:Nat × List UInt8)=>[.sc (.int .u16 t.toNat),.ptr 0 0,.sc (.slice none 0 0),.sc (.slice none 0 0),.ptr 1 0,.vl false 1 (d.nums.map (bn.val false)),.sc (.int .i64 (d.nums.length)),.sc (.int .i64 (x.1)),.sl 2 0 x.2.length 1]) (fun x=>[some (.row [.vl false 1 (d.names.map (ar.val false)),.vl false 1 (d.nums.map (bn.val false)),.vl false 1 (d.texts.map (aq.val false)),.vl false 1 (d.raw.map (cy.val false))] 0 2 77),some (.row [.sc (.int .i64 (jn t).names),.sc (.int .i64 (jn t).nums),.sc (.int .i64 (jn t).size),.sc (.int .i64 (jn t).texts),.sc (.int .i64 (jn t).raw)] 0 2 214),some (.row (x.2.map (cy.val false)) 0 0 5)]) (fun x=>x.1≤d.nums.length∧x.2++(d.nums.drop x.1).flatMap (Td t)=D7 t d) (fun x=>d.nums.length - x.1) (0,[]) ⟨Nat.zero_le _,rfl⟩ (by simp only [↓wR,RA,simprocAttr,TF];(refine me.lax [] (by first|exact Nat.le_of_ble_eq_true rfl|(simp [cx];omega)) ?_ ?_<;>repeat' first|exact iu.nil|exact dq.nil|exact jk.same _|exact jk.nil _ _ _|exact jk.wu _ _|exact dq.refl _ _|apply iu.cons|apply dq.ghost|apply dq.same|apply dq.row)) ?_
 rintro ⟨i,x⟩ ⟨hi,hx⟩
 simp only at hi hx
 simp only [↓wR,RA,simprocAttr,TF]
 rw [bj];refine ⟨fun h=>?_,fun h=>?_⟩
 ·obtain ⟨c,hc,hd1,hlt⟩:=dw (decide_eq_true h)
  rw [Ve _ hd1] at hx
  have hxl:x.length+(Td t c).length≤(D7 t d).length:=by rw [← hx];simp
  simp only [↓wR,RA,simprocAttr,TF,h,hc,Pp,Oq,U4,ak0];repeat (simp (disch:=omega) only [ah,b9,bu,bw,bz];try simp only [↓wR,RA,simprocAttr,TF,h,hc,Pp,Oq,U4,ak0])
  exact ⟨(i+1,x++Td t c),⟨hlt,by rw [List.append_assoc];exact hx⟩,by simp;omega,by (first|rfl|trivial|omega|((try (simp (disch:=omega) only [ah]));(try (simp only [FB]));first|done|rfl|omega)),by (first|rfl|trivial|omega|((try (simp (disch:=omega) only [ah]));(try (simp only [FB]));first|done|rfl|omega))⟩
 rw [dz (decide_eq_false h)] at hx
 obtain rfl:x=D7 t d:=by simpa using hx
 clear hx
 simp only [↓wR,RA,simprocAttr,TF,h]
 obtain ⟨nu,hnu⟩:∃ nu,D7 t d=nu:=⟨_,rfl⟩
 rw [hnu] at hk ⊢
 refine ma [0,3,7,38,39,40,5,6] (fun (x:Nat × List UInt8)=>[.sc (.int .u16 t.toNat),.ptr 0 0,.sc (.slice none 0 0),.vl false 1 (d.names.map (ar.val false)),.sc (.int .i64 (d.names.length)),.sc (.int .i64 (x.1)),.sl 1 0 nu.length 1,.sl 2 0 x.2.length 1]) (fun x=>[some (.row [.vl false 1 (d.names.map (ar.val false)),.vl false 1 (d.nums.map (bn.val false)),.vl false 1 (d.texts.map (aq.val false)),.vl false 1 (d.raw.map (cy.val false))] 0 2 77),some (.row (nu.map (cy.val false)) 0 0 5),some (.row (x.2.map (cy.val false)) 0 0 5)]) (fun x=>x.1≤d.names.length∧x.2++(d.names.drop x.1).flatMap y5=Dk d) (fun x=>d.names.length - x.1) (0,[]) ⟨Nat.zero_le _,rfl⟩ (by simp only [↓wR,RA,simprocAttr,TF];(refine me.lax [] (by first|exact Nat.le_of_ble_eq_true rfl|(simp [cx];omega)) ?_ ?_<;>repeat' first|exact iu.nil|exact dq.nil|exact jk.same _|exact jk.nil _ _ _|exact jk.wu _ _|exact dq.refl _ _|apply iu.cons|apply dq.ghost|apply dq.same|apply dq.row)) ?_
 clear h
 rintro ⟨i,x⟩ ⟨hi,hx⟩
 simp only at hi hx
 simp only [↓wR,RA,simprocAttr,TF]
 rw [bj];refine ⟨fun h=>?_,fun h=>?_⟩
 ·obtain ⟨c,hc,hd1,hlt⟩:=dw (decide_eq_true h)
  rw [Ve _ hd1] at hx
  have hxl:x.length+(y5 c).length≤(Dk d).length:=by rw [← hx];simp
  simp only [↓wR,RA,simprocAttr,TF,h,hc,wk,hd.name c (List.mem_of_getElem? hc)];repeat (simp (disch:=omega) only [ah,b9,bu,bw,bz];try simp only [↓wR,RA,simprocAttr,TF,h,hc,wk,hd.name c (List.mem_of_getElem? hc)])
  exact ⟨(i+1,x++y5 c),⟨hlt,by rw [List.append_assoc];exact hx⟩,by simp;omega,by (first|rfl|trivial|omega|((try (simp (disch:=omega) only [ah]));(try (simp only [FB]));first|done|rfl|omega)),by (first|rfl|trivial|omega|((try (simp (disch:=omega) only [ah]));(try (simp only [FB]));first|done|rfl|omega))⟩
 rw [dz (decide_eq_false h)] at hx
 obtain rfl:x=Dk d:=by simpa using hx
 clear hx
 simp only [↓wR,RA,simprocAttr,TF,h]
 obtain ⟨na,hna⟩:∃ na,Dk d=na:=⟨_,rfl⟩
 rw [hna] at hk ⊢
 refine ma [0,3,54,55,56,5,6,7] (fun (x:Nat × List UInt8)=>[.sc (.int .u16 t.toNat),.ptr 0 0,.vl false 1 (d.texts.map (aq.val false)),.sc (.int .i64 (d.texts.length)),.sc (.int .i64 (x.1)),.sl 1 0 nu.length 1,.sl 2 0 na.length 1,.sl 3 0 x.2.length 1]) (fun x=>[some (.row [.vl false 1 (d.names.map (ar.val false)),.vl false 1 (d.nums.map (bn.val false)),.vl false 1 (d.texts.map (aq.val false)),.vl false 1 (d.raw.map (cy.val false))] 0 2 77),some (.row (nu.map (cy.val false)) 0 0 5),some (.row (na.map (cy.val false)) 0 0 5),some (.row (x.2.map (cy.val false)) 0 0 5)]) (fun x=>x.1≤d.texts.length∧x.2++xi t x.1 (d.texts.drop x.1)=Ar t d) (fun x=>d.texts.length - x.1) (0,[]) ⟨Nat.zero_le _,rfl⟩ (by simp only [↓wR,RA,simprocAttr,TF];(refine me.lax [] (by first|exact Nat.le_of_ble_eq_true rfl|(simp [cx];omega)) ?_ ?_<;>repeat' first|exact iu.nil|exact dq.nil|exact jk.same _|exact jk.nil _ _ _|exact jk.wu _ _|exact dq.refl _ _|apply iu.cons|apply dq.ghost|apply dq.same|apply dq.row)) ?_
 clear h
 rintro ⟨i,x⟩ ⟨hi,hx⟩
 simp only at hi hx
 simp only [↓wR,RA,simprocAttr,TF]
 rw [bj];refine ⟨fun h=>?_,fun h=>?_⟩
 ·obtain ⟨c,hc,hd1,hlt⟩:=dw (decide_eq_true h)
  rw [ar8 _ hd1] at hx
  have hxl:x.length+((if (t.toNat:Int)=16∨i=0 then [UInt8.ofNat c.size] else []).length+c.size)≤(Ar t d).length:=by rw [← hx];simp
  have hcs:c.data.toList.length=c.size:=by simp
  simp only [↓wR,RA,simprocAttr,TF,h,hc];repeat (simp (disch:=omega) only [ah,b9,bu,bw,bz];try simp only [↓wR,RA,simprocAttr,TF,h,hc])
  have fin:∀ b:List UInt8,x++(b++c.data.toList++xi t (i+1) (d.texts.drop (i+1)))=Ar t d→x++b++c.data.toList++xi t (i+1) (d.texts.drop (i+1))=Ar t d:=fun b hb=>by rw [← hb];simp
  rw [cz];refine ⟨fun ⟨h16,e16⟩=>?_,fun ⟨h16,e16⟩=>?_⟩
  ·rw [if_pos (.inl e16)] at hx hxl
   simp only [List.length_cons,List.length_nil] at hxl
   simp only [↓wR,RA,simprocAttr,TF,h16];repeat (simp (disch:=omega) only [ah,b9,bu,bw,bz];try simp only [↓wR,RA,simprocAttr,TF,h16])
   exact ⟨(i+1,x++[UInt8.ofNat c.size]++c.data.toList),⟨hlt,fin _ hx⟩,by simp;omega,by (first|rfl|trivial|omega|((try (simp (disch:=omega) only [ah]));(try (simp only [FB]));first|done|rfl|omega)),by (first|rfl|trivial|omega|((try (simp (disch:=omega) only [ah]));(try (simp only [FB]));first|done|rfl|omega))⟩
  ·simp only [↓wR,RA,simprocAttr,TF,h16];repeat (simp (disch:=omega) only [ah,b9,bu,bw,bz];try simp only [↓wR,RA,simprocAttr,TF,h16])
   rw [cz];refine ⟨fun ⟨h0,e0⟩=>?_,fun ⟨h0,e0⟩=>?_⟩
   ·rw [if_pos (.inr (by omega))] at hx hxl
    simp only [List.length_cons,List.length_nil] at hxl
    simp only [↓wR,RA,simprocAttr,TF,h0];repeat (simp (disch:=omega) only [ah,b9,bu,bw,bz];try simp only [↓wR,RA,simprocAttr,TF,h0])
    exact ⟨(i+1,x++[UInt8.ofNat c.size]++c.data.toList),⟨hlt,fin _ hx⟩,by simp;omega,by (first|rfl|trivial|omega|((try (simp (disch:=omega) only [ah]));(try (simp only [FB]));first|done|rfl|omega)),by (first|rfl|trivial|omega|((try (simp (disch:=omega) only [ah]));(try (simp only [FB]));first|done|rfl|omega))⟩
   ·rw [if_neg (by omega)] at hx hxl
    simp only [List.length_nil] at hxl
    simp only [↓wR,RA,simprocAttr,TF,h0];repeat (simp (disch:=omega) only [ah,b9,bu,bw,bz];try simp only [↓wR,RA,simprocAttr,TF,h0])
    exact ⟨(i+1,x++c.data.toList),⟨hlt,by have:=fin _ hx;simpa using this⟩,by simp;omega,by (first|rfl|trivial|omega|((try (simp (disch:=omega) only [ah]));(try (simp only [FB]));first|done|rfl|omega)),by (first|rfl|trivial|omega|((try (simp (disch:=omega) only [ah]));(try (simp only [FB]));first|done|rfl|omega))⟩
 rw [dz (decide_eq_false h)] at hx
 obtain rfl:x=Ar t d:=by simpa [xi] using hx
 clear hx
 simp only [↓wR,RA,simprocAttr,TF,h];repeat (simp (disch:=omega) only [ah,b9,bu,bw,bz];try simp only [↓wR,RA,simprocAttr,TF,h])
 unfold I6
 rw [hnu,hna]
 rw [cz];refine ⟨fun ⟨h6,e6⟩=>?_,fun ⟨h6,e6⟩=>?_⟩
 ·rw [if_pos e6]
  simp only [↓wR,RA,simprocAttr,TF,h6];repeat (simp (disch:=omega) only [ah,b9,bu,bw,bz];try simp only [↓wR,RA,simprocAttr,TF,h6])
 ·rw [if_neg e6]
  have hcat:nu.length+(na.length+((Ar t d).length+d.raw.length))≤134217728:=by omega
  simp only [↓wR,RA,simprocAttr,TF,h6,Bs,hcat];repeat (simp (disch:=omega) only [ah,b9,bu,bw,bz];try simp only [↓wR,RA,simprocAttr,TF,h6,Bs,hcat])
  rw [← List.map_append,← List.map_append,← List.map_append]
  exact rtT (cp cy) _ _
noncomputable def wm (x:UInt16 × db × Unit):Option AV:=if eb x.2.1 then some ((r1 (cp cy)).E true (I6 x.1 x.2.1)) else none
set_option maxRecDepth 2000000 in
theorem Hj (x:UInt16 × db × Unit) (r:AV) (h:wm x=some r):be PP 161 ((aC cw (aC cf a0)).E x) r:=by
 by_cases hc:eb x.2.1
 case neg=>simp only [wm,if_neg hc] at h;cases h
 simp only [wm,if_pos hc] at h
 cases h
 exact bb (ak.cons (ai F2) (ak.cons (ai ajh) (ak.cons (ai Vt) (ak.cons (ai afl) (ak.nil PP))))) Tryz.func161 (by kernel_rfl) (by kernel_rfl) (by kernel_rfl) (Nat.le_of_ble_eq_true (by kernel_rfl)) (r1 (cp cy)) true (I6 x.1 x.2.1) (av1 x.1 x.2.1 hc)
noncomputable abbrev W0:Nat × Bool × (List AV→M AV):=(161,true,dc (aC cw (aC cf a0)) wm)
theorem aip (d:db) (hd:eb d):wl PP [ahh,ah6,ak2,o9] 0 (Tryz.f76.body.getD .skip) (dp PP Tryz.f76.results.toList (fun r st=>(r1 cf).get true st.h r=some d)) (ca 0 [cf.val false d]) (br []):=by
 have hl:=hd.lens
 have l2:=hl.2.1
 have l3:=hl.2.2.1
 have l4:=hl.2.2.2
 unfold Tryz.f76
 simp only [nq,dm]
 simp only [↓wR,RA,simprocAttr,TF]
 refine ⟨by kernel_rfl,.inl ?_⟩
 simp only [↓wR,RA,simprocAttr,TF,zt,zw,B6,l2,l3,l4]
 refine ⟨by kernel_rfl,?_⟩
 refine ma [2,17,18,19,3] (fun (x:List Name)=>[.ptr 0 0,.vl false 1 (d.names.map (ar.val false)),.sc (.int .i64 (d.names.length)),.sc (.int .i64 (x.length)),.ptr 1 0]) (fun x=>[some (.row [.sc (.slice none 0 0),.sc (.slice none 0 0),.sc (.slice none 0 0),.sc (.slice none 0 0)] 0 2 77),some (.row [.sl 2 0 x.length 1,.vl true 1 (d.nums.map (bn.val false)),.vl true 1 (d.texts.map (aq.val false)),.vl true 1 (d.raw.map (cy.val false))] 0 2 77),some (.row (x.map (ar.val true)) 0 0 23)]) (fun x=>x.length≤d.names.length∧x++d.names.drop x.length=d.names) (fun x=>d.names.length - x.length) [] ⟨Nat.zero_le _,rfl⟩ (by simp only [↓wR,RA,simprocAttr,TF];(refine me.lax [] (by first|exact Nat.le_of_ble_eq_true rfl|(simp [cx];omega)) ?_ ?_<;>repeat' first|exact iu.nil|exact dq.nil|exact jk.same _|exact jk.nil _ _ _|exact jk.wu _ _|exact dq.refl _ _|apply iu.cons|apply dq.ghost|apply dq.same|apply dq.row)) ?_
 rintro x ⟨hi,hx⟩
 simp only [↓wR,RA,simprocAttr,TF]
 rw [bj];refine ⟨fun h=>?_,fun h=>?_⟩
 ·obtain ⟨c,hc,hd1,hlt⟩:=dw (decide_eq_true h)
  rw [hd1] at hx
  have hlim:(x.length+1) * 24≤140737488355328:=by omega
  simp only [↓wR,RA,simprocAttr,TF,h,hc]
  refine ⟨by kernel_rfl,.inl ?_⟩
  simp only [↓wR,RA,simprocAttr,TF,gu,hd.name c (List.mem_of_getElem? hc),hlim]
  refine ⟨by kernel_rfl,?_⟩
  exact ⟨x++[c],⟨by simp;omega,by simpa using hx⟩,by simp;omega,by (first|rfl|trivial|omega|((try (simp (disch:=omega) only [ah]));(try (simp only [FB]));first|done|rfl|omega)),by (first|rfl|trivial|omega|((try (simp (disch:=omega) only [ah]));(try (simp only [FB]));first|done|rfl|omega))⟩
 ·rw [dz (decide_eq_false h)] at hx
  rw [List.append_nil] at hx
  subst hx
  simp only [↓wR,RA,simprocAttr,TF,h]
noncomputable def Db (x:db × Unit):Option AV:=if eb x.1 then some ((r1 cf).E true (x.1)) else none
set_option maxRecDepth 2000000 in
theorem abo (x:db × Unit) (r:AV) (h:Db x=some r):be PP 76 ((aC cf a0).E x) r:=by
 by_cases hc:eb x.1
 case neg=>simp only [Db,if_neg hc] at h;cases h
 simp only [Db,if_pos hc] at h
 cases h
 exact bb (ak.cons (ai Ll) (ak.cons (ai Lu) (ak.cons (ai Ol) (ak.cons (ai j8) (ak.nil PP))))) Tryz.func76 (by kernel_rfl) (by kernel_rfl) (by kernel_rfl) (Nat.le_of_ble_eq_true (by kernel_rfl)) (r1 cf) true (x.1) (aip x.1 hc)
noncomputable abbrev au2:Nat × Bool × (List AV→M AV):=(76,true,dc (aC cf a0) Db)
def ru {α:Type} (f : α → α) (l:List α) (i:Nat):List α:=(l.take i).map f++l.drop i
theorem al6 {α:Type} (f : α → α) (l:List α) (i:Nat):(ru f l i).length=l.length:=by simp [ru];omega
theorem ao5 {α:Type} (f : α → α) {l:List α} {i:Nat} {c : α} (h:l[i]? = some c):(ru f l i)[i]? = some c:=by
 obtain ⟨hi,rfl⟩:=List.getElem?_eq_some_iff.1 h
 have hl:((l.take i).map f).length=i:=by simp;omega
 rw [ru,List.getElem?_append_right (by omega),hl,Nat.sub_self,List.getElem?_drop];simp [h]
theorem ant {α:Type} (f : α → α) {l:List α} {i:Nat} {c : α} (h:l[i]? = some c):(ru f l i).take i++[f c]++(ru f l i).drop (i+1)=ru f l (i+1):=by
 obtain ⟨hi,rfl⟩:=List.getElem?_eq_some_iff.1 h
 have h1:((l.take i).map f).length=i:=by simp;omega
 have h2:(ru f l i).take i=(l.take i).map f:=by rw [ru,List.take_append_of_le_length (by omega),List.take_of_length_le (by omega)]
 have h3:(ru f l i).drop (i+1)=l.drop (i+1):=by
  rw [ru,List.drop_append,List.drop_eq_nil_of_le (by omega),h1]
  simp
 rw [h2,h3,ru,List.take_succ_eq_append_getElem hi,List.map_append]
 rfl
theorem anu {α:Type} (f : α → α) (l:List α):ru f l l.length=l.map f:=by simp [ru]
noncomputable def w7 (t:UInt16) (d:db):db:=if 0<(jn t).names then { d with names:=d.names.map g8 } else d
theorem aiu (t:UInt16) (d:db) (hd:eb d):wl PP [X6,avk] 0 (Tryz.f176.body.getD .skip) (dp PP Tryz.f176.results.toList (fun r st=>(r1 cf).get true st.h r=some (w7 t d))) (ca 0 [cw.val false t,cf.val false d]) (br []):=by
 have hl:=hd.lens
 have l2:=hl.2.1
 have l3:=hl.2.2.1
 have l4:=hl.2.2.2
 unfold Tryz.f176
 simp only [nq,dm]
 simp only [↓wR,RA,simprocAttr,TF]
 refine bo (T:=[ahh,ah6,ak2,o9]) (ak.cons (ai Ll) (ak.cons (ai Lu) (ak.cons (ai Ol) (ak.cons (ai j8) (ak.nil PP))))) mixed Tryz.func76 rfl (by kernel_rfl) (by kernel_rfl) (by kernel_rfl) (by kernel_rfl) ?_;unfold Tryz.f76
 simp only [↓wR,RA,simprocAttr,TF]
 refine ⟨by kernel_rfl,.inl ?_⟩
 simp only [↓wR,RA,simprocAttr,TF,zt,zw,B6,l2,l3,l4]
 refine ⟨by kernel_rfl,?_⟩
 refine ma [2,17,18,19,3] (fun (x:List Name)=>[.ptr 2 0,.vl false 1 (d.names.map (ar.val false)),.sc (.int .i64 (d.names.length)),.sc (.int .i64 (x.length)),.ptr 3 0]) (fun x=>[some (.row [.vl false 1 (d.names.map (ar.val false)),.vl false 1 (d.nums.map (bn.val false)),.vl false 1 (d.texts.map (aq.val false)),.vl false 1 (d.raw.map (cy.val false))] 0 2 77),some (.row [.sc (.slice none 0 0),.sc (.slice none 0 0),.sc (.slice none 0 0),.sc (.slice none 0 0)] 0 2 77),some (.row [.sc (.slice none 0 0),.sc (.slice none 0 0),.sc (.slice none 0 0),.sc (.slice none 0 0)] 0 2 77),some (.row [.sl 4 0 x.length 1,.vl true 1 (d.nums.map (bn.val false)),.vl true 1 (d.texts.map (aq.val false)),.vl true 1 (d.raw.map (cy.val false))] 0 2 77),some (.row (x.map (ar.val true)) 0 0 23)]) (fun x=>x.length≤d.names.length∧x++d.names.drop x.length=d.names) (fun x=>d.names.length - x.length) [] ⟨Nat.zero_le _,rfl⟩ (by simp only [↓wR,RA,simprocAttr,TF];(refine me.lax [] (by first|exact Nat.le_of_ble_eq_true rfl|(simp [cx];omega)) ?_ ?_<;>repeat' first|exact iu.nil|exact dq.nil|exact jk.same _|exact jk.nil _ _ _|exact jk.wu _ _|exact dq.refl _ _|apply iu.cons|apply dq.ghost|apply dq.same|apply dq.row)) ?_
 rintro x ⟨hi,hx⟩
 simp only [↓wR,RA,simprocAttr,TF]
 rw [bj];refine ⟨fun h=>?_,fun h=>?_⟩
 ·obtain ⟨c,hc,hd1,hlt⟩:=dw (decide_eq_true h)
  rw [hd1] at hx
  have hlim:(x.length+1) * 24≤140737488355328:=by omega
  simp only [↓wR,RA,simprocAttr,TF,h,hc]
  refine ⟨by kernel_rfl,.inl ?_⟩
  simp only [↓wR,RA,simprocAttr,TF,gu,hd.name c (List.mem_of_getElem? hc),hlim]
  refine ⟨by kernel_rfl,?_⟩
  exact ⟨x++[c],⟨by simp;omega,by simpa using hx⟩,by simp;omega,by (first|rfl|trivial|omega|((try (simp (disch:=omega) only [ah]));(try (simp only [FB]));first|done|rfl|omega)),by (first|rfl|trivial|omega|((try (simp (disch:=omega) only [ah]));(try (simp only [FB]));first|done|rfl|omega))⟩
 rw [dz (decide_eq_false h)] at hx
 rw [List.append_nil] at hx
 subst hx
 simp only [↓wR,RA,simprocAttr,TF,h,Gf,Gl]
 unfold w7
 clear hi h
 rw [bj];refine ⟨fun h0=>?_,fun h0=>?_⟩
 ·rw [if_pos h0]
  simp only [↓wR,RA,simprocAttr,TF,h0]
  refine dh [4,5,15,16,17] (fun (i:Nat)=>[.ptr 0 0,.ptr 1 0,.sl 2 0 d.names.length 1,.sc (.int .i64 (d.names.length)),.sc (.int .i64 (i))]) (fun i=>[some (.row [.sc (.slice none 0 0),.sc (.slice none 0 0),.sc (.slice none 0 0),.sc (.slice none 0 0)] 0 2 77),some (.row [.sl 2 0 d.names.length 1,.vl true 1 (d.nums.map (bn.val false)),.vl true 1 (d.texts.map (aq.val false)),.vl true 1 (d.raw.map (cy.val false))] 0 2 77),some (.row ((ru g8 d.names i).map (ar.val true)) 0 0 23)]) (fun i=>i≤d.names.length) (fun i=>d.names.length - i) 0 (Nat.zero_le _) (by simp only [↓wR,RA,simprocAttr,TF]<;>rfl) (by simp only [↓wR,RA,simprocAttr,TF]<;>rfl) ?_
  intro i hi
  simp only [↓wR,RA,simprocAttr,TF]
  rw [bj];refine ⟨fun h=>?_,fun h=>?_⟩
  ·obtain ⟨c,hc,hd1,hlt⟩:=dw (decide_eq_true h)
   have hs:=ao5 g8 hc
   have hlen:=al6 g8 d.names i
   have hlt':i+1≤d.names.length:=hlt
   simp only [↓wR,RA,simprocAttr,TF,h,hs,hlt]
   refine ⟨by kernel_rfl,.inl ?_⟩
   simp only [↓wR,RA,simprocAttr,TF,h,hlt,hlt',hlen,C8,hd.name c (List.mem_of_getElem? hc)]
   refine ⟨by kernel_rfl,i+1,hlt,by omega,by (first|rfl|trivial|omega|((try (simp (disch:=omega) only [ah]));(try (simp only [FB]));first|done|rfl|omega)),?_⟩
   rw [← ant g8 hc];simp only [List.map_append,List.map_cons,List.map_nil]
  ·have hin:i=d.names.length:=by omega
   subst hin
   rw [anu]
   have hml:(d.names.map g8).length=d.names.length:=List.length_map _
   generalize d.names.map g8=m at hml ⊢
   simp only [↓wR,RA,simprocAttr,TF,h,hml]
   rfl
 ·rw [if_neg h0]
  simp only [↓wR,RA,simprocAttr,TF,h0]
noncomputable def Dn (x:UInt16 × db × Unit):Option AV:=if eb x.2.1 then some ((r1 cf).E true (w7 x.1 x.2.1)) else none
set_option maxRecDepth 2000000 in
theorem abf (x:UInt16 × db × Unit) (r:AV) (h:Dn x=some r):be PP 176 ((aC cw (aC cf a0)).E x) r:=by
 by_cases hc:eb x.2.1
 case neg=>simp only [Dn,if_neg hc] at h;cases h
 simp only [Dn,if_pos hc] at h
 cases h
 exact bb (ak.cons (ai F2) (ak.cons (ai abr) (ak.nil PP))) Tryz.func176 (by kernel_rfl) (by kernel_rfl) (by kernel_rfl) (Nat.le_of_ble_eq_true (by kernel_rfl)) (r1 cf) true (w7 x.1 x.2.1) (aiu x.1 x.2.1 hc)
noncomputable abbrev av8:Nat × Bool × (List AV→M AV):=(176,true,dc (aC cw (aC cf a0)) Dn)
def uv:List Name→Int
 | []=>0
 |n::r=>if cg n≠0 then cg n else uv r
noncomputable def fl (t:UInt16) (d:db):Int:=
 if I8 t=true then 6 else if Ah (jn t) t d=false then 7 else if uv d.names≠0 then uv d.names else if 65535<(I6 t d).length then 3 else 0
theorem ajc {l:List Name} {i:Nat} {c:Name} (h:l.drop i=c::l.drop (i+1)):uv (l.drop i)=if cg c≠0 then cg c else uv (l.drop (i+1)):=by rw [h];rfl
theorem ag3 (t:UInt16) (d:db) (hd:eb d):wl PP [aAb,X6,aD2,ek,W0] 0 (Tryz.f141.body.getD .skip) (dp PP Tryz.f141.results.toList (fun r st=>(r1 (au .i64)).get true st.h r=some (fl t d))) (ca 0 [cw.val false t,cf.val false d]) (br []):=by
 have hs:=Wz t
 have hl:=hd.lens
 unfold Tryz.f141
 simp only [nq,dm]
 simp only [↓wR,RA,simprocAttr,TF,Xy]
 unfold fl
 rw [bm];refine ⟨fun hb=>?_,fun hb=>?_⟩
 ·rw [if_pos hb]
  simp only [↓wR,RA,simprocAttr,TF,hb]
 rw [if_neg (by rw [hb];decide)]
 simp only [↓wR,RA,simprocAttr,TF,hb]
 refine ⟨by kernel_rfl,.inl ?_⟩
 simp only [↓wR,RA,simprocAttr,TF,Gf,N8,hs,hd]
 refine ⟨by kernel_rfl,?_⟩
 rw [bm];refine ⟨fun hf=>?_,fun hf=>?_⟩
 ·rw [if_pos (by simpa using hf)]
  simp only [↓wR,RA,simprocAttr,TF,hf]
 have hf':Ah (jn t) t d=true:=by simpa using hf
 rw [if_neg (by rw [hf'];decide)]
 simp only [↓wR,RA,simprocAttr,TF,hf]
 refine dh [0,3,17,18,19] (fun (i:Nat)=>[.sc (.int .u16 t.toNat),.ptr 0 0,.vl false 1 (d.names.map (ar.val false)),.sc (.int .i64 (d.names.length)),.sc (.int .i64 (i))]) (fun _=>[some (.row [.vl false 1 (d.names.map (ar.val false)),.vl false 1 (d.nums.map (bn.val false)),.vl false 1 (d.texts.map (aq.val false)),.vl false 1 (d.raw.map (cy.val false))] 0 2 77)]) (fun i=>i≤d.names.length∧uv d.names=uv (d.names.drop i)) (fun i=>d.names.length - i) 0 ⟨Nat.zero_le _,rfl⟩ (by simp only [↓wR,RA,simprocAttr,TF]<;>rfl) (by simp only [↓wR,RA,simprocAttr,TF]<;>rfl) ?_
 rintro i ⟨hi,hx⟩
 simp only [↓wR,RA,simprocAttr,TF]
 rw [bj];refine ⟨fun h=>?_,fun h=>?_⟩
 ·obtain ⟨c,hc,hd1,hlt⟩:=dw (decide_eq_true h)
  rw [ajc hd1] at hx
  simp only [↓wR,RA,simprocAttr,TF,h,hc,mw,(hd.name c (List.mem_of_getElem? hc)).fit]
  rw [bm];refine ⟨fun h1=>?_,fun h1=>?_⟩
  ·have he:cg c≠0:=by simpa using h1
   rw [if_pos he] at hx
   rw [if_pos (by rw [hx];exact he),hx]
   simp only [↓wR,RA,simprocAttr,TF,h1]
  ·have he:cg c=0:=by simpa using h1
   rw [if_neg (by omega)] at hx
   simp only [↓wR,RA,simprocAttr,TF,h1];repeat (simp (disch:=omega) only [ah,b9,bu,bw,bz];try simp only [↓wR,RA,simprocAttr,TF,h1])
   exact ⟨i+1,⟨hlt,hx⟩,by omega,by (first|rfl|trivial|omega|((try (simp (disch:=omega) only [ah]));(try (simp only [FB]));first|done|rfl|omega))⟩
 rw [dz (decide_eq_false h)] at hx
 rw [if_neg (by rw [hx];decide)]
 simp only [↓wR,RA,simprocAttr,TF,h,wm,hd]
 rw [bj];refine ⟨fun h2=>?_,fun h2=>?_⟩
 ·rw [if_pos (by omega)]
  simp only [↓wR,RA,simprocAttr,TF,h2]
 ·rw [if_neg (by omega)]
  simp only [↓wR,RA,simprocAttr,TF,h2]
noncomputable def so (x:UInt16 × db × Unit):Option AV:=if eb x.2.1 then some ((r1 (au .i64)).E true (fl x.1 x.2.1)) else none
set_option maxRecDepth 2000000 in
theorem Ci (x:UInt16 × db × Unit) (r:AV) (h:so x=some r):be PP 141 ((aC cw (aC cf a0)).E x) r:=by
 by_cases hc:eb x.2.1
 case neg=>simp only [so,if_neg hc] at h;cases h
 simp only [so,if_pos hc] at h
 cases h
 exact bb (ak.cons (ai ah7) (ak.cons (ai F2) (ak.cons (ai aos) (ak.cons (ai ld) (ak.cons (ai Hj) (ak.nil PP)))))) Tryz.func141 (by kernel_rfl) (by kernel_rfl) (by kernel_rfl) (Nat.le_of_ble_eq_true (by kernel_rfl)) (r1 (au .i64)) true (fl x.1 x.2.1) (ag3 x.1 x.2.1 hc)
noncomputable abbrev M5:Nat × Bool × (List AV→M AV):=(141,true,dc (aC cw (aC cf a0)) so)
noncomputable def Im (t:UInt16) (d:db):List UInt8:=if fl t d≠0 then [] else I6 t d
theorem adj (t:UInt16) (d:db) (hd:eb d):wl PP [M5,W0] 0 (Tryz.f175.body.getD .skip) (dp PP Tryz.f175.results.toList (fun r st=>(r2 (cp cy) (au .i64)).get true st.h r=some (Im t d,fl t d))) (ca 0 [cw.val false t,cf.val false d]) (br []):=by
 unfold Tryz.f175
 simp only [nq,dm]
 simp only [↓wR,RA,simprocAttr,TF,so,hd]
 unfold Im
 rw [bm];refine ⟨fun h=>?_,fun h=>?_⟩
 ·have he:fl t d≠0:=by simpa using h
  rw [if_pos he]
  simp only [↓wR,RA,simprocAttr,TF,h]
 ·have he:fl t d=0:=by simpa using h
  rw [if_neg (by omega)]
  simp only [↓wR,RA,simprocAttr,TF,h,wm,hd,he]
noncomputable def Ai (x:UInt16 × db × Unit):Option AV:=if eb x.2.1 then some ((r2 (cp cy) (au .i64)).E true ((Im x.1 x.2.1,fl x.1 x.2.1))) else none
set_option maxRecDepth 2000000 in
theorem X5 (x:UInt16 × db × Unit) (r:AV) (h:Ai x=some r):be PP 175 ((aC cw (aC cf a0)).E x) r:=by
 by_cases hc:eb x.2.1
 case neg=>simp only [Ai,if_neg hc] at h;cases h
 simp only [Ai,if_pos hc] at h
 cases h
 exact bb (ak.cons (ai Ci) (ak.cons (ai Hj) (ak.nil PP))) Tryz.func175 (by kernel_rfl) (by kernel_rfl) (by kernel_rfl) (Nat.le_of_ble_eq_true (by kernel_rfl)) (r2 (cp cy) (au .i64)) true ((Im x.1 x.2.1,fl x.1 x.2.1)) (adj x.1 x.2.1 hc)
noncomputable abbrev aph:Nat × Bool × (List AV→M AV):=(175,true,dc (aC cw (aC cf a0)) Ai)
theorem asv (args:List AV):Cw PP 191 args (Cx.fk args):=
 Cx.i6 (fn:=(PP.funcs[191]?).getD default) (by kernel_rfl) (by kernel_rfl) (by kernel_rfl) (by kernel_rfl) (by kernel_rfl) args
noncomputable abbrev aCl:Nat × Bool × (List AV→M AV):=(191,true,Cx.fk)
theorem azk:ak PP [aCl]:=ak.cons asv (ak.nil PP)
noncomputable def Tg (a b:List UInt8):Int:=Lib.compareBytes a b
theorem Vr (a b:List UInt8):wl PP [aCl] 0 (Tryz.f177.body.getD .skip) (dp PP Tryz.f177.results.toList (fun r st=>(r1 (au .i64)).get true st.h r=some (Tg a b))) (ca 0 [(cp cy).val false a,(cp cy).val false b]) (br []):=by
 unfold Tryz.f177
 simp only [qe]
 simp only [↓wR,RA,simprocAttr,TF,Tg]
noncomputable def y6 (x:List UInt8 × List UInt8 × Unit):Option AV:=some ((r1 (au .i64)).E true (Tg x.1 x.2.1))
theorem Qi (x:List UInt8 × List UInt8 × Unit) (r:AV) (h:y6 x=some r):be PP 177 ((aC (cp cy) (aC (cp cy) a0)).E x) r:=by
 cases h
 exact bb azk Tryz.func177 (by kernel_rfl) (by kernel_rfl) (by kernel_rfl) (Nat.le_of_ble_eq_true (by kernel_rfl)) (r1 (au .i64)) true (Tg x.1 x.2.1) (Vr x.1 x.2.1)
noncomputable abbrev aeb:Nat × Bool × (List AV→M AV):=(177,true,dc (aC (cp cy) (aC (cp cy) a0)) y6)
theorem atk (s:ByteArray):(fold s).size=s.size:=by
 show (s.data.toList.map low).toArray.size=s.data.size
 simp
theorem Xt (n:Name):bt (g8 n)=bt n:=by
 unfold bt g8
 rw [List.foldl_map]
 simp only [atk]
theorem aqc (l:List Name):fu bt (l.map g8)=fu bt l:=by
 induction l with
 |nil=>rfl
 |cons a l ih=>simp only [fu,List.map_cons,List.foldr_cons,Xt] at ih ⊢;rw [ih]
theorem eb.fold {d:db} (h:eb d) (t:UInt16):eb (w7 t d):=by
 unfold w7
 split
 ·unfold eb uh at *
  simp only [aqc];exact h
 ·exact h
noncomputable def Ox (t:UInt16) (a b:db):Int:=if fl t (w7 t a)≠0∨fl t (w7 t b)≠0 then 0 else Tg (Im t (w7 t a)) (Im t (w7 t b))
noncomputable def G6 (t:UInt16) (a b:db):Bool:=decide (fl t a=0) && decide (fl t b=0) && decide (Ox t a b=0)
theorem X7 (t:UInt16) (a b:db) (ha:eb a) (hb:eb b):wl PP [av8,aph,aeb] 0 (Tryz.f153.body.getD .skip) (dp PP Tryz.f153.results.toList (fun r st=>(r1 (au .i64)).get true st.h r=some (Ox t a b))) (ca 0 [cw.val false t,cf.val false a,cf.val false b]) (br []):=by
 have fa:=ha.fold t
 have fb:=hb.fold t
 unfold Tryz.f153
 simp only [nq,dm]
 simp only [↓wR,RA,simprocAttr,TF,Dn,Ai,y6,ha,hb,fa,fb]
 unfold Ox
 rw [bm];refine ⟨fun h=>?_,fun h=>?_⟩
 ·have he:fl t (w7 t a)≠0:=by simpa using h
  rw [if_pos (.inl he)]
  simp only [↓wR,RA,simprocAttr,TF,h]
 have he:fl t (w7 t a)=0:=by simpa using h
 simp only [↓wR,RA,simprocAttr,TF,h]
 rw [bm];refine ⟨fun h2=>?_,fun h2=>?_⟩
 ·have he2:fl t (w7 t b)≠0:=by simpa using h2
  rw [if_pos (.inr he2)]
  simp only [↓wR,RA,simprocAttr,TF,h2]
 ·have he2:fl t (w7 t b)=0:=by simpa using h2
  rw [if_neg (by omega)]
  simp only [↓wR,RA,simprocAttr,TF,h2,y6]
noncomputable def oa (x:UInt16 × db × db × Unit):Option AV:=if eb x.2.1∧eb x.2.2.1 then some ((r1 (au .i64)).E true (Ox x.1 x.2.1 x.2.2.1)) else none
set_option maxRecDepth 2000000 in
theorem F0 (x:UInt16 × db × db × Unit) (r:AV) (h:oa x=some r):be PP 153 ((aC cw (aC cf (aC cf a0))).E x) r:=by
 by_cases hc:eb x.2.1∧eb x.2.2.1
 case neg=>simp only [oa,if_neg hc] at h;cases h
 simp only [oa,if_pos hc] at h
 cases h
 exact bb (ak.cons (ai abf) (ak.cons (ai X5) (ak.cons (ai Qi) (ak.nil PP)))) Tryz.func153 (by kernel_rfl) (by kernel_rfl) (by kernel_rfl) (Nat.le_of_ble_eq_true (by kernel_rfl)) (r1 (au .i64)) true (Ox x.1 x.2.1 x.2.2.1) (X7 x.1 x.2.1 x.2.2.1 hc.1 hc.2)
noncomputable abbrev H6:Nat × Bool × (List AV→M AV):=(153,true,dc (aC cw (aC cf (aC cf a0))) oa)
theorem ajg (t:UInt16) (a b:db) (ha:eb a) (hb:eb b):wl PP [M5,H6] 0 (Tryz.f150.body.getD .skip) (dp PP Tryz.f150.results.toList (fun r st=>(r1 bp).get true st.h r=some (G6 t a b))) (ca 0 [cw.val false t,cf.val false a,cf.val false b]) (br []):=by
 unfold Tryz.f150
 simp only [nq,dm]
 simp only [↓wR,RA,simprocAttr,TF,so,ha,hb]
 unfold G6
 rw [cz];refine ⟨fun ⟨h,e⟩=>?_,fun ⟨h,e⟩=>?_⟩
 ·rw [decide_eq_true e]
  simp only [↓wR,RA,simprocAttr,TF,h,so,ha,hb]
  rw [cz];refine ⟨fun ⟨h2,e2⟩=>?_,fun ⟨h2,e2⟩=>?_⟩
  ·rw [decide_eq_true e2]
   simp only [↓wR,RA,simprocAttr,TF,h2,oa,ha,hb]
   rfl
  ·rw [decide_eq_false e2]
   simp only [↓wR,RA,simprocAttr,TF,h2]
   rfl
 ·rw [decide_eq_false e]
  simp only [↓wR,RA,simprocAttr,TF,h]
  rfl
noncomputable def C7 (x:UInt16 × db × db × Unit):Option AV:=if eb x.2.1∧eb x.2.2.1 then some ((r1 bp).E true (G6 x.1 x.2.1 x.2.2.1)) else none
set_option maxRecDepth 2000000 in
theorem ab6 (x:UInt16 × db × db × Unit) (r:AV) (h:C7 x=some r):be PP 150 ((aC cw (aC cf (aC cf a0))).E x) r:=by
 by_cases hc:eb x.2.1∧eb x.2.2.1
 case neg=>simp only [C7,if_neg hc] at h;cases h
 simp only [C7,if_pos hc] at h
 cases h
 exact bb (ak.cons (ai Ci) (ak.cons (ai F0) (ak.nil PP))) Tryz.func150 (by kernel_rfl) (by kernel_rfl) (by kernel_rfl) (Nat.le_of_ble_eq_true (by kernel_rfl)) (r1 bp) true (G6 x.1 x.2.1 x.2.2.1) (ajg x.1 x.2.1 x.2.2.1 hc.1 hc.2)
noncomputable abbrev avz:Nat × Bool × (List AV→M AV):=(150,true,dc (aC cw (aC cf (aC cf a0))) C7)
end Go.Proofs.YtajammoepjpiiaaGreat
end
section
set_option maxRecDepth 100000
namespace Go.Vm
noncomputable section
theorem Pz {α:Type} (C:de α) (fr:Bool) (h:Tr bf) (l:List AV) (ha:C.agg=true):C.dec fr h l=C.fp fr h (.agg l):=by
 rw [r9 _ _ _ _ rfl (by rw [ha];rfl)];rfl
theorem Ts {α β:Type} (A:de α) (B:de β) (fr:Bool) (h:Tr bf) (l:List AV):(i7 A B).dec fr h l=match A.dec fr h (l.take A.sz),B.dec fr h (l.drop A.sz) with|some x,some y=>some (x,y)|_,_=>none:=rfl
theorem Le {α:Type} (C:de α) (fr h) (x:AV):(cp C).dec fr h [x]=ew C fr h x:=rfl
theorem Kn (fr h) (x:AV):ar.dec fr h [x]=ew aq fr h x:=rfl
theorem Uq {P:Program} {T:ee} {l:Nat} {az:Nat} {L:SL} {st:St} {Q:QI} {ps:List Tmp} {ra rb:Code} {L0:SL} {α:Type} {b:Code} (keep:List Nat) (V : α→List AV) (O : α→List (Option bf)) (I : α→Prop) (μ : α→Nat) (x : α) (hx:I x)
 (hv:me az (ki az keep L st) (gy az keep L st) (V x) (O x))
 (step:∀ x,I x→n6 P T l (gi ps (fun p=>wl P T p ra) (fun p=>wl P T p rb) L0) az b (vk (yf az keep (fun vs os=>∃ y,I y ∧ μ y < μ x∧vs=V y∧os=O y) (fun _ _ _=>False)) Q) none (nm keep (V x)) (br (O x))):n6 P T l (gi ps (fun p=>wl P T p ra) (fun p=>wl P T p rb) L0) az (.loop b) Q none L st:=by
 have mono:∀ (Q1 Q2:QL),(∀ e L st,Q1 e L st→Q2 e L st)→∀ L st,n6 P T l (gi ps (fun p=>wl P T p ra) (fun p=>wl P T p rb) L0) az b (vk Q1 Q) none L st→n6 P T l (gi ps (fun p=>wl P T p ra) (fun p=>wl P T p rb) L0) az b (vk Q2 Q) none L st:=fun Q1 Q2 h L st hh=>Kt (H9 P T) b _ _ (fun e pe L st q=>by
  cases e with
  |normal=>exact ⟨q.1,h _ _ _ q.2⟩
  |ret=>exact q
  |exit i=>exact q) none L st hh
 refine ⟨rfl,sx.aon (B:=fun Q' L st=>n6 P T l _ az b (vk Q' Q) none L st) keep V O I μ x hx hv mono (fun x hi=>mono _ _ (fun e L' st' hq=>?_) _ _ (step x hi))⟩
 cases e with
 |normal=>
  obtain ⟨y,h1,h2,h3,h4⟩:=hq
  refine ⟨y,h1,h2,?_⟩
  rw [h3,h4];exact .refl _ _ _
 |exit i=>exact hq.elim
 |ret=>exact hq.elim
theorem Lk (k fr h n cells kk st et) (hn:n=cells.length):og (au k) fr h 0 n (.row cells kk st et)=qv (au k) fr h cells:=yj (au k) rfl fr h n cells kk st et hn
theorem So (k fr h f) (l):qv (au k) fr h (List.map ((au k).val f) l)=some l:=by
 have e:List.map ((au k).val f) l=List.map ((au k).val true) l:=by cases f<;>rfl
 rw [e];exact Cc (au k) rfl rfl fr h true (fun _=>rfl) l
def il (n:Nat) (r:AV) (st:St):List Nat:=reach st.h ff (r.names++o8 st.h (dx 0 n)) (dx 0 n)
def jf (n:Nat) (r:AV) (st:St):AV:=r.dg (fun o=>idx (il n r st) o 0)
def iz (n:Nat) (r:AV) (st:St):St:=br (i4 st.h (fun o=>idx (il n r st) o 0) (il n r st))
theorem aj9 {g g':Gh} {st st':St} {w w':World} {r:AV} {v:Value} (hn:st.nx≤1000) (hfr:∀ o,st.nx≤o→g.inj o=none) (hs:Step g st.h w st.nx st'.nx g' st'.h w') (hok:Ok g' st'.h w') (hr:Rel g' w' r v) :
 ∃ g'',st.nx≤(iz st.nx r st').nx∧Step g st.h w st.nx (iz st.nx r st').nx g'' (iz st.nx r st').h w'∧Ok g'' (iz st.nx r st').h w'∧Rel g'' w' (jf st.nx r st') v:=by
 have hN:=zv st'.h ff (r.names++o8 st'.h (dx 0 st.nx)) (dx 0 st.nx) (rz _ _)
 change (il st.nx r st').Nodup∧(∃ q,il st.nx r st'=dx 0 st.nx++q)∧(il st.nx r st').length≤_ at hN
 have hτ:∀ o p,(fun o=>idx (il st.nx r st') o 0) o=some p→(il st.nx r st')[p]? = some o:=fun o p h=>Ez _ o p h
 unfold iz jf
 generalize il st.nx r st'=N at hN hτ
 obtain ⟨hnd,⟨rest,hpre⟩,hlen⟩:=hN
 rw [jj] at hlen
 have hlim:N.length≤cx:=by simp only [ff,cx] at *;omega
 have c8:∀ i x,(br (i4 st'.h (fun o=>idx N o 0) N)).h.get i=some x→∃ o y,N[i]? = some o∧st'.h.get o=some y∧y.dg (fun o=>idx N o 0)=some x:=by
  intro i x hx
  simp only [br] at hx
  rw [um _ _ _ (by rw [ij];omega),if_pos (Nat.zero_le _),Nat.sub_zero,u9] at hx
  cases hi:N[i]? with
  |none=>rw [hi] at hx;cases hx
  |some o=>
   rw [hi] at hx
   simp only [Option.map_some,Option.join_some] at hx
   cases hy:st'.h.get o with
   |none=>rw [hy] at hx;cases hx
   |some y=>rw [hy] at hx;exact ⟨o,y,rfl,hy,hx⟩
 have hinj:∀ i o,N[i]? = some o→(g'.dg N).inj i=g'.inj o:=fun i o h=>by simp [Gh.dg,h]
 have hlow:∀ o,o<st.nx→N[o]? = some o:=fun o ho=>by rw [hpre,List.getElem?_append_left (by rw [jj];exact ho),Ec _ _ _ ho,Nat.zero_add]
 have hnx:(br (i4 st'.h (fun o=>idx N o 0) N)).nx=N.length:=by simp only [br,ij]
 have hle:st.nx≤N.length:=by rw [hpre,List.length_append,jj];omega
 rw [hnx]
 refine ⟨g'.dg N,hle,⟨⟨hs.ext.b0,fun o p ho=>?_,hs.ext.K,hs.ext.cell,hs.ext.Be,hs.ext.lp⟩,hs.size,hs.os,hs.tape,hs.output,hs.frame,fun o ho hr=>?_,fun i b base hi hj=>?_,hs.pz⟩,⟨hok.size,fun i x hx=>?_,fun i j x y b base base' hij hx hy hb hb'=>?_,hok.K⟩,hr.dg hτ⟩
 ·have hlt:o<st.nx:=by
   rcases Nat.lt_or_ge o st.nx with h|h
   ·exact h
   ·rw [hfr o h] at ho;cases ho
  rw [hinj o o (hlow o hlt)];exact hs.ext.inj o p ho
 ·rcases Nat.lt_or_ge o st.nx with h|h
  ·rw [hinj o o (hlow o h)];exact hs.fresh o ho (by omega)
  ·simp [Gh.dg,List.getElem?_eq_none (show N.length≤o by omega)]
 ·obtain ⟨x,hx⟩:=Option.isSome_iff_exists.1 hi
  obtain ⟨o,y,h1,h2,_⟩:=c8 i x hx
  rw [hinj i o h1] at hj
  exact hs.own o b base (by rw [h2];rfl) hj
 ·obtain ⟨o,y,h1,h2,h3⟩:=c8 i x hx
  refine (hok.nn o y h2).imp (fun q=>⟨by rw [hinj i o h1];exact q.1,by obtain ⟨s0,e0,rfl⟩:=q.2;simp only [bf.dg,AV.dg.go,Option.some.injEq] at h3;exact ⟨s0,e0,h3.symm⟩⟩) ?_
  rintro ⟨b,base,q1,q2,q3⟩
  exact ⟨b,base,by rw [hinj i o h1];exact q1,q2,q3.dg hτ h3⟩
 ·obtain ⟨o,y1,h1,h2,_⟩:=c8 i x hx
  obtain ⟨o',y2,h1',h2',_⟩:=c8 j y hy
  rw [hinj i o h1] at hb
  rw [hinj j o' h1'] at hb'
  have hne:o≠o':=by
   intro e
   subst e
   obtain ⟨hi,ei⟩:=List.getElem?_eq_some_iff.1 h1
   obtain ⟨hj,ej⟩:=List.getElem?_eq_some_iff.1 h1'
   exact hij ((List.getElem_inj hnd).1 (ei.trans ej.symm))
  exact hok.sep o o' _ _ b base base' hne h2 h2' hb hb'
theorem ea {P:Program} {f:Nat} {args:List AV} {st:St} {R:AV→St→Prop} (R0:AV→St→Prop) (hn:Nat.ble st.nx 1000=true) (h1:r8 P f args st (fun r st'=>R0 (jf st.nx r st') (iz st.nx r st'))) (h2:∀ r st',R0 r st'→R r st'):r8 P f args st R:=by
 intro g w vs hok hfr hrel
 rcases h1 g w vs hok hfr hrel with ⟨v,w',g',r,st',q1,q2,q3,q4,q5,q6⟩|⟨q1,q2⟩
 ·obtain ⟨g'',p1,p2,p3,p4⟩:=aj9 (Nat.le_of_ble_eq_true hn) hfr q4 q5 q6
  exact .inl ⟨v,w',g'',_,_,q1,h2 _ _ q2,p1,p2,p3,p4⟩
 ·refine .inr ⟨q1,q2.mono ?_⟩
  rintro e w' ⟨v,g',r,st',rfl,q2,q3,q4,q5,q6⟩
  obtain ⟨g'',p1,p2,p3,p4⟩:=aj9 (Nat.le_of_ble_eq_true hn) hfr q4 q5 q6
  exact ⟨v,g'',_,_,rfl,h2 _ _ q2,p1,p2,p3,p4⟩
theorem Lx (l) (n:Name):j3 (ar.val l n)=some n.length:=by
 rw [dm];show some (List.map (aq.val l) n).length=_;rw [List.length_map]
theorem ald (a b:Operand):(#[a]++(none:Option Operand).toArray++(some b).toArray++(none:Option Operand).toArray).toList=[a,b]:=id rfl
theorem md5 (a:Nat):a * 5 / 5=a:=by omega
theorem dv4 : 4 / 4=1:=rfl
theorem dv5 : 5 / 5=1:=rfl
theorem af5 (fr h):cw.dec fr h [.sc (.int .u16 0)]=some 0:=rfl
theorem adm (fr h):bn.dec fr h [.sc (.int .u32 0)]=some 0:=rfl
theorem akm (k fr h n):(au k).dec fr h [.sc (.int k n)]=some n:=(au k).rt fr h true n (fun _=>rfl)
theorem Lz (l:Bool) (d:db):(cf.val l d).cells=[.vl l 1 (d.names.map (ar.val l)),.vl l 1 (d.nums.map (bn.val l)),.vl l 1 (d.texts.map (aq.val l)),.vl l 1 (d.raw.map (cy.val l))]:=id rfl
theorem O0 (fr h l) (n:Name) (hl:(l || !fr)=true):ew aq fr h (ar.val l n)=some n:=wa aq fr h l n 1 rfl hl
def ah4 {α:Type} (C:de α) (h:Tr bf) (off:Nat) (x:bf):Option α:=
 match x with
 |.row cells _ _ _=>bif Nat.ble (off+C.sz) cells.length then C.dec false h ((cells.drop off).take C.sz) else none
 |_=>none
def Km {α:Type} (C:de α) (h:Tr bf) (a:AV):Option α:=
 match a with
 |.gp l=>bif Nat.ble C.sz l.length then C.dec false h (l.take C.sz) else none
 |.ptr o off=>(h.get o).bind (ah4 C h off)
 |_=>none
theorem S9 {α:Type} (C:de α) (h o off):Km C h (.ptr o off)=(h.get o).bind (ah4 C h off):=id rfl
theorem Nx {α:Type} (C:de α) (h l):Km C h (.gp l)=bif Nat.ble C.sz l.length then C.dec false h (l.take C.sz) else none:=id rfl
theorem Tt {α:Type} (C:de α) (h off cells k s e):ah4 C h off (.row cells k s e)=bif Nat.ble (off+C.sz) cells.length then C.dec false h ((cells.drop off).take C.sz) else none:=id rfl
theorem alx {α:Type} (C:de α) {g h w K b0 a v x} (hok:Ok g h w) (hl:sm g h K) (hr:Rel g w a v) (hd:Km C h a=some x):Rel (gK b0 K) w (.gp (C.cells false x)) v:=by
 have fin:∀ (b off:Nat) (vs:List Value),bq g w ((C.cells false x).map fun _=>AV.bad) vs→bq (gK b0 K) w (C.cells false x) vs→(∀ j u,vs[j]? = some u→K b (off+j)∧w.cell? ⟨b,off+j,none⟩=some u)→Rel (gK b0 K) w (.gp (C.cells false x)) (.pointer (some ⟨b,off,none⟩)):=by
  intro b off vs _ hrl hc
  refine .gp _ b off (fun j=>vs.getD j undef) (fun j a hj=>?_) (fun j a hj=>?_)
  ·obtain ⟨u,hu,_⟩:=hrl.get hj
   have:=hc j u hu
   exact ⟨this.1,by rw [this.2,List.getD_eq_getElem?_getD,hu];rfl⟩
  ·obtain ⟨u,hu,hrel⟩:=hrl.get hj
   show Rel _ _ a (vs.getD j undef)
   rw [List.getD_eq_getElem?_getD,hu];exact hrel
 have bads:∀ vs:List Value,bq (gK b0 K) w (C.cells false x) vs→bq g w ((C.cells false x).map fun _=>AV.bad) vs:=fun vs h=>⟨by simpa using h.1,fun i a v ha _=>by
  rw [List.getElem?_map,Option.map_eq_some_iff] at ha
  obtain ⟨_,_,rfl⟩:=ha
  exact .bad _⟩
 cases hr with
 |gp l b off c h1 h2=>
  rw [Nx] at hd
  cases hb:Nat.ble C.sz l.length with
  |false=>rw [hb] at hd;cases hd
  |true=>
   rw [hb,cond_true] at hd
   have hle:=Nat.le_of_ble_eq_true hb
   have hlist:bq g w (l.take C.sz) (jh 0 C.sz c):=by
    refine ⟨by simp [jh];omega,fun i a v ha hv=>?_⟩
    rw [List.getElem?_take] at ha
    by_cases hi:i<C.sz
    ·rw [if_pos hi] at ha
     simp only [jh,List.getElem?_map,List.getElem?_range hi,Option.map_some,Option.some.injEq,Nat.zero_add] at hv
     subst hv
     exact h2 i a ha
    ·rw [if_neg hi] at ha;cases ha
   have q:=C.ok (b0:=b0) hok hl (fun e=>by cases e) hlist hd
   refine fin b off _ (bads _ q) q (fun j u hu=>?_)
   have hj:j<C.sz:=by have:=(List.getElem?_eq_some_iff.1 hu).1;simpa [jh] using this
   simp only [jh,List.getElem?_map,List.getElem?_range hj,Option.map_some,Option.some.injEq,Nat.zero_add] at hu
   subst hu
   have:=h1 j _ (List.getElem?_eq_getElem (by omega))
   exact ⟨hl.K _ _ this.1,this.2⟩
 |ptr o off b base hi=>
  rw [S9,Option.bind_eq_some_iff] at hd
  obtain ⟨y,hy,hd⟩:=hd
  obtain ⟨b',base',hi',hbb,hrow⟩:=hok.obj o y hy
  rw [hi] at hi';cases hi'
  cases y with
  |map es=>cases hd
  |loop=>cases hd
  |row cells k st et=>
   rw [Tt] at hd
   cases hle:Nat.ble (off+C.sz) cells.length with
   |false=>rw [hle] at hd;cases hd
   |true=>
    rw [hle,cond_true] at hd
    have hle':=Nat.le_of_ble_eq_true hle
    obtain ⟨cs,fz,r1,r2,r3,_⟩:=hrow
    have hpart:bq g w ((cells.drop off).take C.sz) (jh (base+off) C.sz (fun j=>cs.getD j undef)):=by
     refine ⟨by simp [jh];omega,fun i a v ha hv=>?_⟩
     rw [List.getElem?_take,List.getElem?_drop] at ha
     by_cases hil:i<C.sz
     ·rw [if_pos hil] at ha
      obtain ⟨u,hu,hrel⟩:=r3 _ a ha
      simp only [jh,List.getElem?_map,List.getElem?_range hil,Option.map_some,Option.some.injEq] at hv
      subst hv
      rw [Array.getD_eq_getD_getElem?,Nat.add_assoc,hu]
      exact hrel
     ·rw [if_neg hil] at ha;cases ha
    have q:=C.ok (b0:=b0) hok hl (fun e=>by cases e) hpart hd
    refine fin b (base+off) _ (bads _ q) q (fun j u hv=>?_)
    have hj:j<C.sz:=by have:=(List.getElem?_eq_some_iff.1 hv).1;simpa [jh] using this
    simp only [jh,List.getElem?_map,List.getElem?_range hj,Option.map_some,Option.some.injEq] at hv
    obtain ⟨u,hu,_⟩:=r3 (off+j) (cells[off+j]'(by omega)) (by simp)
    have hrows:=hl.rows o cells k st et hy b base hi (off+j) (by omega)
    rw [← Nat.add_assoc] at hrows hu
    refine ⟨hrows,?_⟩
    rw [m8 r1,hu,← hv,Array.getD_eq_getD_getElem?,hu]
    rfl
 |_=>cases hd
def aP {α β:Type} (C:de α) (R:AC β):AC (α × β) where
 E p:=.gp (C.cells false p.1)::R.E p.2
 D h l:=match l with
  | []=>none
  |a::r=>match Km C h a,R.D h r with
   |some x,some y=>some (x,y)
   |_,_=>none
 rt h p:=by
  have:Km C h (.gp (C.cells false p.1))=some p.1:=by
   rw [Nx,C.len,Nat.ble_self_eq_true,cond_true,List.take_of_length_le (by rw [C.len];exact Nat.le_refl _)]
   exact C.rt false h false p.1 (fun e=>by cases e)
  simp only [this,R.rt]
 ok:=by
  intro g h w K b0 l vs x hok hl hr hd
  match l,hd with
  |a::r,hd=>
   simp only at hd
   split at hd
   ·rename_i x1 y1 hx hy
    simp at hd;subst hd
    match vs,hr with
    | [],hr=>have:=hr.1;simp at this
    |v::vs,hr=>exact bq.cons (alx C hok hl hr.head hx) (R.ok hok hl hr.tail hy)
   ·cases hd
theorem aCp {α β:Type} (C:de α) (R:AC β) (h:Tr bf) (a:AV) (r:List AV):(aP C R).get h (a::r)=match Km C h a,R.get h r with|some x,some y=>some (x,y)|_,_=>none:=id rfl
theorem abn (f) (l:List db) (d:db):cellsOf cf f (l++[d])=cellsOf cf f l++[.vl f 1 (d.names.map (ar.val f)),.vl f 1 (d.nums.map (bn.val false)),.vl f 1 (d.texts.map (aq.val false)),.vl f 1 (d.raw.map (cy.val false))]:=by rw [C4,Rs];rfl
structure bh where
 owner:Name
 type:UInt16
 cls:UInt16
 pr:UInt32
 data:List db
def mkS (owner:Name) (type:UInt16) (cls:UInt16) (pr:UInt32) (data:List db):bh:=⟨owner,type,cls,pr,data⟩
theorem ak4 (x:bh):mkS x.owner x.type x.cls x.pr x.data=x:=id rfl
def an:de bh:=vx (i7 ar (i7 cw (i7 cw (i7 bn (cp cf))))) (fun x=>(x.owner,x.type,x.cls,x.pr,x.data)) (fun p=>⟨p.1,p.2.1,p.2.2.1,p.2.2.2.1,p.2.2.2.2⟩) (fun _=>rfl) (fun _=>rfl)
theorem j4 (l:Bool) (x:bh):an.val l x = .agg [.vl l 1 (x.owner.map (aq.val l)),.sc (.int .u16 x.type.toNat),.sc (.int .u16 x.cls.toNat),.sc (.int .u32 x.pr.toNat),.vl l 4 (x.data.map (cf.val l))]:=id rfl
theorem Za:an.sz=5:=id rfl
theorem Ue (fr:Bool) (h:Tr bf) (y0 y1 y2 y3 y4:AV):an.fp fr h (.agg [y0,y1,y2,y3,y4])=match ew aq fr h y0,cw.dec fr h [y1],cw.dec fr h [y2],bn.dec fr h [y3],ew cf fr h y4 with
 |some v0,some v1,some v2,some v3,some v4=>some (mkS v0 v1 v2 v3 v4)
 |_,_,_,_,_=>none:=by
 rw [r9 _ _ _ _ rfl rfl]
 have h1:an.dec fr h (AV.agg [y0,y1,y2,y3,y4]).cells=Option.map (fun p=>(⟨p.1,p.2.1,p.2.2.1,p.2.2.2.1,p.2.2.2.2⟩:bh)) ((i7 ar (i7 cw (i7 cw (i7 bn (cp cf))))).dec fr h [y0,y1,y2,y3,y4]):=rfl
 rw [h1]
 simp only [Ts,wh,pg,x7,su,ux,sv,List.take_succ_cons,List.take_zero,List.drop_succ_cons,List.drop_zero,Le,Kn]
 cases (ew aq fr h y0)<;>cases (cw.dec fr h [y1])<;>cases (cw.dec fr h [y2])<;>cases (bn.dec fr h [y3])<;>cases (ew cf fr h y4)<;>rfl
theorem Qt (f) (l:List bh):(l.map (an.val f)).flatMap AV.cells=cellsOf an f l:=Fu an f l
theorem Fy (l) (xs:List bh) (x:bh):cellsOf an l (xs++[x])=cellsOf an l xs++[.vl l 1 (x.owner.map (aq.val false)),.sc (.int .u16 x.type.toNat),.sc (.int .u16 x.cls.toNat),.sc (.int .u32 x.pr.toNat),.vl l 4 (x.data.map (cf.val l))]:=by rw [C4,Rs];rfl
structure ba where
 origin:Name
 aj:List bh
def mkZ (origin:Name) (aj:List bh):ba:=⟨origin,aj⟩
theorem ake (x:ba):mkZ x.origin x.aj=x:=id rfl
def bg:de ba:=vx (i7 ar (cp an)) (fun x=>(x.origin,x.aj)) (fun p=>⟨p.1,p.2⟩) (fun _=>rfl) (fun _=>rfl)
theorem ic (l:Bool) (x:ba):bg.val l x = .agg [.vl l 1 (x.origin.map (aq.val l)),.vl l 5 (x.aj.map (an.val l))]:=id rfl
theorem Bn (l:Bool) (x:ba):bg.cells l x=[.vl l 1 (x.origin.map (aq.val l)),.vl l 5 (x.aj.map (an.val l))]:=id rfl
theorem K9:bg.sz=2:=id rfl
theorem Hz (fr:Bool) (h:Tr bf) (y0 y1:AV):bg.fp fr h (.agg [y0,y1])=match ew aq fr h y0,ew an fr h y1 with
 |some v0,some v1=>some (mkZ v0 v1)
 |_,_=>none:=by
 rw [r9 _ _ _ _ rfl rfl]
 have h1:bg.dec fr h (AV.agg [y0,y1]).cells=Option.map (fun p=>(⟨p.1,p.2⟩:ba)) ((i7 ar (cp an)).dec fr h [y0,y1]):=rfl
 rw [h1]
 simp only [Ts,wh,pg,x7,su,ux,sv,List.take_succ_cons,List.take_zero,List.drop_succ_cons,List.drop_zero,Le,Kn]
 cases (ew aq fr h y0)<;>cases (ew an fr h y1)<;>rfl
theorem Nr (fr:Bool) (h:Tr bf) (y0 y1:AV):bg.dec fr h [y0,y1]=match ew aq fr h y0,ew an fr h y1 with
 |some v0,some v1=>some (mkZ v0 v1)
 |_,_=>none:=(Pz bg fr h _ rfl).trans (Hz fr h y0 y1)
structure xa where
 addr:UInt32
 ay:List Int
def dy:de xa:=vx (i7 bn (cp (au .i64))) (fun x=>(x.addr,x.ay)) (fun p=>⟨p.1,p.2⟩) (fun _=>rfl) (fun _=>rfl)
theorem Ry (l:Bool) (x:xa):dy.val l x = .agg [.sc (.int .u32 x.addr.toNat),.vl l 1 (x.ay.map ((au .i64).val l))]:=id rfl
theorem Uw:dy.sz=2:=id rfl
structure bd where
 ay:List ba
 dn:List xa
 hints:List UInt32
def mkW (ay:List ba) (dn:List xa) (hints:List UInt32):bd:=⟨ay,dn,hints⟩
theorem ak9 (x:bd):mkW x.ay x.dn x.hints=x:=id rfl
def cb:de bd:=vx (i7 (cp bg) (i7 (cp dy) (cp bn))) (fun x=>(x.ay,x.dn,x.hints)) (fun p=>⟨p.1,p.2.1,p.2.2⟩) (fun _=>rfl) (fun _=>rfl)
theorem en (l:Bool) (x:bd):cb.val l x = .agg [.vl l 2 (x.ay.map (bg.val l)),.vl l 2 (x.dn.map (dy.val l)),.vl l 1 (x.hints.map (bn.val l))]:=id rfl
theorem Oy (fr:Bool) (h:Tr bf) (y0 y1 y2:AV):cb.fp fr h (.agg [y0,y1,y2])=match ew bg fr h y0,ew dy fr h y1,ew bn fr h y2 with
 |some v0,some v1,some v2=>some (mkW v0 v1 v2)
 |_,_,_=>none:=by
 rw [r9 _ _ _ _ rfl rfl]
 have h1:cb.dec fr h (AV.agg [y0,y1,y2]).cells=Option.map (fun p=>(⟨p.1,p.2.1,p.2.2⟩:bd)) ((i7 (cp bg) (i7 (cp dy) (cp bn))).dec fr h [y0,y1,y2]):=rfl
 rw [h1]
 simp only [Ts,wh,pg,x7,su,ux,sv,List.take_succ_cons,List.take_zero,List.drop_succ_cons,List.drop_zero,Le,Kn]
 cases (ew bg fr h y0)<;>cases (ew dy fr h y1)<;>cases (ew bn fr h y2)<;>rfl
structure C0 where
 kind:Int
 node:Name
 wb:Name
def w4 (kind:Int) (node:Name) (wb:Name):C0:=⟨kind,node,wb⟩
theorem ad0 (kind node wb):(w4 kind node wb).node=node:=id rfl
def sg:de C0:=vx (i7 (au .u8) (i7 ar ar)) (fun x=>(x.kind,x.node,x.wb)) (fun p=>⟨p.1,p.2.1,p.2.2⟩) (fun _=>rfl) (fun _=>rfl)
theorem H0 (l:Bool) (x:C0):sg.val l x = .agg [.sc (.int .u8 x.kind),.vl l 1 (x.node.map (aq.val l)),.vl l 1 (x.wb.map (aq.val l))]:=id rfl
theorem Ri (fr:Bool) (h:Tr bf) (y0 y1 y2:AV):sg.fp fr h (.agg [y0,y1,y2])=match (au .u8).dec fr h [y0],ew aq fr h y1,ew aq fr h y2 with
 |some v0,some v1,some v2=>some (w4 v0 v1 v2)
 |_,_,_=>none:=by
 rw [r9 _ _ _ _ rfl rfl]
 have h1:sg.dec fr h (AV.agg [y0,y1,y2]).cells=Option.map (fun p=>(⟨p.1,p.2.1,p.2.2⟩:C0)) ((i7 (au .u8) (i7 ar ar)).dec fr h [y0,y1,y2]):=rfl
 rw [h1]
 simp only [Ts,wh,pg,x7,su,ux,sv,List.take_succ_cons,List.take_zero,List.drop_succ_cons,List.drop_zero,Le,Kn]
 cases ((au .u8).dec fr h [y0])<;>cases (ew aq fr h y1)<;>cases (ew aq fr h y2)<;>rfl
structure sn where
 turn:Int
 aj:List bh
 to:Name
def vo (turn:Int) (aj:List bh) (to:Name):sn:=⟨turn,aj,to⟩
theorem akx (x:sn):vo x.turn x.aj x.to=x:=id rfl
theorem aqv (turn aj to):(vo turn aj to).to=to:=id rfl
def oj:de sn:=vx (i7 (au .u8) (i7 (cp an) ar)) (fun x=>(x.turn,x.aj,x.to)) (fun p=>⟨p.1,p.2.1,p.2.2⟩) (fun _=>rfl) (fun _=>rfl)
theorem Sr (l:Bool) (x:sn):oj.val l x = .agg [.sc (.int .u8 x.turn),.vl l 5 (x.aj.map (an.val l)),.vl l 1 (x.to.map (aq.val l))]:=id rfl
theorem X0 (l:Bool) (x:sn):oj.cells l x=[.sc (.int .u8 x.turn),.vl l 5 (x.aj.map (an.val l)),.vl l 1 (x.to.map (aq.val l))]:=id rfl
theorem V0:oj.sz=3:=id rfl
theorem Ij (fr:Bool) (h:Tr bf) (y0 y1 y2:AV):oj.fp fr h (.agg [y0,y1,y2])=match (au .u8).dec fr h [y0],ew an fr h y1,ew aq fr h y2 with
 |some v0,some v1,some v2=>some (vo v0 v1 v2)
 |_,_,_=>none:=by
 rw [r9 _ _ _ _ rfl rfl]
 have h1:oj.dec fr h (AV.agg [y0,y1,y2]).cells=Option.map (fun p=>(⟨p.1,p.2.1,p.2.2⟩:sn)) ((i7 (au .u8) (i7 (cp an) ar)).dec fr h [y0,y1,y2]):=rfl
 rw [h1]
 simp only [Ts,wh,pg,x7,su,ux,sv,List.take_succ_cons,List.take_zero,List.drop_succ_cons,List.drop_zero,Le,Kn]
 cases ((au .u8).dec fr h [y0])<;>cases (ew an fr h y1)<;>cases (ew aq fr h y2)<;>rfl
theorem Mq (fr:Bool) (h:Tr bf) (y0 y1 y2:AV):oj.dec fr h [y0,y1,y2]=match (au .u8).dec fr h [y0],ew an fr h y1,ew aq fr h y2 with
 |some v0,some v1,some v2=>some (vo v0 v1 v2)
 |_,_,_=>none:=(Pz oj fr h _ rfl).trans (Ij fr h y0 y1 y2)
structure uz where
 z:ba
 e:Int
def mkL (z:ba) (e:Int):uz:=⟨z,e⟩
theorem axx (z e):(mkL z e).z=z:=id rfl
def nk:de uz:=vx (i7 bg (au .i64)) (fun x=>(x.z,x.e)) (fun p=>⟨p.1,p.2⟩) (fun _=>rfl) (fun _=>rfl)
theorem B7 (l:Bool) (x:uz):nk.cells l x=[.vl l 1 (x.z.origin.map (aq.val l)),.vl l 5 (x.z.aj.map (an.val l)),.sc (.int .i64 x.e)]:=id rfl
theorem Xc:nk.sz=3:=id rfl
theorem aih (fr:Bool) (h:Tr bf) (y00 y01 y1:AV):nk.fp fr h (.agg [y00,y01,y1])=match bg.fp fr h (.agg [y00,y01]),(au .i64).dec fr h [y1] with
 |some v0,some v1=>some (mkL v0 v1)
 |_,_=>none:=by
 rw [r9 _ _ _ _ rfl rfl]
 have h1:nk.dec fr h (AV.agg [y00,y01,y1]).cells=Option.map (fun p=>(⟨p.1,p.2⟩:uz)) ((i7 bg (au .i64)).dec fr h [y00,y01,y1]):=rfl
 rw [h1]
 simp only [Ts,wh,pg,x7,su,ux,sv,List.take_succ_cons,List.take_zero,List.drop_succ_cons,List.drop_zero,Le,Kn,K9,Pz bg fr h _ rfl]
 cases (bg.fp fr h (.agg [y00,y01]))<;>cases ((au .i64).dec fr h [y1])<;>rfl
theorem Oa (fr:Bool) (h:Tr bf) (y00 y01 y1:AV):nk.dec fr h [y00,y01,y1]=match bg.fp fr h (.agg [y00,y01]),(au .i64).dec fr h [y1] with
 |some v0,some v1=>some (mkL v0 v1)
 |_,_=>none:=(Pz nk fr h _ rfl).trans (aih fr h y00 y01 y1)
structure xj where
 pd:Int
 aa:Bool
 answer:List bh
 authority:List bh
 jc:List bh
def uu (pd:Int) (aa:Bool) (answer:List bh) (authority:List bh) (jc:List bh):xj:=⟨pd,aa,answer,authority,jc⟩
theorem aap (pd aa answer authority jc):(uu pd aa answer authority jc).pd=pd:=id rfl
theorem apt (pd aa answer authority jc):(uu pd aa answer authority jc).aa=aa:=id rfl
theorem We (pd aa answer authority jc):(uu pd aa answer authority jc).answer=answer:=id rfl
theorem Lr (pd aa answer authority jc):(uu pd aa answer authority jc).authority=authority:=id rfl
theorem Jk (pd aa answer authority jc):(uu pd aa answer authority jc).jc=jc:=id rfl
def Bo:de xj:=vx (i7 (au .i64) (i7 bp (i7 (cp an) (i7 (cp an) (cp an))))) (fun x=>(x.pd,x.aa,x.answer,x.authority,x.jc)) (fun p=>⟨p.1,p.2.1,p.2.2.1,p.2.2.2.1,p.2.2.2.2⟩) (fun _=>rfl) (fun _=>rfl)
theorem O9 (l:Bool) (x:xj):Bo.val l x = .agg [.sc (.int .i64 x.pd),.sc (.bool x.aa),.vl l 5 (x.answer.map (an.val l)),.vl l 5 (x.authority.map (an.val l)),.vl l 5 (x.jc.map (an.val l))]:=id rfl
theorem Nt (fr:Bool) (h:Tr bf) (y0 y1 y2 y3 y4:AV):Bo.fp fr h (.agg [y0,y1,y2,y3,y4])=match (au .i64).dec fr h [y0],bp.dec fr h [y1],ew an fr h y2,ew an fr h y3,ew an fr h y4 with
 |some v0,some v1,some v2,some v3,some v4=>some (uu v0 v1 v2 v3 v4)
 |_,_,_,_,_=>none:=by
 rw [r9 _ _ _ _ rfl rfl]
 have h1:Bo.dec fr h (AV.agg [y0,y1,y2,y3,y4]).cells=Option.map (fun p=>(⟨p.1,p.2.1,p.2.2.1,p.2.2.2.1,p.2.2.2.2⟩:xj)) ((i7 (au .i64) (i7 bp (i7 (cp an) (i7 (cp an) (cp an))))).dec fr h [y0,y1,y2,y3,y4]):=rfl
 rw [h1]
 simp only [Ts,wh,pg,x7,su,ux,sv,List.take_succ_cons,List.take_zero,List.drop_succ_cons,List.drop_zero,Le,Kn]
 cases ((au .i64).dec fr h [y0])<;>cases (bp.dec fr h [y1])<;>cases (ew an fr h y2)<;>cases (ew an fr h y3)<;>cases (ew an fr h y4)<;>rfl
theorem ae:type_of% @Lx∧type_of% @Lk∧type_of% @So∧type_of% @ald∧type_of% @md5∧type_of% @dv4∧type_of% @dv5∧type_of% @af5∧type_of% @adm∧type_of% @akm∧type_of% @S9∧type_of% @Tt∧type_of% @aCp∧type_of% @O0∧type_of% @Lz∧type_of% @Q6∧type_of% @yn∧type_of% @A1∧type_of% @ak4∧type_of% @j4∧type_of% @Za∧type_of% @Ue∧type_of% @Qt∧type_of% @ake∧type_of% @Nr∧type_of% @ic∧type_of% @K9∧type_of% @Hz∧type_of% @Ry∧type_of% @Uw∧type_of% @ak9∧type_of% @Oy∧type_of% @ad0∧type_of% @H0∧type_of% @Ri∧type_of% @akx∧type_of% @aqv∧type_of% @Mq∧type_of% @Sr∧type_of% @V0∧type_of% @Ij∧type_of% @axx∧type_of% @Oa∧type_of% @Xc∧type_of% @aap∧type_of% @apt∧type_of% @We∧type_of% @Lr∧type_of% @Jk∧type_of% @O9∧type_of% @Nt:=
 ⟨@Lx,@Lk,@So,@ald,@md5,@dv4,@dv5,@af5,@adm,@akm,@S9,@Tt,@aCp,@O0,@Lz,@Q6,@yn,@A1,@ak4,@j4,@Za,@Ue,@Qt,@ake,@Nr,@ic,@K9,@Hz,@Ry,@Uw,@ak9,@Oy,@ad0,@H0,@Ri,@akx,@aqv,@Mq,@Sr,@V0,@Ij,@axx,@Oa,@Xc,@aap,@apt,@We,@Lr,@Jk,@O9,@Nt⟩
end
end Go.Vm
end
section
namespace Go.Proofs.YtajammoepjpiiaaGreat
open Go.Vm
set_option maxRecDepth 2000000
noncomputable def B3 (t:UInt16) (l:List db) (d:db):Bool:=l.any fun x=>G6 t x d
theorem aC5 (t:UInt16) (l:List db) (d:db) (hl:∀ x ∈ l,eb x) (hn:l.length≤16777216) (hd:eb d):wl PP [] 0 (Tryz.f118.body.getD .skip) (dp PP Tryz.f118.results.toList (fun r st=>(r1 bp).get true st.h r=some (B3 t l d))) (ca 0 [cw.val false t,(cp cf).val false l,cf.val false d]) (br []):=by
 unfold Tryz.f118
 simp only [qe,nq]
 simp only [↓wR,RA,simprocAttr,TF,ae]
 refine bo (T:=[]) (ak.nil PP) mixed Tryz.func148 rfl (by kernel_rfl) (by kernel_rfl) (by kernel_rfl) (by kernel_rfl) ?_;unfold Tryz.f148
 simp only [↓wR,RA,simprocAttr,TF,ae]
 refine bo (T:=[]) (ak.nil PP) mixed Tryz.func174 rfl (by kernel_rfl) (by kernel_rfl) (by kernel_rfl) (by kernel_rfl) ?_;unfold Tryz.f174
 simp only [↓wR,RA,simprocAttr,TF,ae]
 refine dh [0,1,7,8] (fun (i:Nat)=>[.vl false 4 (l.map (cf.val false)),.fn (.func 149) [] [.ptr 0 0,.ptr 1 0],.sc (.int .i64 (l.length)),.sc (.int .i64 (i))]) (fun _=>[some (.row [.sc (.int .u16 t.toNat)] 0 2 28),some (.row [.vl false 1 (d.names.map (ar.val false)),.vl false 1 (d.nums.map (bn.val false)),.vl false 1 (d.texts.map (aq.val false)),.vl false 1 (d.raw.map (cy.val false))] 0 2 77)]) (fun i=>i≤l.length∧B3 t l d=B3 t (l.drop i) d) (fun i=>l.length - i) 0 ⟨Nat.zero_le _,rfl⟩ (by simp only [↓wR,RA,simprocAttr,TF,ae]<;>rfl) (by simp only [↓wR,RA,simprocAttr,TF,ae]<;>rfl) ?_
 rintro i ⟨hi,hx⟩
 simp only [↓wR,RA,simprocAttr,TF,ae]
 rw [bj];refine ⟨fun h=>?_,fun h=>?_⟩
 ·obtain ⟨c,hc,hd1,hlt⟩:=dw (decide_eq_true h)
  have hx':B3 t l d=(G6 t c d || B3 t (l.drop (i+1)) d):=by rw [hx,hd1];rfl
  simp only [↓wR,RA,simprocAttr,TF,ae,h,hc];repeat (simp (disch:=omega) only [ah,b9,bu,bw,bz];try simp only [↓wR,RA,simprocAttr,TF,ae,h,hc])
  refine bo (T:=[avz]) (ak.cons (ai ab6) (ak.nil PP)) mixed Tryz.func149 rfl (by kernel_rfl) (by kernel_rfl) (by kernel_rfl) (by kernel_rfl) ?_;unfold Tryz.f149
  simp only [↓wR,RA,simprocAttr,TF,ae,C7,hl c (List.mem_of_getElem? hc),hd]
  rw [bm];refine ⟨fun h1=>?_,fun h1=>?_⟩
  ·rw [h1,Bool.true_or] at hx'
   simp only [↓wR,RA,simprocAttr,TF,ae,h1]
   rw [hx']
   done
  ·rw [h1,Bool.false_or] at hx'
   simp only [↓wR,RA,simprocAttr,TF,ae,h1];repeat (simp (disch:=omega) only [ah,b9,bu,bw,bz];try simp only [↓wR,RA,simprocAttr,TF,ae,h1])
   exact ⟨i+1,⟨hlt,hx'⟩,by omega,by (first|rfl|trivial|omega|((try (simp (disch:=omega) only [ah]));(try (simp only [FB]));first|done|rfl|omega))⟩
 ·rw [dz (decide_eq_false h)] at hx
  simp only [↓wR,RA,simprocAttr,TF,ae,h]
  rw [hx];rfl
def rk (l:List db):Prop:=fu uh l≤16777216
instance (l:List db):Decidable (rk l):=inferInstanceAs (Decidable (_≤_))
theorem rk.mem {l:List db} (h:rk l):∀ x ∈ l,eb x:=fun x hx=>by
 have h1:uh x<fu uh l:=pc hx
 unfold rk at h;unfold eb;omega
theorem rk.len {l:List db} (h:rk l):l.length≤16777216:=Nat.le_trans (rm uh l) h
theorem Tc {α:Type} (f : α→Nat) (l:List α) (i:Nat):fu f (l.take i)≤fu f l:=by
 induction l generalizing i with
 |nil=>simp
 |cons a l ih=>
  cases i with
  |zero=>exact Nat.zero_le _
  |succ i=>have:=ih i;simp only [fu,List.take_succ_cons,List.foldr_cons] at this ⊢;omega
theorem rk.take {l:List db} (h:rk l) (i:Nat):rk (l.take i):=Nat.le_trans (Tc uh l i) h
noncomputable def Py (x:UInt16 × List db × db × Unit):Option AV:=if rk x.2.1∧eb x.2.2.1 then some ((r1 bp).E true (B3 x.1 x.2.1 x.2.2.1)) else none
set_option maxRecDepth 2000000 in
theorem Zf (x:UInt16 × List db × db × Unit) (r:AV) (h:Py x=some r):be PP 118 ((aC cw (aC (cp cf) (aC cf a0))).E x) r:=by
 by_cases hc:rk x.2.1∧eb x.2.2.1
 case neg=>simp only [Py,if_neg hc] at h;cases h
 simp only [Py,if_pos hc] at h
 cases h
 exact bb (ak.nil PP) Tryz.func118 (by kernel_rfl) (by kernel_rfl) (by kernel_rfl) (Nat.le_of_ble_eq_true (by kernel_rfl)) (r1 bp) true (B3 x.1 x.2.1 x.2.2.1) (aC5 x.1 x.2.1 x.2.2.1 hc.1.mem hc.1.len hc.2)
noncomputable abbrev aBi:Nat × Bool × (List AV→M AV):=(118,true,dc (aC cw (aC (cp cf) (aC cf a0))) Py)
def my (s:bh):Nat:=bt s.owner+fu uh s.data
def dr (s:bh):Prop:=my s≤16777216
instance (s:bh):Decidable (dr s):=inferInstanceAs (Decidable (_≤_))
theorem dr.owner {s:bh} (h:dr s):bc s.owner:=by unfold dr my at h;unfold bc;omega
theorem dr.data {s:bh} (h:dr s):rk s.data:=by unfold dr my at h;unfold rk;omega
noncomputable def s8 (t:UInt16):List db→List db→Int
 |_,[]=>0
 |pre,d::r=>if fl t d≠0 then fl t d else if B3 t pre d=true then 10 else s8 t (pre++[d]) r
noncomputable def oy (s:bh):Int:=
 if cg s.owner≠0 then cg s.owner else if s.data.length=0 then 9 else if 512<s.data.length then 3 else s8 s.type [] s.data
theorem ajd (t:UInt16) {l:List db} {i:Nat} {c:db} (hc:l[i]? = some c):s8 t (l.take i) (l.drop i)=if fl t c≠0 then fl t c else if B3 t (l.take i) c=true then 10 else s8 t (l.take (i+1)) (l.drop (i+1)):=by
 obtain ⟨hi,rfl⟩:=List.getElem?_eq_some_iff.1 hc
 rw [List.drop_eq_getElem_cons hi,s8,List.take_succ_eq_append_getElem hi]
theorem ai5 (s:bh) (hs:dr s):wl PP [ek,M5,aBi] 0 (Tryz.f151.body.getD .skip) (dp PP Tryz.f151.results.toList (fun r st=>(r1 (au .i64)).get true st.h r=some (oy s))) (ca 0 [an.val false s]) (br []):=by
 have ho:=hs.owner
 have hd:=hs.data
 have hn:=hd.len
 unfold Tryz.f151
 simp only [j4]
 simp only [↓wR,RA,simprocAttr,TF,ae,mw,ho.fit]
 unfold oy
 rw [bm];refine ⟨fun h=>?_,fun h=>?_⟩
 ·have he:cg s.owner≠0:=by simpa using h
  rw [if_pos he]
  simp only [↓wR,RA,simprocAttr,TF,ae,h]
 have he:cg s.owner=0:=by simpa using h
 rw [if_neg (by omega)]
 simp only [↓wR,RA,simprocAttr,TF,ae,h]
 rw [cz];refine ⟨fun ⟨h1,e1⟩=>?_,fun ⟨h1,e1⟩=>?_⟩
 ·rw [if_pos (by omega)]
  simp only [↓wR,RA,simprocAttr,TF,ae,h1]
 rw [if_neg (by omega)]
 simp only [↓wR,RA,simprocAttr,TF,ae,h1]
 rw [bj];refine ⟨fun h2=>?_,fun h2=>?_⟩
 ·rw [if_pos (by omega)]
  simp only [↓wR,RA,simprocAttr,TF,ae,h2]
 rw [if_neg (by omega)]
 simp only [↓wR,RA,simprocAttr,TF,ae,h2]
 refine dh [1,24,25,26] (fun (i:Nat)=>[.ptr 0 0,.vl false 4 (s.data.map (cf.val false)),.sc (.int .i64 (s.data.length)),.sc (.int .i64 (i))]) (fun _=>[some (.row [.vl false 1 (s.owner.map (aq.val false)),.sc (.int .u16 s.type.toNat),.sc (.int .u16 s.cls.toNat),.sc (.int .u32 s.pr.toNat),.vl false 4 (s.data.map (cf.val false))] 0 2 40)]) (fun i=>i≤s.data.length∧s8 s.type [] s.data=s8 s.type (s.data.take i) (s.data.drop i)) (fun i=>s.data.length - i) 0 ⟨Nat.zero_le _,rfl⟩ (by simp only [↓wR,RA,simprocAttr,TF,ae]<;>rfl) (by simp only [↓wR,RA,simprocAttr,TF,ae]<;>rfl) ?_
 rintro i ⟨hi,hx⟩
 simp only [↓wR,RA,simprocAttr,TF,ae]
 rw [bj];refine ⟨fun h3=>?_,fun h3=>?_⟩
 ·obtain ⟨c,hc,hd1,hlt⟩:=dw (decide_eq_true h3)
  rw [ajd _ hc] at hx
  have hcs:=hd.mem c (List.mem_of_getElem? hc)
  simp only [↓wR,RA,simprocAttr,TF,ae,h3,hc,so,hcs]
  rw [bm];refine ⟨fun h4=>?_,fun h4=>?_⟩
  ·have he4:fl s.type c≠0:=by simpa using h4
   rw [if_pos he4] at hx
   simp only [↓wR,RA,simprocAttr,TF,ae,h4]
   rw [hx]
  ·have he4:fl s.type c=0:=by simpa using h4
   rw [if_neg (by omega)] at hx
   simp only [↓wR,RA,simprocAttr,TF,ae,h4]
   refine ⟨by kernel_rfl,.inl ?_⟩
   simp only [↓wR,RA,simprocAttr,TF,ae,hi,Py,hd.take i,hcs]
   refine ⟨by kernel_rfl,?_⟩
   rw [bm];refine ⟨fun h5=>?_,fun h5=>?_⟩
   ·rw [if_pos h5] at hx
    simp only [↓wR,RA,simprocAttr,TF,ae,h5]
    rw [hx]
   ·rw [if_neg (by rw [h5];decide)] at hx
    simp only [↓wR,RA,simprocAttr,TF,ae,h5];repeat (simp (disch:=omega) only [ah,b9,bu,bw,bz];try simp only [↓wR,RA,simprocAttr,TF,ae,h5])
    exact ⟨i+1,⟨hlt,hx⟩,by omega,by (first|rfl|trivial|omega|((try (simp (disch:=omega) only [ah]));(try (simp only [FB]));first|done|rfl|omega))⟩
 ·rw [dz (decide_eq_false h3)] at hx
  simp only [↓wR,RA,simprocAttr,TF,ae,h3]
  rw [hx];rfl
noncomputable def zo (x:bh × Unit):Option AV:=if dr x.1 then some ((r1 (au .i64)).E true (oy x.1)) else none
set_option maxRecDepth 2000000 in
theorem Lg (x:bh × Unit) (r:AV) (h:zo x=some r):be PP 151 ((aC an a0).E x) r:=by
 by_cases hc:dr x.1
 case neg=>simp only [zo,if_neg hc] at h;cases h
 simp only [zo,if_pos hc] at h
 cases h
 exact bb (ak.cons (ai ld) (ak.cons (ai Ci) (ak.cons (ai Zf) (ak.nil PP)))) Tryz.func151 (by kernel_rfl) (by kernel_rfl) (by kernel_rfl) (Nat.le_of_ble_eq_true (by kernel_rfl)) (r1 (au .i64)) true (oy x.1) (ai5 x.1 hc)
noncomputable abbrev g5:Nat × Bool × (List AV→M AV):=(151,true,dc (aC an a0) zo)
theorem ano (s:bh) (hs:dr s):wl PP [o9,au2] 0 (Tryz.f37.body.getD .skip) (dp PP Tryz.f37.results.toList (fun r st=>(r1 an).get true st.h r=some s)) (ca 0 [an.val false s]) (br []):=by
 have ho:=hs.owner
 have hd:=hs.data
 have hn:=hd.len
 unfold Tryz.f37
 simp only [j4]
 simp only [↓wR,RA,simprocAttr,TF,ae,gu,ho]
 refine ma [2,13,14,15,3] (fun (x:List db)=>[.ptr 0 0,.vl false 4 (s.data.map (cf.val false)),.sc (.int .i64 (s.data.length)),.sc (.int .i64 (x.length)),.ptr 1 0]) (fun x=>[some (.row [.sc (.slice none 0 0),.sc (.int .u16 0),.sc (.int .u16 0),.sc (.int .u32 0),.sc (.slice none 0 0)] 0 2 40),some (.row [ar.val true s.owner,.sc (.int .u16 s.type.toNat),.sc (.int .u16 s.cls.toNat),.sc (.int .u32 s.pr.toNat),.sl 2 0 x.length 4] 0 2 40),some (.row (cellsOf cf true x) 0 0 77)]) (fun x=>x.length≤s.data.length∧x++s.data.drop x.length=s.data) (fun x=>s.data.length - x.length) [] ⟨Nat.zero_le _,rfl⟩ (by simp only [↓wR,RA,simprocAttr,TF,ae];(refine me.lax [] (by first|exact Nat.le_of_ble_eq_true rfl|(simp [cx];omega)) ?_ ?_<;>repeat' first|exact iu.nil|exact dq.nil|exact jk.same _|exact jk.nil _ _ _|exact jk.wu _ _|exact dq.refl _ _|apply iu.cons|apply dq.ghost|apply dq.same|apply dq.row)) ?_
 rintro x ⟨hi,hx⟩
 simp only [↓wR,RA,simprocAttr,TF,ae]
 rw [bj];refine ⟨fun h=>?_,fun h=>?_⟩
 ·obtain ⟨c,hc,hd1,hlt⟩:=dw (decide_eq_true h)
  rw [hd1] at hx
  have hcs:=hd.mem c (List.mem_of_getElem? hc)
  simp only [↓wR,RA,simprocAttr,TF,ae,h,hc]
  refine ⟨by kernel_rfl,.inl ?_⟩
  have hlim:(x.length * 4+4) * 96≤140737488355328:=by omega
  simp only [↓wR,RA,simprocAttr,TF,ae,Db,hcs,hlim]
  refine ⟨by kernel_rfl,x++[c],⟨by simp;omega,by simpa using hx⟩,by simp;omega,by (first|rfl|trivial|omega|((try (simp (disch:=omega) only [ah]));(try (simp only [FB]));first|done|rfl|omega)),?_⟩
  rw [abn,List.length_append];rfl
 ·rw [dz (decide_eq_false h)] at hx
  rw [List.append_nil] at hx
  subst hx
  simp only [↓wR,RA,simprocAttr,TF,ae,h]
noncomputable def ta (x:bh × Unit):Option AV:=if dr x.1 then some ((r1 an).E true (x.1)) else none
set_option maxRecDepth 2000000 in
theorem A8 (x:bh × Unit) (r:AV) (h:ta x=some r):be PP 37 ((aC an a0).E x) r:=by
 by_cases hc:dr x.1
 case neg=>simp only [ta,if_neg hc] at h;cases h
 simp only [ta,if_pos hc] at h
 cases h
 exact bb (ak.cons (ai j8) (ak.cons (ai abo) (ak.nil PP))) Tryz.func37 (by kernel_rfl) (by kernel_rfl) (by kernel_rfl) (Nat.le_of_ble_eq_true (by kernel_rfl)) (r1 an) true (x.1) (ano x.1 hc)
noncomputable abbrev Ey:Nat × Bool × (List AV→M AV):=(37,true,dc (aC an a0) ta)
def vy (z:ba):Nat:=bt z.origin+fu my z.aj
def c7 (z:ba):Prop:=vy z≤16777216
instance (z:ba):Decidable (c7 z):=inferInstanceAs (Decidable (_≤_))
theorem c7.origin {z:ba} (h:c7 z):bc z.origin:=by unfold c7 vy at h;unfold bc;omega
theorem c7.set {z:ba} (h:c7 z):∀ s ∈ z.aj,dr s:=fun s hs=>by
 have h1:my s<fu my z.aj:=pc hs
 unfold c7 vy at h;unfold dr;omega
theorem c7.len {z:ba} (h:c7 z):z.aj.length≤16777216:=by have:=rm my z.aj;unfold c7 vy at h;omega
def Bp (n top:Name):Bool:=decide (top.length<n.length) && dj n top
theorem aui (n top:Name) (hn:bc n) (ht:bc top):wl PP [ug] 0 (Tryz.f131.body.getD .skip) (dp PP Tryz.f131.results.toList (fun r st=>(r1 bp).get true st.h r=some (Bp n top))) (ca 0 [ar.val false n,ar.val false top]) (br []):=by
 unfold Tryz.f131
 simp only [dm]
 simp only [↓wR,RA,simprocAttr,TF,ae]
 unfold Bp
 rw [bj];refine ⟨fun h=>?_,fun h=>?_⟩
 ·rw [decide_eq_true (show top.length<n.length by omega)]
  simp only [↓wR,RA,simprocAttr,TF,ae,h,mo,hn,ht]
 ·rw [decide_eq_false (show ¬ top.length<n.length by omega)]
  simp only [↓wR,RA,simprocAttr,TF,ae,h]
  rfl
noncomputable def Es (x:Name × Name × Unit):Option AV:=if bc x.1∧bc x.2.1 then some ((r1 bp).E true (Bp x.1 x.2.1)) else none
set_option maxRecDepth 2000000 in
theorem Ra (x:Name × Name × Unit) (r:AV) (h:Es x=some r):be PP 131 ((aC ar (aC ar a0)).E x) r:=by
 by_cases hc:bc x.1∧bc x.2.1
 case neg=>simp only [Es,if_neg hc] at h;cases h
 simp only [Es,if_pos hc] at h
 cases h
 exact bb (ak.cons (ai nh) (ak.nil PP)) Tryz.func131 (by kernel_rfl) (by kernel_rfl) (by kernel_rfl) (Nat.le_of_ble_eq_true (by kernel_rfl)) (r1 bp) true (Bp x.1 x.2.1) (aui x.1 x.2.1 hc.1 hc.2)
noncomputable abbrev asm:Nat × Bool × (List AV→M AV):=(131,true,dc (aC ar (aC ar a0)) Es)
def js (z:ba) (n:Name):List bh:=z.aj.filter fun s=>ef s.owner n
theorem N3 {l:List bh} {p:bh→Bool} {i:Nat} {c:bh} (h:l.drop i=c::l.drop (i+1)):(l.drop i).filter p=(if p c=true then [c] else [])++(l.drop (i+1)).filter p:=by
 rw [h,List.filter_cons];split<;>rfl
theorem uw {l:List bh} (p:bh→Bool):(l.filter p).length≤l.length:=List.length_filter_le _ _
theorem aC8 (z:ba) (n:Name) (hz:c7 z) (hn:bc n):wl PP [dv,Ey] 0 (Tryz.f96.body.getD .skip) (dp PP Tryz.f96.results.toList (fun r st=>(r1 (cp an)).get true st.h r=some (js z n))) (ca 0 [bg.val false z,ar.val false n]) (br []):=by
 have hl:=hz.len
 unfold Tryz.f96
 simp only [ic,dm]
 simp only [↓wR,RA,simprocAttr,TF,ae]
 refine ma [1,9,10,11,5] (fun (x:Nat × List bh)=>[.vl false 1 (n.map (aq.val false)),.vl false 5 (z.aj.map (an.val false)),.sc (.int .i64 (z.aj.length)),.sc (.int .i64 (x.1)),.sl 0 0 x.2.length 5]) (fun x=>[some (.row (cellsOf an true x.2) 0 0 40)]) (fun x=>x.1≤z.aj.length∧x.2++(z.aj.drop x.1).filter (fun s=>ef s.owner n)=js z n) (fun x=>z.aj.length - x.1) (0,[]) ⟨Nat.zero_le _,rfl⟩ (by simp only [↓wR,RA,simprocAttr,TF,ae];(refine me.lax [] (by first|exact Nat.le_of_ble_eq_true rfl|(simp [cx];omega)) ?_ ?_<;>repeat' first|exact iu.nil|exact dq.nil|exact jk.same _|exact jk.nil _ _ _|exact jk.wu _ _|exact dq.refl _ _|apply iu.cons|apply dq.ghost|apply dq.same|apply dq.row)) ?_
 rintro ⟨i,x⟩ ⟨hi,hx⟩
 simp only at hi hx
 have hxl:x.length≤z.aj.length:=by
  have h1:=uw (l:=z.aj) (fun s=>ef s.owner n)
  have h2:=congrArg List.length hx
  simp only [List.length_append,js] at h2
  omega
 simp only [↓wR,RA,simprocAttr,TF,ae]
 rw [bj];refine ⟨fun h=>?_,fun h=>?_⟩
 ·obtain ⟨c,hc,hd1,hlt⟩:=dw (decide_eq_true h)
  rw [N3 hd1] at hx
  have hcs:=hz.set c (List.mem_of_getElem? hc)
  simp only [↓wR,RA,simprocAttr,TF,ae,h,hc,fm,hcs.owner,hn]
  rw [bm];refine ⟨fun h1=>?_,fun h1=>?_⟩
  ·rw [if_pos h1] at hx
   have hlim:(x.length * 5+5) * 64≤140737488355328:=by omega
   simp only [↓wR,RA,simprocAttr,TF,ae,h1,ta,hcs,hlim];repeat (simp (disch:=omega) only [ah,b9,bu,bw,bz];try simp only [↓wR,RA,simprocAttr,TF,ae,h1,ta,hcs,hlim])
   refine ⟨(i+1,x++[c]),⟨hlt,by rw [← hx];simp⟩,by simp;omega,by (first|rfl|trivial|omega|((try (simp (disch:=omega) only [ah]));(try (simp only [FB]));first|done|rfl|omega)),?_⟩
   rw [Fy]
  ·rw [if_neg (by rw [h1];decide)] at hx
   simp only [↓wR,RA,simprocAttr,TF,ae,h1];repeat (simp (disch:=omega) only [ah,b9,bu,bw,bz];try simp only [↓wR,RA,simprocAttr,TF,ae,h1])
   exact ⟨(i+1,x),⟨hlt,hx⟩,by simp;omega,by (first|rfl|trivial|omega|((try (simp (disch:=omega) only [ah]));(try (simp only [FB]));first|done|rfl|omega)),by (first|rfl|trivial|omega|((try (simp (disch:=omega) only [ah]));(try (simp only [FB]));first|done|rfl|omega))⟩
 ·rw [dz (decide_eq_false h)] at hx
  rw [List.filter_nil,List.append_nil] at hx
  subst hx
  simp only [↓wR,RA,simprocAttr,TF,ae,h]
noncomputable def ae8 (x:ba × Name × Unit):Option AV:=if c7 x.1∧bc x.2.1 then some ((r1 (cp an)).E true (js x.1 x.2.1)) else none
set_option maxRecDepth 2000000 in
theorem auc (x:ba × Name × Unit) (r:AV) (h:ae8 x=some r):be PP 96 ((aC bg (aC ar a0)).E x) r:=by
 by_cases hc:c7 x.1∧bc x.2.1
 case neg=>simp only [ae8,if_neg hc] at h;cases h
 simp only [ae8,if_pos hc] at h
 cases h
 exact bb (ak.cons (ai fg) (ak.cons (ai A8) (ak.nil PP))) Tryz.func96 (by kernel_rfl) (by kernel_rfl) (by kernel_rfl) (Nat.le_of_ble_eq_true (by kernel_rfl)) (r1 (cp an)) true (js x.1 x.2.1) (aC8 x.1 x.2.1 hc.1 hc.2)
noncomputable abbrev zAt:Nat × Bool × (List AV→M AV):=(96,true,dc (aC bg (aC ar a0)) ae8)
def E1 (n:Name) (b:Option Name):Bool:=match b with|none=>true|some m=>decide (n.length<m.length)
def gx (z:ba) (n:Name) (best:Option Name) (s:bh):Option Name:=
 if (decide ((s.type.toNat:Int)=2) && (Bp s.owner z.origin && (dj n s.owner && E1 s.owner best)))=true then some s.owner else best
def ke (z:ba) (n:Name):Option Name:=z.aj.foldl (gx z n) none
theorem Zo {z:ba} {n:Name} (hz:c7 z):∀ (l:List bh) (b:Option Name),(∀ s ∈ l,s ∈ z.aj)→(∀ m,b=some m→bc m)→∀ m,l.foldl (gx z n) b=some m→bc m:=by
 intro l
 induction l with
 |nil=>intro b _ hb m hm;exact hb m hm
 |cons s l ih=>
  intro b hl hb m hm
  refine ih (gx z n b s) (fun x hx=>hl x (by simp [hx])) (fun q hq=>?_) m hm
  unfold gx at hq
  split at hq
  ·cases hq;exact (hz.set s (hl s (by simp))).owner
  ·exact hb q hq
theorem aBp (z:ba) (n:Name) (hz:c7 z) (hn:bc n):wl PP [ug,asm,o9] 0 (Tryz.f86.body.getD .skip) (dp PP Tryz.f86.results.toList (fun r st=>(r2 ar bp).get true st.h r=some ((ke z n).getD [],(ke z n).isSome))) (ca 0 [bg.val false z,ar.val false n]) (br []):=by
 have hl:=hz.len
 unfold Tryz.f86
 simp only [ic,dm]
 simp only [↓wR,RA,simprocAttr,TF,ae]
 refine bo (T:=[]) (ak.nil PP) mixed Tryz.func127 rfl (by kernel_rfl) (by kernel_rfl) (by kernel_rfl) (by kernel_rfl) ?_;unfold Tryz.f127
 simp only [↓wR,RA,simprocAttr,TF,ae]
 refine ⟨[2,3,6,7,10],?_⟩
 have hib:sy PP 154=some (Tryz.f154.ntmps,Tryz.f154.body.getD .skip):=by kernel_rfl
 simp only [↓wR,RA,simprocAttr,TF,ae,hib]
 refine ⟨by kernel_rfl,fun l=>?_⟩
 unfold Tryz.f154
 simp only [↓wR,RA,simprocAttr,TF,ae]
 refine Uq [0,2,7,8,9] (fun (x:Nat × Option Name)=>[.sc (.func (.yield l) #[] #[]),.ptr 5 0,.vl false 5 (z.aj.map (an.val false)),.sc (.int .i64 (z.aj.length)),.sc (.int .i64 (x.1))]) (fun x=>[some (.row [.vl false 1 (z.origin.map (aq.val false)),.vl false 5 (z.aj.map (an.val false))] 0 2 26),some (.row [.vl false 1 (n.map (aq.val false))] 0 2 23),some (.row [.vl false 1 ((x.2.getD []).map (aq.val false))] 0 2 23),some (.row [.sc (.bool (x.2.isSome))] 0 2 4),some (.row [.vl false 1 (z.origin.map (aq.val false)),.vl false 5 (z.aj.map (an.val false))] 0 2 26),some (.row [.sc (.int .u16 2)] 0 2 28)]) (fun x=>x.1≤z.aj.length∧ke z n=(z.aj.drop x.1).foldl (gx z n) x.2∧∀ m,x.2=some m→bc m) (fun x=>z.aj.length - x.1) (0,none) ⟨Nat.zero_le _,rfl,fun m hm=>by cases hm⟩ (by simp only [↓wR,RA,simprocAttr,TF,ae];(refine me.lax [] (by first|exact Nat.le_of_ble_eq_true rfl|(simp [cx];omega)) ?_ ?_<;>repeat' first|exact iu.nil|exact dq.nil|exact jk.same _|exact jk.nil _ _ _|exact jk.wu _ _|exact dq.refl _ _|apply iu.cons|apply dq.ghost|apply dq.same|apply dq.row)) ?_
 rintro ⟨i,b⟩ ⟨hi,hx,hb⟩
 simp only at hi hx hb
 simp only [↓wR,RA,simprocAttr,TF,ae]
 rw [tv];refine ⟨fun h=>?_,fun h=>?_⟩
 ·obtain ⟨c,hc,hd1,hlt⟩:=dw h
  have hcs:=hz.set c (List.mem_of_getElem? hc)
  have hstep:ke z n=(z.aj.drop (i+1)).foldl (gx z n) (gx z n b c):=by rw [hx,hd1];rfl
  simp only [↓wR,RA,simprocAttr,TF,ae,h,hc]
  rw [tv];refine ⟨fun h2=>?_,fun h2=>?_⟩
  ·have e2:(c.type.toNat:Int)=2:=by simpa using h2
   simp only [↓wR,RA,simprocAttr,TF,ae,h2]
   refine jq [0,2,7,8,9,17,19] ?_
   simp only [↓wR,RA,simprocAttr,TF,ae,j9,gi,Es,hcs.owner,hz.origin]
   rw [bm];refine ⟨fun h3=>?_,fun h3=>?_⟩
   ·simp only [↓wR,RA,simprocAttr,TF,ae,h3,mo,hcs.owner,hn]
    rw [bm];refine ⟨fun h4=>?_,fun h4=>?_⟩
    ·cases b with
     |none=>
      have hb2:gx z n none c=some c.owner:=by simp [gx,e2,h3,h4,E1]
      rw [hb2] at hstep
      simp only [↓wR,RA,simprocAttr,TF,ae,h4,Option.isSome_none];repeat (simp (disch:=omega) only [ah,b9,bu,bw,bz];try simp only [↓wR,RA,simprocAttr,TF,ae,h4,Option.isSome_none])
      exact ⟨(i+1,some c.owner),⟨hlt,hstep,fun m hm=>by cases hm;exact hcs.owner⟩,by simp;omega,by (first|rfl|trivial|omega|((try (simp (disch:=omega) only [ah]));(try (simp only [FB]));first|done|rfl|omega)),by (first|rfl|trivial|omega|((try (simp (disch:=omega) only [ah]));(try (simp only [FB]));first|done|rfl|omega))⟩
     |some m=>
      simp only [↓wR,RA,simprocAttr,TF,ae,h4]
      rw [bj];refine ⟨fun h5=>?_,fun h5=>?_⟩
      ·have hb2:gx z n (some m) c=some c.owner:=by simp [gx,e2,h3,h4,E1];omega
       rw [hb2] at hstep
       simp only [↓wR,RA,simprocAttr,TF,ae,h5];repeat (simp (disch:=omega) only [ah,b9,bu,bw,bz];try simp only [↓wR,RA,simprocAttr,TF,ae,h5])
       exact ⟨(i+1,some c.owner),⟨hlt,hstep,fun m hm=>by cases hm;exact hcs.owner⟩,by simp;omega,by (first|rfl|trivial|omega|((try (simp (disch:=omega) only [ah]));(try (simp only [FB]));first|done|rfl|omega)),by (first|rfl|trivial|omega|((try (simp (disch:=omega) only [ah]));(try (simp only [FB]));first|done|rfl|omega))⟩
      ·have hb2:gx z n (some m) c=some m:=by simp [gx,e2,h3,h4,E1];omega
       rw [hb2] at hstep
       simp only [↓wR,RA,simprocAttr,TF,ae,h5];repeat (simp (disch:=omega) only [ah,b9,bu,bw,bz];try simp only [↓wR,RA,simprocAttr,TF,ae,h5])
       exact ⟨(i+1,some m),⟨hlt,hstep,hb⟩,by simp;omega,by (first|rfl|trivial|omega|((try (simp (disch:=omega) only [ah]));(try (simp only [FB]));first|done|rfl|omega)),by (first|rfl|trivial|omega|((try (simp (disch:=omega) only [ah]));(try (simp only [FB]));first|done|rfl|omega))⟩
    ·have hb2:gx z n b c=b:=by simp [gx,h4]
     rw [hb2] at hstep
     simp only [↓wR,RA,simprocAttr,TF,ae,h4];repeat (simp (disch:=omega) only [ah,b9,bu,bw,bz];try simp only [↓wR,RA,simprocAttr,TF,ae,h4])
     exact ⟨(i+1,b),⟨hlt,hstep,hb⟩,by simp;omega,by (first|rfl|trivial|omega|((try (simp (disch:=omega) only [ah]));(try (simp only [FB]));first|done|rfl|omega)),by (first|rfl|trivial|omega|((try (simp (disch:=omega) only [ah]));(try (simp only [FB]));first|done|rfl|omega))⟩
   ·have hb2:gx z n b c=b:=by simp [gx,h3]
    rw [hb2] at hstep
    simp only [↓wR,RA,simprocAttr,TF,ae,h3];repeat (simp (disch:=omega) only [ah,b9,bu,bw,bz];try simp only [↓wR,RA,simprocAttr,TF,ae,h3])
    exact ⟨(i+1,b),⟨hlt,hstep,hb⟩,by simp;omega,by (first|rfl|trivial|omega|((try (simp (disch:=omega) only [ah]));(try (simp only [FB]));first|done|rfl|omega)),by (first|rfl|trivial|omega|((try (simp (disch:=omega) only [ah]));(try (simp only [FB]));first|done|rfl|omega))⟩
  ·have e2:¬ (c.type.toNat:Int)=2:=by simpa using h2
   have hb2:gx z n b c=b:=by simp [gx,e2]
   rw [hb2] at hstep
   simp only [↓wR,RA,simprocAttr,TF,ae,h2];repeat (simp (disch:=omega) only [ah,b9,bu,bw,bz];try simp only [↓wR,RA,simprocAttr,TF,ae,h2])
   exact ⟨(i+1,b),⟨hlt,hstep,hb⟩,by simp;omega,by (first|rfl|trivial|omega|((try (simp (disch:=omega) only [ah]));(try (simp only [FB]));first|done|rfl|omega)),by (first|rfl|trivial|omega|((try (simp (disch:=omega) only [ah]));(try (simp only [FB]));first|done|rfl|omega))⟩
 ·rw [dz h] at hx
  simp only [↓wR,RA,simprocAttr,TF,ae,h]
  cases b with
  |none=>
   have hc0:ke z n=none:=hx
   simp only [↓wR,RA,simprocAttr,TF,ae,Option.isSome_none]
   rw [hc0]
   rfl
  |some m=>
   have hc0:ke z n=some m:=hx
   simp only [↓wR,RA,simprocAttr,TF,ae,gu,hb m rfl]
   rw [hc0]
   rfl
noncomputable def D9 (x:ba × Name × Unit):Option AV:=if c7 x.1∧bc x.2.1 then some ((r2 ar bp).E true (((ke x.1 x.2.1).getD [],(ke x.1 x.2.1).isSome))) else none
set_option maxRecDepth 2000000 in
theorem Mi (x:ba × Name × Unit) (r:AV) (h:D9 x=some r):be PP 86 ((aC bg (aC ar a0)).E x) r:=by
 by_cases hc:c7 x.1∧bc x.2.1
 case neg=>simp only [D9,if_neg hc] at h;cases h
 simp only [D9,if_pos hc] at h
 cases h
 exact bb (ak.cons (ai nh) (ak.cons (ai Ra) (ak.cons (ai j8) (ak.nil PP)))) Tryz.func86 (by kernel_rfl) (by kernel_rfl) (by kernel_rfl) (Nat.le_of_ble_eq_true (by kernel_rfl)) (r2 ar bp) true (((ke x.1 x.2.1).getD [],(ke x.1 x.2.1).isSome)) (aBp x.1 x.2.1 hc.1 hc.2)
noncomputable abbrev avx:Nat × Bool × (List AV→M AV):=(86,true,dc (aC bg (aC ar a0)) D9)
def sa (z:ba) (n:Name):Bool:=dj n z.origin && (ef n z.origin || z.aj.any fun s=>dj s.owner n)
theorem azt (z:ba) (n:Name) (hz:c7 z) (hn:bc n):wl PP [ug,dv] 0 (Tryz.f109.body.getD .skip) (dp PP Tryz.f109.results.toList (fun r st=>(r1 bp).get true st.h r=some (sa z n))) (ca 0 [bg.val false z,ar.val false n]) (br []):=by
 have hl:=hz.len
 unfold Tryz.f109
 simp only [ic,dm]
 simp only [↓wR,RA,simprocAttr,TF,ae,mo,hn,hz.origin]
 unfold sa
 rw [bm];refine ⟨fun h=>?_,fun h=>?_⟩
 ·have h':dj n z.origin=false:=by simpa using h
  simp only [↓wR,RA,simprocAttr,TF,ae,h,h']
  rfl
 have h':dj n z.origin=true:=by simpa using h
 simp only [↓wR,RA,simprocAttr,TF,ae,h,h',fm,hn,hz.origin]
 rw [bm];refine ⟨fun h2=>?_,fun h2=>?_⟩
 ·simp only [↓wR,RA,simprocAttr,TF,ae,h2]
 simp only [↓wR,RA,simprocAttr,TF,ae,h2]
 refine bo (T:=[]) (ak.nil PP) mixed Tryz.func112 rfl (by kernel_rfl) (by kernel_rfl) (by kernel_rfl) (by kernel_rfl) ?_;unfold Tryz.f112
 simp only [↓wR,RA,simprocAttr,TF,ae]
 refine bo (T:=[]) (ak.nil PP) mixed Tryz.func147 rfl (by kernel_rfl) (by kernel_rfl) (by kernel_rfl) (by kernel_rfl) ?_;unfold Tryz.f147
 simp only [↓wR,RA,simprocAttr,TF,ae]
 refine dh [0,1,7,8] (fun (i:Nat)=>[.vl false 5 (z.aj.map (an.val false)),.fn (.func 145) [] [.ptr 1 0],.sc (.int .i64 (z.aj.length)),.sc (.int .i64 (i))]) (fun _=>[some (.row [.vl false 1 (z.origin.map (aq.val false)),.vl false 5 (z.aj.map (an.val false))] 0 2 26),some (.row [.vl false 1 (n.map (aq.val false))] 0 2 23)]) (fun i=>i≤z.aj.length∧(z.aj.any fun s=>dj s.owner n)=((z.aj.drop i).any fun s=>dj s.owner n)) (fun i=>z.aj.length - i) 0 ⟨Nat.zero_le _,rfl⟩ (by simp only [↓wR,RA,simprocAttr,TF,ae]<;>rfl) (by simp only [↓wR,RA,simprocAttr,TF,ae]<;>rfl) ?_
 rintro i ⟨hi,hx⟩
 simp only [↓wR,RA,simprocAttr,TF,ae]
 rw [bj];refine ⟨fun h3=>?_,fun h3=>?_⟩
 ·obtain ⟨c,hc,hd1,hlt⟩:=dw (decide_eq_true h3)
  rw [hd1,List.any_cons] at hx
  have hcs:=hz.set c (List.mem_of_getElem? hc)
  simp only [↓wR,RA,simprocAttr,TF,ae,h3,hc];repeat (simp (disch:=omega) only [ah,b9,bu,bw,bz];try simp only [↓wR,RA,simprocAttr,TF,ae,h3,hc])
  refine bo (T:=[ug]) (ak.cons (ai nh) (ak.nil PP)) mixed Tryz.func145 rfl (by kernel_rfl) (by kernel_rfl) (by kernel_rfl) (by kernel_rfl) ?_;unfold Tryz.f145
  simp only [↓wR,RA,simprocAttr,TF,ae,mo,hcs.owner,hn]
  rw [bm];refine ⟨fun h4=>?_,fun h4=>?_⟩
  ·rw [h4,Bool.true_or] at hx
   simp only [↓wR,RA,simprocAttr,TF,ae,h4]
   rw [hx]
  ·rw [h4,Bool.false_or] at hx
   simp only [↓wR,RA,simprocAttr,TF,ae,h4];repeat (simp (disch:=omega) only [ah,b9,bu,bw,bz];try simp only [↓wR,RA,simprocAttr,TF,ae,h4])
   exact ⟨i+1,⟨hlt,hx⟩,by omega,by (first|rfl|trivial|omega|((try (simp (disch:=omega) only [ah]));(try (simp only [FB]));first|done|rfl|omega))⟩
 ·rw [dz (decide_eq_false h3),List.any_nil] at hx
  simp only [↓wR,RA,simprocAttr,TF,ae,h3]
  rw [hx]<;>rfl
noncomputable def P5 (x:ba × Name × Unit):Option AV:=if c7 x.1∧bc x.2.1 then some ((r1 bp).E true (sa x.1 x.2.1)) else none
set_option maxRecDepth 2000000 in
theorem Zg (x:ba × Name × Unit) (r:AV) (h:P5 x=some r):be PP 109 ((aC bg (aC ar a0)).E x) r:=by
 by_cases hc:c7 x.1∧bc x.2.1
 case neg=>simp only [P5,if_neg hc] at h;cases h
 simp only [P5,if_pos hc] at h
 cases h
 exact bb (ak.cons (ai nh) (ak.cons (ai fg) (ak.nil PP))) Tryz.func109 (by kernel_rfl) (by kernel_rfl) (by kernel_rfl) (Nat.le_of_ble_eq_true (by kernel_rfl)) (r1 bp) true (sa x.1 x.2.1) (azt x.1 x.2.1 hc.1 hc.2)
noncomputable abbrev aAl:Nat × Bool × (List AV→M AV):=(109,true,dc (aC bg (aC ar a0)) P5)
theorem ap7 (t:UInt16):wl PP [] 0 (Tryz.f188.body.getD .skip) (dp PP Tryz.f188.results.toList (fun r st=>(r1 bp).get true st.h r=some false)) (ca 0 [cw.val false t]) (br []):=by
 unfold Tryz.f188
 simp only [↓wR,RA,simprocAttr,TF,ae,bne_self_eq_false]
noncomputable def Yf (x:UInt16 × Unit):Option AV:=some ((r1 bp).E true (false))
set_option maxRecDepth 2000000 in
theorem ajx (x:UInt16 × Unit) (r:AV) (h:Yf x=some r):be PP 188 ((aC cw a0).E x) r:=by
 cases h
 exact bb (ak.nil PP) Tryz.func188 (by kernel_rfl) (by kernel_rfl) (by kernel_rfl) (Nat.le_of_ble_eq_true (by kernel_rfl)) (r1 bp) true (false) (ap7 x.1)
noncomputable abbrev aCn:Nat × Bool × (List AV→M AV):=(188,true,dc (aC cw a0) Yf)
def afb (a b:UInt16):Int:=if (a.toNat:Int)<b.toNat then -1 else if (b.toNat:Int)<a.toNat then 1 else 0
theorem ax8 (a b:UInt16):wl PP [aCn] 0 (Tryz.f170.body.getD .skip) (dp PP Tryz.f170.results.toList (fun r st=>(r1 (au .i64)).get true st.h r=some (afb a b))) (ca 0 [cw.val false a,cw.val false b]) (br []):=by
 unfold Tryz.f170
 unfold afb
 simp only [↓wR,RA,simprocAttr,TF,ae,Yf]
 rw [bj];refine ⟨fun h=>?_,fun h=>?_⟩
 ·rw [if_pos h]
  simp only [↓wR,RA,simprocAttr,TF,ae,h]
 ·rw [if_neg h]
  simp only [↓wR,RA,simprocAttr,TF,ae,h]
  rw [bj];refine ⟨fun h2=>?_,fun h2=>?_⟩
  ·rw [if_pos h2]
   simp only [↓wR,RA,simprocAttr,TF,ae,h2]
  ·rw [if_neg h2]
   simp only [↓wR,RA,simprocAttr,TF,ae,h2]
noncomputable def ahz (x:UInt16 × UInt16 × Unit):Option AV:=some ((r1 (au .i64)).E true (afb x.1 x.2.1))
set_option maxRecDepth 2000000 in
theorem ama (x:UInt16 × UInt16 × Unit) (r:AV) (h:ahz x=some r):be PP 170 ((aC cw (aC cw a0)).E x) r:=by
 cases h
 exact bb (ak.cons (ai ajx) (ak.nil PP)) Tryz.func170 (by kernel_rfl) (by kernel_rfl) (by kernel_rfl) (Nat.le_of_ble_eq_true (by kernel_rfl)) (r1 (au .i64)) true (afb x.1 x.2.1) (ax8 x.1 x.2.1)
noncomputable abbrev aDb:Nat × Bool × (List AV→M AV):=(170,true,dc (aC cw (aC cw a0)) ahz)
def Zc:List Int→Int
 | []=>0
 |a::r=>if a≠0 then a else Zc r
theorem aDc (l:List Int) (hl:l.length≤16777216):wl PP [] 0 (Tryz.f168.body.getD .skip) (dp PP Tryz.f168.results.toList (fun r st=>(r1 (au .i64)).get true st.h r=some (Zc l))) (ca 0 [(cp (au .i64)).val false l]) (br []):=by
 unfold Tryz.f168
 rw [qe]
 simp only [↓wR,RA,simprocAttr,TF,ae]
 refine dh [3,6,7,8] (fun (i:Nat)=>[.sc (.int .i64 (0)),.vl false 1 (l.map ((au .i64).val false)),.sc (.int .i64 (l.length)),.sc (.int .i64 (i))]) (fun _=>[]) (fun i=>i≤l.length∧Zc l=Zc (l.drop i)) (fun i=>l.length - i) 0 ⟨Nat.zero_le _,rfl⟩ (by simp only [↓wR,RA,simprocAttr,TF,ae]<;>rfl) (by simp only [↓wR,RA,simprocAttr,TF,ae]<;>rfl) ?_
 rintro i ⟨hi,hx⟩
 simp only [↓wR,RA,simprocAttr,TF,ae]
 rw [bj];refine ⟨fun h=>?_,fun h=>?_⟩
 ·obtain ⟨c,hc,hd1,hlt⟩:=dw (decide_eq_true h)
  rw [hd1,Zc] at hx
  simp only [↓wR,RA,simprocAttr,TF,ae,h,hc]
  rw [je];refine ⟨fun ⟨h2,e2⟩=>?_,fun ⟨h2,e2⟩=>?_⟩
  ·rw [if_pos e2] at hx
   simp only [↓wR,RA,simprocAttr,TF,ae,h2]
   rw [hx]
  ·rw [if_neg (by omega)] at hx
   simp only [↓wR,RA,simprocAttr,TF,ae,h2];repeat (simp (disch:=omega) only [ah,b9,bu,bw,bz];try simp only [↓wR,RA,simprocAttr,TF,ae,h2])
   exact ⟨i+1,⟨hlt,hx⟩,by omega,by (first|rfl|trivial|omega|((try (simp (disch:=omega) only [ah]));(try (simp only [FB]));first|done|rfl|omega))⟩
 ·rw [dz (decide_eq_false h)] at hx
  simp only [↓wR,RA,simprocAttr,TF,ae,h]
  rw [hx];rfl
noncomputable def aes (x:List Int × Unit):Option AV:=if x.1.length≤16777216 then some ((r1 (au .i64)).E true (Zc x.1)) else none
set_option maxRecDepth 2000000 in
theorem avy (x:List Int × Unit) (r:AV) (h:aes x=some r):be PP 168 ((aC (cp (au .i64)) a0).E x) r:=by
 by_cases hc:x.1.length≤16777216
 case neg=>simp only [aes,if_neg hc] at h;cases h
 simp only [aes,if_pos hc] at h
 cases h
 exact bb (ak.nil PP) Tryz.func168 (by kernel_rfl) (by kernel_rfl) (by kernel_rfl) (Nat.le_of_ble_eq_true (by kernel_rfl)) (r1 (au .i64)) true (Zc x.1) (aDc x.1 hc)
noncomputable abbrev orC:Nat × Bool × (List AV→M AV):=(168,true,dc (aC (cp (au .i64)) a0) aes)
noncomputable def Qh (a b:bh):Int:=Zc [ahf a.owner b.owner,afb a.type b.type]
theorem amp (a b:bh) (ha:dr a) (hb:dr b):wl PP [ail,aDb,orC] 0 (Tryz.f152.body.getD .skip) (dp PP Tryz.f152.results.toList (fun r st=>(r1 (au .i64)).get true st.h r=some (Qh a b))) (ca 0 [an.val false a,an.val false b]) (br []):=by
 unfold Tryz.f152
 simp only [j4]
 simp only [↓wR,RA,simprocAttr,TF,ae]
 refine ⟨by kernel_rfl,.inl ?_⟩
 simp only [↓wR,RA,simprocAttr,TF,ae,xn,ahz,aes,ha.owner,hb.owner]
 exact ⟨by kernel_rfl,rfl⟩
noncomputable def z4 (x:bh × bh × Unit):Option AV:=if dr x.1∧dr x.2.1 then some ((r1 (au .i64)).E true (Qh x.1 x.2.1)) else none
set_option maxRecDepth 2000000 in
theorem acb (x:bh × bh × Unit) (r:AV) (h:z4 x=some r):be PP 152 ((aC an (aC an a0)).E x) r:=by
 by_cases hc:dr x.1∧dr x.2.1
 case neg=>simp only [z4,if_neg hc] at h;cases h
 simp only [z4,if_pos hc] at h
 cases h
 exact bb (ak.cons (ai Tv) (ak.cons (ai ama) (ak.cons (ai avy) (ak.nil PP)))) Tryz.func152 (by kernel_rfl) (by kernel_rfl) (by kernel_rfl) (Nat.le_of_ble_eq_true (by kernel_rfl)) (r1 (au .i64)) true (Qh x.1 x.2.1) (amp x.1 x.2.1 hc.1 hc.2)
noncomputable abbrev adf:Nat × Bool × (List AV→M AV):=(152,true,dc (aC an (aC an a0)) z4)
noncomputable def x9 (t:UInt16):List db→Bool
 |a::b::r=>if 0≤Ox t a b then false else x9 t (b::r)
 |_=>true
noncomputable def lg (z:ba) (i:Nat) (s:bh):Bool:=
 (match i with|0=>true|k+1=>match z.aj[k]? with|some a=>decide (¬ (Qh a s ≥ 0))|none=>true) && x9 s.type s.data
theorem Em (k:Nat):((k:Int)+1).toNat=k+1:=by omega
theorem Qb (k:Nat):(0:Int)≤(k:Int)+1:=by omega
theorem aa4 (t:UInt16) {l:List db} {k:Nat} {a b:db} (ha:l[k]? = some a) (hb:l[k+1]? = some b):x9 t (l.drop k)=if 0≤Ox t a b then false else x9 t (l.drop (k+1)):=by
 rw [Jr ha,Jr hb];rfl
theorem Vw (t:UInt16) {l:List db} {k:Nat} (h:l.length≤k+1):x9 t (l.drop k)=true:=by
 have:(l.drop k).length≤1:=by rw [List.length_drop];omega
 match hd:l.drop k with
 | []=>rfl
 | [a]=>rfl
 |a::b::r=>rw [hd] at this;simp at this
theorem av5 (l:uz) (i:Nat) (s:bh) (hz:c7 l.z) (hs:dr s) (hi:i≤l.z.aj.length):wl PP [adf,H6] 0 (Tryz.f122.body.getD .skip) (dp PP Tryz.f122.results.toList (fun r st=>(r1 bp).get true st.h r=some (lg l.z i s))) (ca 0 [.gp (nk.cells false l),(au .i64).val false i,an.val false s]) (br []):=by
 have hd:=hs.data
 have hn:=hd.len
 have hl:=hz.len
 unfold Tryz.f122
 simp only [j4]
 simp only [↓wR,RA,simprocAttr,TF,ae,B7]
 refine ⟨by kernel_rfl,.inl ?_⟩
 rw [bj];refine ⟨fun h=>?_,fun h=>?_⟩
 ·cases i with
  |zero=>omega
  |succ k=>
  obtain ⟨a,ha⟩:∃ a,l.z.aj[k]? = some a:=⟨_,List.getElem?_eq_getElem (by omega)⟩
  have has:=hz.set a (List.mem_of_getElem? ha)
  simp only [↓wR,RA,simprocAttr,TF,ae,h,ha,Int.natCast_add,Int.add_sub_cancel,z4,has,hs];repeat (simp (disch:=omega) only [ah,b9,bu,bw,bz];try simp only [↓wR,RA,simprocAttr,TF,ae,h,ha,Int.natCast_add,Int.add_sub_cancel,z4,has,hs])
  refine ⟨by kernel_rfl,?_⟩
  rw [bj];refine ⟨fun h2=>?_,fun h2=>?_⟩
  ·have hv:lg l.z (k+1) s=false:=by simp only [lg,ha];simp [h2]
   simp only [↓wR,RA,simprocAttr,TF,ae,h2]
   rw [hv]
  have hv:lg l.z (k+1) s=x9 s.type s.data:=by simp only [lg,ha];simp [h2]
  clear ha
  simp only [↓wR,RA,simprocAttr,TF,ae,h2]
  refine dh [5,7] (fun (k:Nat)=>[.ptr 0 0,.sc (.int .i64 ((k:Int)+1))]) (fun _=>[some (.row [.vl false 1 (s.owner.map (aq.val false)),.sc (.int .u16 s.type.toNat),.sc (.int .u16 s.cls.toNat),.sc (.int .u32 s.pr.toNat),.vl false 4 (s.data.map (cf.val false))] 0 2 40)]) (fun k=>(k=0∨k+1≤s.data.length)∧x9 s.type s.data=x9 s.type (s.data.drop k)) (fun k=>s.data.length - k) 0 ⟨.inl rfl,rfl⟩ (by simp only [↓wR,RA,simprocAttr,TF,ae]<;>rfl) (by simp only [↓wR,RA,simprocAttr,TF,ae]<;>rfl) ?_
  rintro k ⟨hk,hx⟩
  simp only [↓wR,RA,simprocAttr,TF,ae]
  rw [bj];refine ⟨fun h5=>?_,fun h5=>?_⟩
  ·obtain ⟨a,ha⟩:∃ a,s.data[k]? = some a:=⟨_,List.getElem?_eq_getElem (by omega)⟩
   obtain ⟨b,hb⟩:∃ b,s.data[k+1]? = some b:=⟨_,List.getElem?_eq_getElem (by omega)⟩
   rw [aa4 _ ha hb] at hx
   have has:=hd.mem a (List.mem_of_getElem? ha)
   have hbs:=hd.mem b (List.mem_of_getElem? hb)
   simp only [↓wR,RA,simprocAttr,TF,ae,h5]
   refine ⟨by kernel_rfl,.inl ?_⟩
   simp only [↓wR,RA,simprocAttr,TF,ae,ha,hb,Int.add_sub_cancel,Em,Qb,oa,has,hbs];repeat (simp (disch:=omega) only [ah,b9,bu,bw,bz];try simp only [↓wR,RA,simprocAttr,TF,ae,ha,hb,Int.add_sub_cancel,Em,Qb,oa,has,hbs])
   refine ⟨by kernel_rfl,?_⟩
   rw [bj];refine ⟨fun h6=>?_,fun h6=>?_⟩
   ·rw [if_pos h6] at hx
    simp only [↓wR,RA,simprocAttr,TF,ae,h6]
    rw [hv,hx]
   ·rw [if_neg h6] at hx
    simp only [↓wR,RA,simprocAttr,TF,ae,h6];repeat (simp (disch:=omega) only [ah,b9,bu,bw,bz];try simp only [↓wR,RA,simprocAttr,TF,ae,h6])
    exact ⟨k+1,⟨.inr (by omega),hx⟩,by omega,by (first|rfl|trivial|omega|((try (simp (disch:=omega) only [ah]));(try (simp only [FB]));first|done|rfl|omega))⟩
  ·rw [Vw _ (by omega)] at hx
   simp only [↓wR,RA,simprocAttr,TF,ae,h5]
   rw [hv,hx]
 ·simp only [↓wR,RA,simprocAttr,TF,ae,h]
  have hi0:i=0:=by omega
  have hv:lg l.z i s=x9 s.type s.data:=by rw [hi0];simp [lg]
  refine ⟨by kernel_rfl,?_⟩
  refine dh [5,7] (fun (k:Nat)=>[.ptr 0 0,.sc (.int .i64 ((k:Int)+1))]) (fun _=>[some (.row [.vl false 1 (s.owner.map (aq.val false)),.sc (.int .u16 s.type.toNat),.sc (.int .u16 s.cls.toNat),.sc (.int .u32 s.pr.toNat),.vl false 4 (s.data.map (cf.val false))] 0 2 40)]) (fun k=>(k=0∨k+1≤s.data.length)∧x9 s.type s.data=x9 s.type (s.data.drop k)) (fun k=>s.data.length - k) 0 ⟨.inl rfl,rfl⟩ (by simp only [↓wR,RA,simprocAttr,TF,ae]<;>rfl) (by simp only [↓wR,RA,simprocAttr,TF,ae]<;>rfl) ?_
  rintro k ⟨hk,hx⟩
  simp only [↓wR,RA,simprocAttr,TF,ae]
  rw [bj];refine ⟨fun h5=>?_,fun h5=>?_⟩
  ·obtain ⟨a,ha⟩:∃ a,s.data[k]? = some a:=⟨_,List.getElem?_eq_getElem (by omega)⟩
   obtain ⟨b,hb⟩:∃ b,s.data[k+1]? = some b:=⟨_,List.getElem?_eq_getElem (by omega)⟩
   rw [aa4 _ ha hb] at hx
   have has:=hd.mem a (List.mem_of_getElem? ha)
   have hbs:=hd.mem b (List.mem_of_getElem? hb)
   simp only [↓wR,RA,simprocAttr,TF,ae,h5]
   refine ⟨by kernel_rfl,.inl ?_⟩
   simp only [↓wR,RA,simprocAttr,TF,ae,ha,hb,Int.add_sub_cancel,Em,Qb,oa,has,hbs];repeat (simp (disch:=omega) only [ah,b9,bu,bw,bz];try simp only [↓wR,RA,simprocAttr,TF,ae,ha,hb,Int.add_sub_cancel,Em,Qb,oa,has,hbs])
   refine ⟨by kernel_rfl,?_⟩
   rw [bj];refine ⟨fun h6=>?_,fun h6=>?_⟩
   ·rw [if_pos h6] at hx
    simp only [↓wR,RA,simprocAttr,TF,ae,h6]
    rw [hv,hx]
   ·rw [if_neg h6] at hx
    simp only [↓wR,RA,simprocAttr,TF,ae,h6];repeat (simp (disch:=omega) only [ah,b9,bu,bw,bz];try simp only [↓wR,RA,simprocAttr,TF,ae,h6])
    exact ⟨k+1,⟨.inr (by omega),hx⟩,by omega,by (first|rfl|trivial|omega|((try (simp (disch:=omega) only [ah]));(try (simp only [FB]));first|done|rfl|omega))⟩
  ·rw [Vw _ (by omega)] at hx
   simp only [↓wR,RA,simprocAttr,TF,ae,h5]
   rw [hv,hx]
theorem arn (l:uz) (i:Int) (s:bh) (hz:c7 l.z) (hs:dr s) (hi : 0≤i∧i≤l.z.aj.length):wl PP [adf,H6] 0 (Tryz.f122.body.getD .skip) (dp PP Tryz.f122.results.toList (fun r st=>(r1 bp).get true st.h r=some (lg l.z i.toNat s))) (ca 0 [.gp (nk.cells false l),(au .i64).val false i,an.val false s]) (br []):=by
 have:=av5 l i.toNat s hz hs (by omega)
 rwa [Int.toNat_of_nonneg hi.1] at this
noncomputable def Iv (x:uz × Int × bh × Unit):Option AV:=if (c7 x.1.z∧dr x.2.2.1)∧0≤x.2.1∧x.2.1≤x.1.z.aj.length then some ((r1 bp).E true (lg x.1.z x.2.1.toNat x.2.2.1)) else none
set_option maxRecDepth 2000000 in
theorem Q3 (x:uz × Int × bh × Unit) (r:AV) (h:Iv x=some r):be PP 122 ((aP nk (aC (au .i64) (aC an a0))).E x) r:=by
 by_cases hc:(c7 x.1.z∧dr x.2.2.1)∧0≤x.2.1∧x.2.1≤x.1.z.aj.length
 case neg=>simp only [Iv,if_neg hc] at h;cases h
 simp only [Iv,if_pos hc] at h
 cases h
 exact bb (ak.cons (ai acb) (ak.cons (ai F0) (ak.nil PP))) Tryz.func122 (by kernel_rfl) (by kernel_rfl) (by kernel_rfl) (Nat.le_of_ble_eq_true (by kernel_rfl)) (r1 bp) true (lg x.1.z x.2.1.toNat x.2.2.1) (arn x.1 x.2.1 x.2.2.1 hc.1.1 hc.1.2 hc.2)
noncomputable abbrev jy:Nat × Bool × (List AV→M AV):=(122,true,dc (aP nk (aC (au .i64) (aC an a0))) Iv)
def Ew (i:Nat) (n:Name):Nat→List bh→Bool
 |_,[]=>false
 |k,o::r=>(decide (¬ (k:Int)=i) && ef o.owner n) || Ew i n (k+1) r
def jm (z:ba) (i:Nat) (s:bh):Bool:=
 if ¬ (s.type.toNat:Int)=5 then true else if ¬ (s.data.length:Int)=1 then false else if ef s.owner z.origin=true then false else !Ew i s.owner 0 z.aj
theorem aue (l:uz) (i:Nat) (s:bh) (hz:c7 l.z) (hs:dr s):wl PP [dv] 0 (Tryz.f128.body.getD .skip) (dp PP Tryz.f128.results.toList (fun r st=>(r1 bp).get true st.h r=some (jm l.z i s))) (ca 0 [.gp (nk.cells false l),(au .i64).val false i,an.val false s]) (br []):=by
 have hl:=hz.len
 unfold Tryz.f128
 simp only [j4]
 simp only [↓wR,RA,simprocAttr,TF,ae,B7]
 unfold jm
 rw [je];refine ⟨fun ⟨h,e⟩=>?_,fun ⟨h,e⟩=>?_⟩
 ·rw [if_pos e]
  simp only [↓wR,RA,simprocAttr,TF,ae,h]
 rw [if_neg (by omega)]
 simp only [↓wR,RA,simprocAttr,TF,ae,h]
 refine ⟨by kernel_rfl,.inl ?_⟩
 rw [je];refine ⟨fun ⟨h2,e2⟩=>?_,fun ⟨h2,e2⟩=>?_⟩
 ·rw [if_pos e2]
  simp only [↓wR,RA,simprocAttr,TF,ae,h2]
  exact by kernel_rfl
 rw [if_neg (by omega)]
 simp only [↓wR,RA,simprocAttr,TF,ae,h2,fm,hs.owner,hz.origin]
 refine ⟨by kernel_rfl,?_⟩
 rw [bm];refine ⟨fun h3=>?_,fun h3=>?_⟩
 ·rw [if_pos h3]
  simp only [↓wR,RA,simprocAttr,TF,ae,h3]
 rw [if_neg (by rw [h3];decide)]
 simp only [↓wR,RA,simprocAttr,TF,ae,h3]
 refine dh [1,5,30,31,32] (fun (k:Nat)=>[.sc (.int .i64 (i)),.ptr 0 0,.vl false 5 (l.z.aj.map (an.val false)),.sc (.int .i64 (l.z.aj.length)),.sc (.int .i64 (k))]) (fun _=>[some (.row [.vl false 1 (s.owner.map (aq.val false)),.sc (.int .u16 s.type.toNat),.sc (.int .u16 s.cls.toNat),.sc (.int .u32 s.pr.toNat),.vl false 4 (s.data.map (cf.val false))] 0 2 40)]) (fun k=>k≤l.z.aj.length∧Ew i s.owner 0 l.z.aj=Ew i s.owner k (l.z.aj.drop k)) (fun k=>l.z.aj.length - k) 0 ⟨Nat.zero_le _,rfl⟩ (by simp only [↓wR,RA,simprocAttr,TF,ae]<;>rfl) (by simp only [↓wR,RA,simprocAttr,TF,ae]<;>rfl) ?_
 rintro k ⟨hk,hx⟩
 simp only [↓wR,RA,simprocAttr,TF,ae]
 rw [bj];refine ⟨fun h4=>?_,fun h4=>?_⟩
 ·obtain ⟨c,hc,hd1,hlt⟩:=dw (decide_eq_true h4)
  rw [hd1,Ew] at hx
  have hcs:=hz.set c (List.mem_of_getElem? hc)
  simp only [↓wR,RA,simprocAttr,TF,ae,h4,hc]
  rw [je];refine ⟨fun ⟨h5,e5⟩=>?_,fun ⟨h5,e5⟩=>?_⟩
  ·rw [decide_eq_true e5,Bool.true_and] at hx
   simp only [↓wR,RA,simprocAttr,TF,ae,h5,fm,hcs.owner,hs.owner]
   rw [bm];refine ⟨fun h6=>?_,fun h6=>?_⟩
   ·rw [h6,Bool.true_or] at hx
    simp only [↓wR,RA,simprocAttr,TF,ae,h6]
    rw [hx];rfl
   ·rw [h6,Bool.false_or] at hx
    simp only [↓wR,RA,simprocAttr,TF,ae,h6];repeat (simp (disch:=omega) only [ah,b9,bu,bw,bz];try simp only [↓wR,RA,simprocAttr,TF,ae,h6])
    exact ⟨k+1,⟨hlt,hx⟩,by omega,by (first|rfl|trivial|omega|((try (simp (disch:=omega) only [ah]));(try (simp only [FB]));first|done|rfl|omega))⟩
  ·rw [decide_eq_false (by omega),Bool.false_and,Bool.false_or] at hx
   simp only [↓wR,RA,simprocAttr,TF,ae,h5];repeat (simp (disch:=omega) only [ah,b9,bu,bw,bz];try simp only [↓wR,RA,simprocAttr,TF,ae,h5])
   exact ⟨k+1,⟨hlt,hx⟩,by omega,by (first|rfl|trivial|omega|((try (simp (disch:=omega) only [ah]));(try (simp only [FB]));first|done|rfl|omega))⟩
 ·rw [dz (decide_eq_false h4),Ew] at hx
  simp only [↓wR,RA,simprocAttr,TF,ae,h4]
  rw [hx];rfl
theorem apr (l:uz) (i:Int) (s:bh) (hz:c7 l.z) (hs:dr s) (hi : 0≤i):wl PP [dv] 0 (Tryz.f128.body.getD .skip) (dp PP Tryz.f128.results.toList (fun r st=>(r1 bp).get true st.h r=some (jm l.z i.toNat s))) (ca 0 [.gp (nk.cells false l),(au .i64).val false i,an.val false s]) (br []):=by
 have:=aue l i.toNat s hz hs
 rwa [Int.toNat_of_nonneg hi] at this
noncomputable def E6 (x:uz × Int × bh × Unit):Option AV:=if (c7 x.1.z∧dr x.2.2.1)∧0≤x.2.1 then some ((r1 bp).E true (jm x.1.z x.2.1.toNat x.2.2.1)) else none
set_option maxRecDepth 2000000 in
theorem Q7 (x:uz × Int × bh × Unit) (r:AV) (h:E6 x=some r):be PP 128 ((aP nk (aC (au .i64) (aC an a0))).E x) r:=by
 by_cases hc:(c7 x.1.z∧dr x.2.2.1)∧0≤x.2.1
 case neg=>simp only [E6,if_neg hc] at h;cases h
 simp only [E6,if_pos hc] at h
 cases h
 exact bb (ak.cons (ai fg) (ak.nil PP)) Tryz.func128 (by kernel_rfl) (by kernel_rfl) (by kernel_rfl) (Nat.le_of_ble_eq_true (by kernel_rfl)) (r1 bp) true (jm x.1.z x.2.1.toNat x.2.2.1) (apr x.1 x.2.1 x.2.2.1 hc.1.1 hc.1.2 hc.2)
noncomputable abbrev jz:Nat × Bool × (List AV→M AV):=(128,true,dc (aP nk (aC (au .i64) (aC an a0))) E6)
def oq (s:bh):Bool:=if ¬ (s.cls.toNat:Int)=1 then false else if (s.type.toNat:Int)=0 then false else if (s.type.toNat:Int)=41 then false else !decide ((s.type.toNat:Int)=255)
theorem avp (i:Int) (s:bh):wl PP [] 0 (Tryz.f123.body.getD .skip) (dp PP Tryz.f123.results.toList (fun r st=>(r1 bp).get true st.h r=some (oq s))) (ca 0 [(au .i64).val false i,an.val false s]) (br []):=by
 unfold Tryz.f123
 simp only [j4]
 simp only [↓wR,RA,simprocAttr,TF,ae]
 unfold oq
 rw [cz];refine ⟨fun ⟨h,e⟩=>?_,fun ⟨h,e⟩=>?_⟩
 ·rw [if_neg (by omega)]
  simp only [↓wR,RA,simprocAttr,TF,ae,h]
  rw [je];refine ⟨fun ⟨h2,e2⟩=>?_,fun ⟨h2,e2⟩=>?_⟩
  ·rw [if_neg e2]
   simp only [↓wR,RA,simprocAttr,TF,ae,h2]
   rw [je];refine ⟨fun ⟨h3,e3⟩=>?_,fun ⟨h3,e3⟩=>?_⟩
   ·rw [if_neg e3]
    simp only [↓wR,RA,simprocAttr,TF,ae,h3]
    rfl
   ·rw [if_pos e3]
    simp only [↓wR,RA,simprocAttr,TF,ae,h3]
  ·rw [if_pos e2]
   simp only [↓wR,RA,simprocAttr,TF,ae,h2]
 ·rw [if_pos e]
  simp only [↓wR,RA,simprocAttr,TF,ae,h]
noncomputable def Y1 (x:Int × bh × Unit):Option AV:=some ((r1 bp).E true (oq x.2.1))
set_option maxRecDepth 2000000 in
theorem Qy (x:Int × bh × Unit) (r:AV) (h:Y1 x=some r):be PP 123 ((aC (au .i64) (aC an a0)).E x) r:=by
 cases h
 exact bb (ak.nil PP) Tryz.func123 (by kernel_rfl) (by kernel_rfl) (by kernel_rfl) (Nat.le_of_ble_eq_true (by kernel_rfl)) (r1 bp) true (oq x.2.1) (avp x.1 x.2.1)
noncomputable abbrev j0:Nat × Bool × (List AV→M AV):=(123,true,dc (aC (au .i64) (aC an a0)) Y1)
theorem atf (i:Int) (s:bh) (z:ba) (hs:dr s) (hz:c7 z):wl PP [ug] 0 (Tryz.f124.body.getD .skip) (dp PP Tryz.f124.results.toList (fun r st=>(r1 bp).get true st.h r=some (dj s.owner z.origin))) (ca 0 [(au .i64).val false i,an.val false s,.gp (bg.cells false z)]) (br []):=by
 unfold Tryz.f124
 simp only [j4]
 simp only [↓wR,RA,simprocAttr,TF,ae,Bn,mo,hs.owner,hz.origin]
noncomputable def Fh (x:Int × bh × ba × Unit):Option AV:=if dr x.2.1∧c7 x.2.2.1 then some ((r1 bp).E true (dj x.2.1.owner x.2.2.1.origin)) else none
set_option maxRecDepth 2000000 in
theorem Me (x:Int × bh × ba × Unit) (r:AV) (h:Fh x=some r):be PP 124 ((aC (au .i64) (aC an (aP bg a0))).E x) r:=by
 by_cases hc:dr x.2.1∧c7 x.2.2.1
 case neg=>simp only [Fh,if_neg hc] at h;cases h
 simp only [Fh,if_pos hc] at h
 cases h
 exact bb (ak.cons (ai nh) (ak.nil PP)) Tryz.func124 (by kernel_rfl) (by kernel_rfl) (by kernel_rfl) (Nat.le_of_ble_eq_true (by kernel_rfl)) (r1 bp) true (dj x.2.1.owner x.2.2.1.origin) (atf x.1 x.2.1 x.2.2.1 hc.1 hc.2)
noncomputable abbrev jd:Nat × Bool × (List AV→M AV):=(124,true,dc (aC (au .i64) (aC an (aP bg a0))) Fh)
def lx (s:bh):Bool:=if ¬ (s.type.toNat:Int)=2 then true else match s.owner[0]? with|none=>true|some a=>!decide (a=qq)
theorem azh (i:Int) (s:bh) (hs:dr s):wl PP [] 0 (Tryz.f129.body.getD .skip) (dp PP Tryz.f129.results.toList (fun r st=>(r1 bp).get true st.h r=some (lx s))) (ca 0 [(au .i64).val false i,an.val false s]) (br []):=by
 have hn:=hs.owner.lt
 unfold Tryz.f129
 simp only [j4]
 simp only [↓wR,RA,simprocAttr,TF,ae]
 unfold lx
 rw [je];refine ⟨fun ⟨h,e⟩=>?_,fun ⟨h,e⟩=>?_⟩
 ·rw [if_pos e]
  simp only [↓wR,RA,simprocAttr,TF,ae,h]
 rw [if_neg (by omega)]
 simp only [↓wR,RA,simprocAttr,TF,ae,h]
 rw [cz];refine ⟨fun ⟨h2,e2⟩=>?_,fun ⟨h2,e2⟩=>?_⟩
 ·have hnil:s.owner=[]:=List.eq_nil_of_length_eq_zero (by omega)
  have h0:s.owner[0]? = none:=by rw [hnil];rfl
  rw [h0]
  simp only [↓wR,RA,simprocAttr,TF,ae,h2]
 ·obtain ⟨a,ha⟩:∃ a,s.owner[0]? = some a:=⟨_,List.getElem?_eq_getElem (by omega)⟩
  have h0 : 0<s.owner.length:=by omega
  rw [ha]
  simp only [↓wR,RA,simprocAttr,TF,ae,h2,ha,h0]
  rfl
noncomputable def I2 (x:Int × bh × Unit):Option AV:=if dr x.2.1 then some ((r1 bp).E true (lx x.2.1)) else none
set_option maxRecDepth 2000000 in
theorem Wu (x:Int × bh × Unit) (r:AV) (h:I2 x=some r):be PP 129 ((aC (au .i64) (aC an a0)).E x) r:=by
 by_cases hc:dr x.2.1
 case neg=>simp only [I2,if_neg hc] at h;cases h
 simp only [I2,if_pos hc] at h
 cases h
 exact bb (ak.nil PP) Tryz.func129 (by kernel_rfl) (by kernel_rfl) (by kernel_rfl) (Nat.le_of_ble_eq_true (by kernel_rfl)) (r1 bp) true (lx x.2.1) (azh x.1 x.2.1 hc)
noncomputable abbrev l6:Nat × Bool × (List AV→M AV):=(129,true,dc (aC (au .i64) (aC an a0)) I2)
def qo (z:ba) (s:bh):Bool:=
 match ke z s.owner with
 |none=>true
 |some c=>if (s.type.toNat:Int)=1 then true else if (s.type.toNat:Int)=28 then true else if (s.type.toNat:Int)=2 then ef c s.owner else false
theorem aCk (i:Int) (s:bh) (z:ba) (hs:dr s) (hz:c7 z):wl PP [avx,dv] 0 (Tryz.f130.body.getD .skip) (dp PP Tryz.f130.results.toList (fun r st=>(r1 bp).get true st.h r=some (qo z s))) (ca 0 [(au .i64).val false i,an.val false s,.gp (bg.cells false z)]) (br []):=by
 have hsm:=Zo (n:=s.owner) hz z.aj none (fun _ h=>h) (fun m hm=>by cases hm)
 change ∀ m,ke z s.owner=some m→bc m at hsm
 unfold Tryz.f130
 simp only [j4]
 unfold qo
 cases hc:ke z s.owner with
 |none=>
  simp only [↓wR,RA,simprocAttr,TF,ae,Bn,D9,hs.owner,hz,hc,Option.isSome_none]
  done
 |some c=>
  simp only [↓wR,RA,simprocAttr,TF,ae,Bn,D9,hs.owner,hz,hc]
  rw [cz];refine ⟨fun ⟨h,e⟩=>?_,fun ⟨h,e⟩=>?_⟩
  ·rw [if_pos e]
   simp only [↓wR,RA,simprocAttr,TF,ae,h]
  rw [if_neg e]
  simp only [↓wR,RA,simprocAttr,TF,ae,h]
  rw [cz];refine ⟨fun ⟨h2,e2⟩=>?_,fun ⟨h2,e2⟩=>?_⟩
  ·rw [if_pos e2]
   simp only [↓wR,RA,simprocAttr,TF,ae,h2]
  rw [if_neg e2]
  simp only [↓wR,RA,simprocAttr,TF,ae,h2]
  rw [cz];refine ⟨fun ⟨h3,e3⟩=>?_,fun ⟨h3,e3⟩=>?_⟩
  ·rw [if_pos e3]
   simp only [↓wR,RA,simprocAttr,TF,ae,h3,fm,hs.owner,hsm c hc]
  ·rw [if_neg e3]
   simp only [↓wR,RA,simprocAttr,TF,ae,h3]
noncomputable def P2 (x:Int × bh × ba × Unit):Option AV:=if dr x.2.1∧c7 x.2.2.1 then some ((r1 bp).E true (qo x.2.2.1 x.2.1)) else none
set_option maxRecDepth 2000000 in
theorem Y3 (x:Int × bh × ba × Unit) (r:AV) (h:P2 x=some r):be PP 130 ((aC (au .i64) (aC an (aP bg a0))).E x) r:=by
 by_cases hc:dr x.2.1∧c7 x.2.2.1
 case neg=>simp only [P2,if_neg hc] at h;cases h
 simp only [P2,if_pos hc] at h
 cases h
 exact bb (ak.cons (ai Mi) (ak.cons (ai fg) (ak.nil PP))) Tryz.func130 (by kernel_rfl) (by kernel_rfl) (by kernel_rfl) (Nat.le_of_ble_eq_true (by kernel_rfl)) (r1 bp) true (qo x.2.2.1 x.2.1) (aCk x.1 x.2.1 x.2.2.1 hc.1 hc.2)
noncomputable abbrev pv:Nat × Bool × (List AV→M AV):=(130,true,dc (aC (au .i64) (aC an (aP bg a0))) P2)
def kl (z:ba) (p:Nat × Nat) (s:bh):Nat × Nat:=
 if (s.type.toNat:Int)=6 then (p.1+1,if (ef s.owner z.origin && decide ((s.data.length:Int)=1))=true then p.2+1 else p.2) else p
def gw (z:ba):Nat × Nat:=z.aj.foldl (kl z) (0,0)
theorem ayt (k:uz) (hz:c7 k.z):wl PP [dv] 0 (Tryz.f125.body.getD .skip) (dp PP Tryz.f125.results.toList (fun r st=>(r2 (au .i64) (au .i64)).get true st.h r=some (((gw k.z).1:Int),((gw k.z).2:Int)))) (ca 0 [.gp (nk.cells false k)]) (br []):=by
 have hl:=hz.len
 unfold Tryz.f125
 simp only [↓wR,RA,simprocAttr,TF,ae,B7]
 refine bo (T:=[]) (ak.nil PP) mixed Tryz.func127 rfl (by kernel_rfl) (by kernel_rfl) (by kernel_rfl) (by kernel_rfl) ?_;unfold Tryz.f127
 simp only [↓wR,RA,simprocAttr,TF,ae]
 refine ⟨[1,4,5,11],?_⟩
 have hib:sy PP 154=some (Tryz.f154.ntmps,Tryz.f154.body.getD .skip):=by kernel_rfl
 simp only [↓wR,RA,simprocAttr,TF,ae,hib]
 refine ⟨by kernel_rfl,fun l=>?_⟩
 unfold Tryz.f154
 simp only [↓wR,RA,simprocAttr,TF,ae]
 refine Hd [0,2,7,8,9] (fun (x:Nat × Nat × Nat)=>[.sc (.func (.yield l) #[] #[]),.ptr 4 0,.vl false 5 (k.z.aj.map (an.val false)),.sc (.int .i64 (k.z.aj.length)),.sc (.int .i64 (x.1))]) (fun x=>[some (.row [.gp [.vl false 1 (k.z.origin.map (aq.val false)),.vl false 5 (k.z.aj.map (an.val false)),.sc (.int .i64 (k.e))]] 0 2 178),some (.row [.sc (.int .i64 (x.2.1:Int))] 0 2 3),some (.row [.sc (.int .i64 (x.2.2:Int))] 0 2 3),some (.row [.vl false 1 (k.z.origin.map (aq.val false)),.vl false 5 (k.z.aj.map (an.val false))] 0 2 26),some (.row [.sc (.int .u16 6)] 0 2 28)]) (fun x=>x.1≤k.z.aj.length∧x.2.1≤x.1∧x.2.2≤x.1∧gw k.z=(k.z.aj.drop x.1).foldl (kl k.z) x.2) (fun x=>k.z.aj.length - x.1) (0,0,0) ⟨Nat.zero_le _,Nat.le_refl _,Nat.le_refl _,rfl⟩ (by simp only [↓wR,RA,simprocAttr,TF,ae]<;>rfl) (by simp only [↓wR,RA,simprocAttr,TF,ae]<;>rfl) ?_
 rintro ⟨i,n,m⟩ ⟨hi,hn,hm,hx⟩
 simp only at hi hn hm hx
 simp only [↓wR,RA,simprocAttr,TF,ae]
 rw [tv];refine ⟨fun h=>?_,fun h=>?_⟩
 ·obtain ⟨c,hc,hd1,hlt⟩:=dw h
  have hcs:=hz.set c (List.mem_of_getElem? hc)
  have hstep:gw k.z=(k.z.aj.drop (i+1)).foldl (kl k.z) (kl k.z (n,m) c):=by rw [hx,hd1];rfl
  simp only [↓wR,RA,simprocAttr,TF,ae,h,hc]
  rw [tv];refine ⟨fun h2=>?_,fun h2=>?_⟩
  ·have e2:(c.type.toNat:Int)=6:=by simpa using h2
   simp only [↓wR,RA,simprocAttr,TF,ae,h2]
   refine jq [0,2,7,8,9,17,19] ?_
   simp only [↓wR,RA,simprocAttr,TF,ae,j9,gi];repeat (simp (disch:=omega) only [ah,b9,bu,bw,bz];try simp only [↓wR,RA,simprocAttr,TF,ae,j9,gi])
   refine ⟨by kernel_rfl,.inl ?_⟩
   simp only [↓wR,RA,simprocAttr,TF,ae,fm,hcs.owner,hz.origin]
   have fin:∀ q,kl k.z (n,m) c=(n+1,q)→q≤i+1→gw k.z=(k.z.aj.drop (i+1)).foldl (kl k.z) (n+1,q):=fun q hq _=>by rw [hstep,hq]
   rw [bm];refine ⟨fun h3=>?_,fun h3=>?_⟩
   ·simp only [↓wR,RA,simprocAttr,TF,ae,h3]
    refine ⟨by kernel_rfl,?_⟩
    rw [cz];refine ⟨fun ⟨h4,e4⟩=>?_,fun ⟨h4,e4⟩=>?_⟩
    ·have hq:kl k.z (n,m) c=(n+1,m+1):=by simp [kl,e2,h3,e4]
     simp only [↓wR,RA,simprocAttr,TF,ae,h4];repeat (simp (disch:=omega) only [ah,b9,bu,bw,bz];try simp only [↓wR,RA,simprocAttr,TF,ae,h4])
     exact ⟨(i+1,n+1,m+1),⟨hlt,by simp;omega,by simp;omega,fin _ hq (by omega)⟩,by simp;omega,by (first|rfl|trivial|omega|((try (simp (disch:=omega) only [ah]));(try (simp only [FB]));first|done|rfl|omega)),by (first|rfl|trivial|omega|((try (simp (disch:=omega) only [ah]));(try (simp only [FB]));first|done|rfl|omega))⟩
    ·have hq:kl k.z (n,m) c=(n+1,m):=by simp [kl,e2,h3,e4]
     simp only [↓wR,RA,simprocAttr,TF,ae,h4];repeat (simp (disch:=omega) only [ah,b9,bu,bw,bz];try simp only [↓wR,RA,simprocAttr,TF,ae,h4])
     exact ⟨(i+1,n+1,m),⟨hlt,by simp;omega,by simp;omega,fin _ hq (by omega)⟩,by simp;omega,by (first|rfl|trivial|omega|((try (simp (disch:=omega) only [ah]));(try (simp only [FB]));first|done|rfl|omega)),by (first|rfl|trivial|omega|((try (simp (disch:=omega) only [ah]));(try (simp only [FB]));first|done|rfl|omega))⟩
   ·have hq:kl k.z (n,m) c=(n+1,m):=by simp [kl,e2,h3]
    simp only [↓wR,RA,simprocAttr,TF,ae,h3]
    refine ⟨by kernel_rfl,?_⟩
    exact ⟨(i+1,n+1,m),⟨hlt,by simp;omega,by simp;omega,fin _ hq (by omega)⟩,by simp;omega,by (first|rfl|trivial|omega|((try (simp (disch:=omega) only [ah]));(try (simp only [FB]));first|done|rfl|omega)),by (first|rfl|trivial|omega|((try (simp (disch:=omega) only [ah]));(try (simp only [FB]));first|done|rfl|omega))⟩
  ·have e2:¬ (c.type.toNat:Int)=6:=by simpa using h2
   have hb2:kl k.z (n,m) c=(n,m):=by simp [kl,e2]
   rw [hb2] at hstep
   simp only [↓wR,RA,simprocAttr,TF,ae,h2];repeat (simp (disch:=omega) only [ah,b9,bu,bw,bz];try simp only [↓wR,RA,simprocAttr,TF,ae,h2])
   exact ⟨(i+1,n,m),⟨hlt,by simp;omega,by simp;omega,hstep⟩,by simp;omega,by (first|rfl|trivial|omega|((try (simp (disch:=omega) only [ah]));(try (simp only [FB]));first|done|rfl|omega)),by (first|rfl|trivial|omega|((try (simp (disch:=omega) only [ah]));(try (simp only [FB]));first|done|rfl|omega))⟩
 ·rw [dz h] at hx
  simp only [↓wR,RA,simprocAttr,TF,ae,h]
  refine ⟨by kernel_rfl,.inl ?_⟩
  refine ⟨by kernel_rfl,?_⟩
  rw [hx];rfl
noncomputable def Md (x:uz × Unit):Option AV:=if c7 x.1.z then some ((r2 (au .i64) (au .i64)).E true ((((gw x.1.z).1:Int),((gw x.1.z).2:Int)))) else none
set_option maxRecDepth 2000000 in
theorem Wx (x:uz × Unit) (r:AV) (h:Md x=some r):be PP 125 ((aP nk a0).E x) r:=by
 by_cases hc:c7 x.1.z
 case neg=>simp only [Md,if_neg hc] at h;cases h
 simp only [Md,if_pos hc] at h
 cases h
 exact bb (ak.cons (ai fg) (ak.nil PP)) Tryz.func125 (by kernel_rfl) (by kernel_rfl) (by kernel_rfl) (Nat.le_of_ble_eq_true (by kernel_rfl)) (r2 (au .i64) (au .i64)) true ((((gw x.1.z).1:Int),((gw x.1.z).2:Int))) (ayt x.1 hc)
noncomputable abbrev l7:Nat × Bool × (List AV→M AV):=(125,true,dc (aP nk a0) Md)
def da (b:Bool) (err e:Int):Int:=if e=0∧b=false then err else e
def gm (err:Int) (p:Nat→bh→Bool):Nat→List bh→Int→Int
 |_,[],e=>e
 |i,s::r,e=>if e≠0 then e else gm err p (i+1) r (da (p i s) err e)
def k8 (l:List bh):Nat:=l.foldl (fun n s=>n+s.data.length) 0
noncomputable def Cy:List bh→Int→Int
 | [],e=>e
 |s::r,e=>Cy r (if e=0 then oy s else e)
noncomputable def v9 (z:ba):Int:=if cg z.origin≠0 then cg z.origin else Cy z.aj (da (decide (k8 z.aj≤2048)) 3 0)
def Ku (z:ba) (l:List bh):Bool:=l.any fun s=>decide ((s.type.toNat:Int)=2) && ef s.owner z.origin
def iq (z:ba):Bool:=Ku z z.aj
theorem ag4 {z:ba} {l:List bh} {i:Nat} {c:bh} (h:l.drop i=c::l.drop (i+1)):Ku z (l.drop i)=((decide ((c.type.toNat:Int)=2) && ef c.owner z.origin) || Ku z (l.drop (i+1))):=by rw [h];rfl
noncomputable def Um (z:ba):Int:=gm 260 (lg z) 0 z.aj (v9 z)
noncomputable def Ut (z:ba):Int:=gm 261 (fun _ s=>oq s) 0 z.aj (Um z)
noncomputable def sr (z:ba):Int:=gm 262 (fun _ s=>dj s.owner z.origin) 0 z.aj (Ut z)
noncomputable def n5 (z:ba):Int:=da (decide ((gw z).1=1) && decide ((gw z).2=1)) 263 (sr z)
noncomputable def F8 (z:ba):Int:=da (iq z) 264 (n5 z)
noncomputable def Gi (z:ba):Int:=gm 265 (jm z) 0 z.aj (F8 z)
noncomputable def Nf (z:ba):Int:=gm 266 (fun _ s=>lx s) 0 z.aj (Gi z)
noncomputable def aCf (z:ba):Int:=gm 267 (fun _ s=>qo z s) 0 z.aj (Nf z)
noncomputable def fy (z:ba):Int:=if v9 z≠0 then v9 z else aCf z
theorem ahj (l:List bh) (i:Nat) (c:bh) (h:l[i]? = some c):k8 (l.take (i+1))=k8 (l.take i)+c.data.length:=by
 obtain ⟨hk,rfl⟩:=List.getElem?_eq_some_iff.1 h
 rw [List.take_succ_eq_append_getElem hk];simp only [k8,List.foldl_append,List.foldl_cons,List.foldl_nil]
theorem afd (l:List bh):∀ k,l.foldl (fun n s=>n+s.data.length) k≤k+fu my l:=by
 induction l with
 |nil=>intro k;exact Nat.le_refl _
 |cons a l ih=>
  intro k
  have h1:=ih (k+a.data.length)
  have h2:=rm uh a.data
  simp only [fu,List.foldr_cons,List.foldl_cons,my] at h1 ⊢
  unfold fu at h2
  omega
theorem ao4 (l:List bh):k8 l≤fu my l:=by have:=afd l 0;unfold k8;omega
theorem avl {l:List bh} {i:Nat} {c:bh} (h:l.drop i=c::l.drop (i+1)) (e:Int):Cy (l.drop i) e=Cy (l.drop (i+1)) (if e=0 then oy c else e):=by rw [h];rfl
theorem u4 {l:List bh} {i:Nat} {c:bh} (h:l.drop i=c::l.drop (i+1)) (err:Int) (p:Nat→bh→Bool) (e:Int):gm err p i (l.drop i) e=if e≠0 then e else gm err p (i+1) (l.drop (i+1)) (da (p i c) err e):=by rw [h];rfl
set_option maxHeartbeats 4000000 in
theorem ahk (z:ba) (hz:c7 z):wl PP [ek,dv,g5,jy,jz,j0,jd,l6,pv,l7] 0 (Tryz.f82.body.getD .skip) (dp PP Tryz.f82.results.toList (fun r st=>(r1 (au .i64)).get true st.h r=some (fy z))) (ca 0 [bg.val false z]) (br []):=by
 have hl:=hz.len
 have ok:ak PP [ek,dv,g5,jy,jz,j0,jd,l6,pv,l7]:=ak.cons (ai ld) (ak.cons (ai fg) (ak.cons (ai Lg) (ak.cons (ai Q3) (ak.cons (ai Q7) (ak.cons (ai Qy) (ak.cons (ai Me) (ak.cons (ai Wu) (ak.cons (ai Y3) (ak.cons (ai Wx) (ak.nil PP))))))))))
 unfold Tryz.f82
 simp only [ic]
 simp only [↓wR,RA,simprocAttr,TF,ae]
 refine ea (fun r st'=>r = .fv []∧st'=br [some (.row [.vl false 1 (z.origin.map (aq.val false)),.vl false 5 (z.aj.map (an.val false))] 0 2 26),some (.row [.vl false 1 (z.origin.map (aq.val false)),.vl false 5 (z.aj.map (an.val false)),.sc (.int .i64 (v9 z))] 0 2 180)]) rfl ?_ ?_
 ·refine bo (T:=[ek,dv,g5,jy,jz,j0,jd,l6,pv,l7]) ok mixed Tryz.func120 rfl (by kernel_rfl) (by kernel_rfl) (by kernel_rfl) (by kernel_rfl) ?_;unfold Tryz.f120
  simp only [↓wR,RA,simprocAttr,TF,ae,mw,hz.origin.fit]
  unfold v9
  rw [bm];refine ⟨fun h=>?_,fun h=>?_⟩
  ·have he:cg z.origin≠0:=by simpa using h
   rw [if_pos he]
   simp only [↓wR,RA,simprocAttr,TF,ae,h,jf,iz,il]
  have he:cg z.origin=0:=by simpa using h
  rw [if_neg (by omega)]
  simp only [↓wR,RA,simprocAttr,TF,ae,h,he]
  refine dh [0,2,25,26,27] (fun (i:Nat)=>[.ptr 1 0,.sc (.int .i64 (k8 (z.aj.take i))),.vl false 5 (z.aj.map (an.val false)),.sc (.int .i64 (z.aj.length)),.sc (.int .i64 (i))]) (fun _=>[some (.row [.vl false 1 (z.origin.map (aq.val false)),.vl false 5 (z.aj.map (an.val false))] 0 2 26),some (.row [.vl false 1 (z.origin.map (aq.val false)),.vl false 5 (z.aj.map (an.val false)),.sc (.int .i64 (0))] 0 2 180)]) (fun i=>i≤z.aj.length) (fun i=>z.aj.length - i) 0 (Nat.zero_le _) (by simp only [↓wR,RA,simprocAttr,TF,ae]<;>rfl) (by simp only [↓wR,RA,simprocAttr,TF,ae]<;>rfl) ?_
  clear h
  intro i hi
  have hsum:=ao4 (z.aj.take i)
  have hsum2:=Tc my z.aj i
  have hzz:fu my z.aj≤16777216:=by unfold c7 vy at hz;omega
  simp only [↓wR,RA,simprocAttr,TF,ae]
  rw [bj];refine ⟨fun h=>?_,fun h=>?_⟩
  ·obtain ⟨c,hc,hd1,hlt⟩:=dw (decide_eq_true h)
   have hst:=ahj z.aj i c hc
   have hcl:=(hz.set c (List.mem_of_getElem? hc)).data.len
   simp only [↓wR,RA,simprocAttr,TF,ae,h,hc];repeat (simp (disch:=omega) only [ah,b9,bu,bw,bz];try simp only [↓wR,RA,simprocAttr,TF,ae,h,hc])
   exact ⟨i+1,hlt,by omega,by rw [hst];(first|rfl|trivial|omega|((try (simp (disch:=omega) only [ah]));(try (simp only [FB]));first|done|rfl|omega))⟩
  have hin:i=z.aj.length:=by omega
  rw [hin,List.take_length] at hsum ⊢
  simp only [↓wR,RA,simprocAttr,TF,ae,h]
  have hd:decide ((k8 z.aj:Int)≤2048)=decide (k8 z.aj≤2048):=by rw [decide_eq_decide];omega
  rw [hd]
  refine ea (fun r st'=>r = .fv []∧st'=br [some (.row [.vl false 1 (z.origin.map (aq.val false)),.vl false 5 (z.aj.map (an.val false))] 0 2 26),some (.row [.vl false 1 (z.origin.map (aq.val false)),.vl false 5 (z.aj.map (an.val false)),.sc (.int .i64 (da (decide (k8 z.aj≤2048)) 3 (0)))] 0 2 180)]) rfl ?_ ?_
  ·refine bo (T:=[ek,dv,g5,jy,jz,j0,jd,l6,pv,l7]) ok mixed Tryz.func126 rfl (by kernel_rfl) (by kernel_rfl) (by kernel_rfl) (by kernel_rfl) ?_;unfold Tryz.f126
   simp only [↓wR,RA,simprocAttr,TF,ae]
   rw [bm];refine ⟨fun hn2=>?_,fun hn2=>?_⟩
   ·have hb:(decide (k8 z.aj≤2048))=false:=by simpa only [Bool.not_eq_true'] using hn2
    have hv:da (decide (k8 z.aj≤2048)) 3 (0)=3:=by unfold da;rw [if_pos ⟨rfl,hb⟩]
    simp only [↓wR,RA,simprocAttr,TF,ae,hn2,jf,iz,il]
    try rw [hv]
   ·have hb:(decide (k8 z.aj≤2048))=true:=by simpa only [Bool.not_eq_false'] using hn2
    have hv:da (decide (k8 z.aj≤2048)) 3 (0)=0:=by unfold da;rw [if_neg (fun q=>by rw [hb] at q;cases q.2)]
    simp only [↓wR,RA,simprocAttr,TF,ae,hn2,jf,iz,il]
    try rw [hv]
  rintro _ _ ⟨rfl,rfl⟩
  simp only [↓wR,RA,simprocAttr,TF,ae,ia]
  refine dh [0,45,46,47] (fun (x:Nat × Int)=>[.ptr 1 0,.vl false 5 (z.aj.map (an.val false)),.sc (.int .i64 (z.aj.length)),.sc (.int .i64 (x.1))]) (fun x=>[some (.row [.vl false 1 (z.origin.map (aq.val false)),.vl false 5 (z.aj.map (an.val false))] 0 2 26),some (.row [.vl false 1 (z.origin.map (aq.val false)),.vl false 5 (z.aj.map (an.val false)),.sc (.int .i64 (x.2))] 0 2 180)]) (fun x=>x.1≤z.aj.length∧Cy z.aj (da (decide (k8 z.aj≤2048)) 3 0)=Cy (z.aj.drop x.1) x.2) (fun x=>z.aj.length - x.1) (0,da (decide (k8 z.aj≤2048)) 3 0) ⟨Nat.zero_le _,rfl⟩ (by simp only [↓wR,RA,simprocAttr,TF,ae]<;>rfl) (by simp only [↓wR,RA,simprocAttr,TF,ae]<;>rfl) ?_
  clear h hi hin hd
  rintro ⟨i,e⟩ ⟨hi,hx⟩
  simp only at hi hx
  simp only [↓wR,RA,simprocAttr,TF,ae]
  rw [bj];refine ⟨fun h=>?_,fun h=>?_⟩
  ·obtain ⟨c,hc,hd1,hlt⟩:=dw (decide_eq_true h)
   rw [avl hd1] at hx
   have hcs:=hz.set c (List.mem_of_getElem? hc)
   simp only [↓wR,RA,simprocAttr,TF,ae,h,hc]
   rw [cz];refine ⟨fun ⟨h1,e1⟩=>?_,fun ⟨h1,e1⟩=>?_⟩
   ·rw [if_pos e1] at hx
    simp only [↓wR,RA,simprocAttr,TF,ae,h1,zo,hcs];repeat (simp (disch:=omega) only [ah,b9,bu,bw,bz];try simp only [↓wR,RA,simprocAttr,TF,ae,h1,zo,hcs])
    exact ⟨(i+1,oy c),⟨hlt,hx⟩,by simp;omega,by (first|rfl|trivial|omega|((try (simp (disch:=omega) only [ah]));(try (simp only [FB]));first|done|rfl|omega)),by (first|rfl|trivial|omega|((try (simp (disch:=omega) only [ah]));(try (simp only [FB]));first|done|rfl|omega))⟩
   ·rw [if_neg e1] at hx
    simp only [↓wR,RA,simprocAttr,TF,ae,h1];repeat (simp (disch:=omega) only [ah,b9,bu,bw,bz];try simp only [↓wR,RA,simprocAttr,TF,ae,h1])
    exact ⟨(i+1,e),⟨hlt,hx⟩,by simp;omega,by (first|rfl|trivial|omega|((try (simp (disch:=omega) only [ah]));(try (simp only [FB]));first|done|rfl|omega)),by (first|rfl|trivial|omega|((try (simp (disch:=omega) only [ah]));(try (simp only [FB]));first|done|rfl|omega))⟩
  ·rw [dz (decide_eq_false h)] at hx
   simp only [↓wR,RA,simprocAttr,TF,ae,h,jf,iz,il]
   rw [hx];rfl
 rintro _ _ ⟨rfl,rfl⟩
 simp only [↓wR,RA,simprocAttr,TF,ae,ia]
 unfold fy
 rw [bm];refine ⟨fun h=>?_,fun h=>?_⟩
 ·have he:v9 z≠0:=by simpa using h
  rw [if_pos he]
  simp only [↓wR,RA,simprocAttr,TF,ae,h]
 have he:v9 z=0:=by simpa using h
 rw [if_neg (by omega)]
 simp only [↓wR,RA,simprocAttr,TF,ae,h]
 clear h he
 obtain ⟨e0,he0⟩:∃ e0,v9 z=e0:=⟨_,rfl⟩
 rw [he0]
 refine ea (fun r st'=>r = .fv []∧st'=br [some (.row [.vl false 1 (z.origin.map (aq.val false)),.vl false 5 (z.aj.map (an.val false))] 0 2 26),some (.row [.vl false 1 (z.origin.map (aq.val false)),.vl false 5 (z.aj.map (an.val false)),.sc (.int .i64 (gm 260 (lg z) 0 z.aj e0))] 0 2 180)]) rfl ?_ ?_
 ·refine bo (T:=[ek,dv,g5,jy,jz,j0,jd,l6,pv,l7]) ok mixed Tryz.func121 rfl (by kernel_rfl) (by kernel_rfl) (by kernel_rfl) (by kernel_rfl) ?_;unfold Tryz.f121
  simp only [↓wR,RA,simprocAttr,TF,ae]
  refine dh [0,1,2,12,13,14] (fun (x:Nat × Int)=>[.ptr 1 0,.sc (.int .i64 (260)),.fn (.func 122) [.ptr 1 0] [],.vl false 5 (z.aj.map (an.val false)),.sc (.int .i64 (z.aj.length)),.sc (.int .i64 (x.1))]) (fun x=>[some (.row [.vl false 1 (z.origin.map (aq.val false)),.vl false 5 (z.aj.map (an.val false))] 0 2 26),some (.row [.vl false 1 (z.origin.map (aq.val false)),.vl false 5 (z.aj.map (an.val false)),.sc (.int .i64 (x.2))] 0 2 180)]) (fun x=>x.1≤z.aj.length∧gm 260 (lg z) 0 z.aj e0=gm 260 (lg z) x.1 (z.aj.drop x.1) x.2) (fun x=>z.aj.length - x.1) (0,e0) ⟨Nat.zero_le _,rfl⟩ (by simp only [↓wR,RA,simprocAttr,TF,ae]<;>rfl) (by simp only [↓wR,RA,simprocAttr,TF,ae]<;>rfl) ?_
  rintro ⟨i,e⟩ ⟨hi,hx⟩
  simp only at hi hx
  simp only [↓wR,RA,simprocAttr,TF,ae]
  rw [bj];refine ⟨fun h=>?_,fun h=>?_⟩
  ·obtain ⟨c,hc,hd1,hlt⟩:=dw (decide_eq_true h)
   rw [u4 hd1] at hx
   have hcs:=hz.set c (List.mem_of_getElem? hc)
   have hi2:(0:Int)≤i∧(i:Int)≤z.aj.length:=by omega
   simp only [↓wR,RA,simprocAttr,TF,ae,h,hc]
   rw [je];refine ⟨fun ⟨h1,e1⟩=>?_,fun ⟨h1,e1⟩=>?_⟩
   ·rw [if_pos e1] at hx
    simp only [↓wR,RA,simprocAttr,TF,ae,h1,jf,iz,il]
    rw [hx]
   ·rw [if_neg (by omega)] at hx
    simp only [↓wR,RA,simprocAttr,TF,ae,h1,hcs,hz,hi2,Iv]
    refine ea (fun r st'=>r = .fv []∧st'=br [some (.row [.vl false 1 (z.origin.map (aq.val false)),.vl false 5 (z.aj.map (an.val false))] 0 2 26),some (.row [.vl false 1 (z.origin.map (aq.val false)),.vl false 5 (z.aj.map (an.val false)),.sc (.int .i64 (da ((lg z) i c) 260 e))] 0 2 180),some (.row [.vl false 1 (c.owner.map (aq.val false)),.sc (.int .u16 c.type.toNat),.sc (.int .u16 c.cls.toNat),.sc (.int .u32 c.pr.toNat),.vl false 4 (c.data.map (cf.val false))] 0 2 40)]) rfl ?_ ?_
    ·refine bo (T:=[ek,dv,g5,jy,jz,j0,jd,l6,pv,l7]) ok mixed Tryz.func126 rfl (by kernel_rfl) (by kernel_rfl) (by kernel_rfl) (by kernel_rfl) ?_;unfold Tryz.f126
     simp only [↓wR,RA,simprocAttr,TF,ae,e1]
     rw [bm];refine ⟨fun hn2=>?_,fun hn2=>?_⟩
     ·have hb:((lg z) i c)=false:=by simpa only [Bool.not_eq_true'] using hn2
      have hv:da ((lg z) i c) 260 0=260:=by unfold da;rw [if_pos ⟨rfl,hb⟩]
      simp only [↓wR,RA,simprocAttr,TF,ae,hn2,jf,iz,il]
      try rw [hv]
     ·have hb:((lg z) i c)=true:=by simpa only [Bool.not_eq_false'] using hn2
      have hv:da ((lg z) i c) 260 0=0:=by unfold da;rw [if_neg (fun q=>by rw [hb] at q;cases q.2)]
      simp only [↓wR,RA,simprocAttr,TF,ae,hn2,jf,iz,il]
      try rw [hv]
    rintro _ _ ⟨rfl,rfl⟩
    simp only [↓wR,RA,simprocAttr,TF,ae,ia];repeat (simp (disch:=omega) only [ah,b9,bu,bw,bz];try simp only [↓wR,RA,simprocAttr,TF,ae,ia])
    exact ⟨(i+1,da ((lg z) i c) 260 e),⟨hlt,hx⟩,by simp;omega,by (first|rfl|trivial|omega|((try (simp (disch:=omega) only [ah]));(try (simp only [FB]));first|done|rfl|omega)),by (first|rfl|trivial|omega|((try (simp (disch:=omega) only [ah]));(try (simp only [FB]));first|done|rfl|omega))⟩
  ·rw [dz (decide_eq_false h)] at hx
   simp only [↓wR,RA,simprocAttr,TF,ae,h,jf,iz,il]
   rw [hx];rfl
 rintro _ _ ⟨rfl,rfl⟩
 rw [← he0]
 clear he0
 simp only [↓wR,RA,simprocAttr,TF,ae,ia]
 rw [show gm 260 (lg z) 0 z.aj (v9 z)=Um z from rfl]
 obtain ⟨e0,he0⟩:∃ e0,Um z=e0:=⟨_,rfl⟩
 rw [he0]
 refine ea (fun r st'=>r = .fv []∧st'=br [some (.row [.vl false 1 (z.origin.map (aq.val false)),.vl false 5 (z.aj.map (an.val false))] 0 2 26),some (.row [.vl false 1 (z.origin.map (aq.val false)),.vl false 5 (z.aj.map (an.val false)),.sc (.int .i64 (gm 261 (fun _ s=>oq s) 0 z.aj e0))] 0 2 180)]) rfl ?_ ?_
 ·refine bo (T:=[ek,dv,g5,jy,jz,j0,jd,l6,pv,l7]) ok mixed Tryz.func121 rfl (by kernel_rfl) (by kernel_rfl) (by kernel_rfl) (by kernel_rfl) ?_;unfold Tryz.f121
  simp only [↓wR,RA,simprocAttr,TF,ae]
  refine dh [0,1,2,12,13,14] (fun (x:Nat × Int)=>[.ptr 1 0,.sc (.int .i64 (261)),.sc (.func (.func 123) #[] #[]),.vl false 5 (z.aj.map (an.val false)),.sc (.int .i64 (z.aj.length)),.sc (.int .i64 (x.1))]) (fun x=>[some (.row [.vl false 1 (z.origin.map (aq.val false)),.vl false 5 (z.aj.map (an.val false))] 0 2 26),some (.row [.vl false 1 (z.origin.map (aq.val false)),.vl false 5 (z.aj.map (an.val false)),.sc (.int .i64 (x.2))] 0 2 180)]) (fun x=>x.1≤z.aj.length∧gm 261 (fun _ s=>oq s) 0 z.aj e0=gm 261 (fun _ s=>oq s) x.1 (z.aj.drop x.1) x.2) (fun x=>z.aj.length - x.1) (0,e0) ⟨Nat.zero_le _,rfl⟩ (by simp only [↓wR,RA,simprocAttr,TF,ae]<;>rfl) (by simp only [↓wR,RA,simprocAttr,TF,ae]<;>rfl) ?_
  rintro ⟨i,e⟩ ⟨hi,hx⟩
  simp only at hi hx
  simp only [↓wR,RA,simprocAttr,TF,ae]
  rw [bj];refine ⟨fun h=>?_,fun h=>?_⟩
  ·obtain ⟨c,hc,hd1,hlt⟩:=dw (decide_eq_true h)
   rw [u4 hd1] at hx
   have hcs:=hz.set c (List.mem_of_getElem? hc)
   have hi2:(0:Int)≤i∧(i:Int)≤z.aj.length:=by omega
   simp only [↓wR,RA,simprocAttr,TF,ae,h,hc]
   rw [je];refine ⟨fun ⟨h1,e1⟩=>?_,fun ⟨h1,e1⟩=>?_⟩
   ·rw [if_pos e1] at hx
    simp only [↓wR,RA,simprocAttr,TF,ae,h1,jf,iz,il]
    rw [hx]
   ·rw [if_neg (by omega)] at hx
    simp only [↓wR,RA,simprocAttr,TF,ae,h1,hcs,hz,hi2,Y1]
    refine ea (fun r st'=>r = .fv []∧st'=br [some (.row [.vl false 1 (z.origin.map (aq.val false)),.vl false 5 (z.aj.map (an.val false))] 0 2 26),some (.row [.vl false 1 (z.origin.map (aq.val false)),.vl false 5 (z.aj.map (an.val false)),.sc (.int .i64 (da ((fun _ s=>oq s) i c) 261 e))] 0 2 180),some (.row [.vl false 1 (c.owner.map (aq.val false)),.sc (.int .u16 c.type.toNat),.sc (.int .u16 c.cls.toNat),.sc (.int .u32 c.pr.toNat),.vl false 4 (c.data.map (cf.val false))] 0 2 40)]) rfl ?_ ?_
    ·refine bo (T:=[ek,dv,g5,jy,jz,j0,jd,l6,pv,l7]) ok mixed Tryz.func126 rfl (by kernel_rfl) (by kernel_rfl) (by kernel_rfl) (by kernel_rfl) ?_;unfold Tryz.f126
     simp only [↓wR,RA,simprocAttr,TF,ae,e1]
     rw [bm];refine ⟨fun hn2=>?_,fun hn2=>?_⟩
     ·have hb:((fun _ s=>oq s) i c)=false:=by simpa only [Bool.not_eq_true'] using hn2
      have hv:da ((fun _ s=>oq s) i c) 261 0=261:=by unfold da;rw [if_pos ⟨rfl,hb⟩]
      simp only [↓wR,RA,simprocAttr,TF,ae,hn2,jf,iz,il]
      try rw [hv]
     ·have hb:((fun _ s=>oq s) i c)=true:=by simpa only [Bool.not_eq_false'] using hn2
      have hv:da ((fun _ s=>oq s) i c) 261 0=0:=by unfold da;rw [if_neg (fun q=>by rw [hb] at q;cases q.2)]
      simp only [↓wR,RA,simprocAttr,TF,ae,hn2,jf,iz,il]
      try rw [hv]
    rintro _ _ ⟨rfl,rfl⟩
    simp only [↓wR,RA,simprocAttr,TF,ae,ia];repeat (simp (disch:=omega) only [ah,b9,bu,bw,bz];try simp only [↓wR,RA,simprocAttr,TF,ae,ia])
    exact ⟨(i+1,da ((fun _ s=>oq s) i c) 261 e),⟨hlt,hx⟩,by simp;omega,by (first|rfl|trivial|omega|((try (simp (disch:=omega) only [ah]));(try (simp only [FB]));first|done|rfl|omega)),by (first|rfl|trivial|omega|((try (simp (disch:=omega) only [ah]));(try (simp only [FB]));first|done|rfl|omega))⟩
  ·rw [dz (decide_eq_false h)] at hx
   simp only [↓wR,RA,simprocAttr,TF,ae,h,jf,iz,il]
   rw [hx];rfl
 rintro _ _ ⟨rfl,rfl⟩
 rw [← he0]
 clear he0
 simp only [↓wR,RA,simprocAttr,TF,ae,ia]
 rw [show gm 261 (fun _ s=>oq s) 0 z.aj (Um z)=Ut z from rfl]
 obtain ⟨e0,he0⟩:∃ e0,Ut z=e0:=⟨_,rfl⟩
 rw [he0]
 refine ea (fun r st'=>r = .fv []∧st'=br [some (.row [.vl false 1 (z.origin.map (aq.val false)),.vl false 5 (z.aj.map (an.val false))] 0 2 26),some (.row [.vl false 1 (z.origin.map (aq.val false)),.vl false 5 (z.aj.map (an.val false)),.sc (.int .i64 (gm 262 (fun _ s=>dj s.owner z.origin) 0 z.aj e0))] 0 2 180)]) rfl ?_ ?_
 ·refine bo (T:=[ek,dv,g5,jy,jz,j0,jd,l6,pv,l7]) ok mixed Tryz.func121 rfl (by kernel_rfl) (by kernel_rfl) (by kernel_rfl) (by kernel_rfl) ?_;unfold Tryz.f121
  simp only [↓wR,RA,simprocAttr,TF,ae]
  refine dh [0,1,2,12,13,14] (fun (x:Nat × Int)=>[.ptr 1 0,.sc (.int .i64 (262)),.fn (.func 124) [] [.ptr 0 0],.vl false 5 (z.aj.map (an.val false)),.sc (.int .i64 (z.aj.length)),.sc (.int .i64 (x.1))]) (fun x=>[some (.row [.vl false 1 (z.origin.map (aq.val false)),.vl false 5 (z.aj.map (an.val false))] 0 2 26),some (.row [.vl false 1 (z.origin.map (aq.val false)),.vl false 5 (z.aj.map (an.val false)),.sc (.int .i64 (x.2))] 0 2 180)]) (fun x=>x.1≤z.aj.length∧gm 262 (fun _ s=>dj s.owner z.origin) 0 z.aj e0=gm 262 (fun _ s=>dj s.owner z.origin) x.1 (z.aj.drop x.1) x.2) (fun x=>z.aj.length - x.1) (0,e0) ⟨Nat.zero_le _,rfl⟩ (by simp only [↓wR,RA,simprocAttr,TF,ae]<;>rfl) (by simp only [↓wR,RA,simprocAttr,TF,ae]<;>rfl) ?_
  rintro ⟨i,e⟩ ⟨hi,hx⟩
  simp only at hi hx
  simp only [↓wR,RA,simprocAttr,TF,ae]
  rw [bj];refine ⟨fun h=>?_,fun h=>?_⟩
  ·obtain ⟨c,hc,hd1,hlt⟩:=dw (decide_eq_true h)
   rw [u4 hd1] at hx
   have hcs:=hz.set c (List.mem_of_getElem? hc)
   have hi2:(0:Int)≤i∧(i:Int)≤z.aj.length:=by omega
   simp only [↓wR,RA,simprocAttr,TF,ae,h,hc]
   rw [je];refine ⟨fun ⟨h1,e1⟩=>?_,fun ⟨h1,e1⟩=>?_⟩
   ·rw [if_pos e1] at hx
    simp only [↓wR,RA,simprocAttr,TF,ae,h1,jf,iz,il]
    rw [hx]
   ·rw [if_neg (by omega)] at hx
    simp only [↓wR,RA,simprocAttr,TF,ae,h1,hcs,hz,hi2,Fh]
    refine ea (fun r st'=>r = .fv []∧st'=br [some (.row [.vl false 1 (z.origin.map (aq.val false)),.vl false 5 (z.aj.map (an.val false))] 0 2 26),some (.row [.vl false 1 (z.origin.map (aq.val false)),.vl false 5 (z.aj.map (an.val false)),.sc (.int .i64 (da ((fun _ s=>dj s.owner z.origin) i c) 262 e))] 0 2 180),some (.row [.vl false 1 (c.owner.map (aq.val false)),.sc (.int .u16 c.type.toNat),.sc (.int .u16 c.cls.toNat),.sc (.int .u32 c.pr.toNat),.vl false 4 (c.data.map (cf.val false))] 0 2 40)]) rfl ?_ ?_
    ·refine bo (T:=[ek,dv,g5,jy,jz,j0,jd,l6,pv,l7]) ok mixed Tryz.func126 rfl (by kernel_rfl) (by kernel_rfl) (by kernel_rfl) (by kernel_rfl) ?_;unfold Tryz.f126
     simp only [↓wR,RA,simprocAttr,TF,ae,e1]
     rw [bm];refine ⟨fun hn2=>?_,fun hn2=>?_⟩
     ·have hb:((fun _ s=>dj s.owner z.origin) i c)=false:=by simpa only [Bool.not_eq_true'] using hn2
      have hv:da ((fun _ s=>dj s.owner z.origin) i c) 262 0=262:=by unfold da;rw [if_pos ⟨rfl,hb⟩]
      simp only [↓wR,RA,simprocAttr,TF,ae,hn2,jf,iz,il]
      try rw [hv]
     ·have hb:((fun _ s=>dj s.owner z.origin) i c)=true:=by simpa only [Bool.not_eq_false'] using hn2
      have hv:da ((fun _ s=>dj s.owner z.origin) i c) 262 0=0:=by unfold da;rw [if_neg (fun q=>by rw [hb] at q;cases q.2)]
      simp only [↓wR,RA,simprocAttr,TF,ae,hn2,jf,iz,il]
      try rw [hv]
    rintro _ _ ⟨rfl,rfl⟩
    simp only [↓wR,RA,simprocAttr,TF,ae,ia];repeat (simp (disch:=omega) only [ah,b9,bu,bw,bz];try simp only [↓wR,RA,simprocAttr,TF,ae,ia])
    exact ⟨(i+1,da ((fun _ s=>dj s.owner z.origin) i c) 262 e),⟨hlt,hx⟩,by simp;omega,by (first|rfl|trivial|omega|((try (simp (disch:=omega) only [ah]));(try (simp only [FB]));first|done|rfl|omega)),by (first|rfl|trivial|omega|((try (simp (disch:=omega) only [ah]));(try (simp only [FB]));first|done|rfl|omega))⟩
  ·rw [dz (decide_eq_false h)] at hx
   simp only [↓wR,RA,simprocAttr,TF,ae,h,jf,iz,il]
   rw [hx];rfl
 rintro _ _ ⟨rfl,rfl⟩
 rw [← he0]
 clear he0
 simp only [↓wR,RA,simprocAttr,TF,ae,ia,Md,hz]
 rw [show gm 262 (fun _ s=>dj s.owner z.origin) 0 z.aj (Ut z)=sr z from rfl]
 rw [cz];refine ⟨fun ⟨hs1,es1⟩=>?_,fun ⟨hs1,es1⟩=>?_⟩
 ·simp only [↓wR,RA,simprocAttr,TF,ae,hs1]
  rw [show (((gw z).2:Int) == 1)=(decide ((gw z).1=1) && decide ((gw z).2=1)) from by rw [decide_eq_true (show (gw z).1=1 by omega),Bool.true_and,Bool.eq_iff_iff];simp;omega]
  refine ea (fun r st'=>r = .fv []∧st'=br [some (.row [.vl false 1 (z.origin.map (aq.val false)),.vl false 5 (z.aj.map (an.val false))] 0 2 26),some (.row [.vl false 1 (z.origin.map (aq.val false)),.vl false 5 (z.aj.map (an.val false)),.sc (.int .i64 (da (decide ((gw z).1=1) && decide ((gw z).2=1)) 263 (sr z)))] 0 2 180)]) rfl ?_ ?_
  ·refine bo (T:=[ek,dv,g5,jy,jz,j0,jd,l6,pv,l7]) ok mixed Tryz.func126 rfl (by kernel_rfl) (by kernel_rfl) (by kernel_rfl) (by kernel_rfl) ?_;unfold Tryz.f126
   simp only [↓wR,RA,simprocAttr,TF,ae]
   rw [cz];refine ⟨fun ⟨hn1,en1⟩=>?_,fun ⟨hn1,en1⟩=>?_⟩
   ·simp only [↓wR,RA,simprocAttr,TF,ae,hn1]
    rw [bm];refine ⟨fun hn2=>?_,fun hn2=>?_⟩
    ·have hb:(decide ((gw z).1=1) && decide ((gw z).2=1))=false:=by simpa only [Bool.not_eq_true'] using hn2
     have hv:da (decide ((gw z).1=1) && decide ((gw z).2=1)) 263 (sr z)=263:=by unfold da;rw [if_pos ⟨en1,hb⟩]
     simp only [↓wR,RA,simprocAttr,TF,ae,hn1,hn2,jf,iz,il]
     try rw [hv]
    ·have hb:(decide ((gw z).1=1) && decide ((gw z).2=1))=true:=by simpa only [Bool.not_eq_false'] using hn2
     have hv:da (decide ((gw z).1=1) && decide ((gw z).2=1)) 263 (sr z)=sr z:=by unfold da;rw [if_neg (fun q=>by rw [hb] at q;cases q.2)]
     simp only [↓wR,RA,simprocAttr,TF,ae,hn1,hn2,jf,iz,il]
     try rw [hv]
   ·have hv:da (decide ((gw z).1=1) && decide ((gw z).2=1)) 263 (sr z)=sr z:=by unfold da;rw [if_neg (fun q=>en1 q.1)]
    simp only [↓wR,RA,simprocAttr,TF,ae,hn1,jf,iz,il]
    try rw [hv]
  rintro _ _ ⟨rfl,rfl⟩
  rw [show da (decide ((gw z).1=1) && decide ((gw z).2=1)) 263 (sr z)=n5 z from rfl]
  simp only [↓wR,RA,simprocAttr,TF,ae,ia]
  refine bo (T:=[]) (ak.nil PP) mixed Tryz.func127 rfl (by kernel_rfl) (by kernel_rfl) (by kernel_rfl) (by kernel_rfl) ?_;unfold Tryz.f127
  simp only [↓wR,RA,simprocAttr,TF,ae]
  refine ⟨[1,3,6,45],?_⟩
  have hib:sy PP 154=some (Tryz.f154.ntmps,Tryz.f154.body.getD .skip):=by kernel_rfl
  simp only [↓wR,RA,simprocAttr,TF,ae,hib]
  refine ⟨by kernel_rfl,fun l=>?_⟩
  unfold Tryz.f154
  simp only [↓wR,RA,simprocAttr,TF,ae]
  refine Hd [0,2,7,8,9] (fun (x:Nat × Bool)=>[.sc (.func (.yield l) #[] #[]),.ptr 4 0,.vl false 5 (z.aj.map (an.val false)),.sc (.int .i64 (z.aj.length)),.sc (.int .i64 (x.1))]) (fun x=>[some (.row [.vl false 1 (z.origin.map (aq.val false)),.vl false 5 (z.aj.map (an.val false))] 0 2 26),some (.row [.vl false 1 (z.origin.map (aq.val false)),.vl false 5 (z.aj.map (an.val false)),.sc (.int .i64 (n5 z))] 0 2 180),some (.row [.sc (.bool (x.2))] 0 2 4),some (.row [.vl false 1 (z.origin.map (aq.val false)),.vl false 5 (z.aj.map (an.val false))] 0 2 26),some (.row [.sc (.int .u16 2)] 0 2 28)]) (fun x=>x.1≤z.aj.length∧iq z=(x.2 || Ku z (z.aj.drop x.1))) (fun x=>z.aj.length - x.1) (0,false) ⟨Nat.zero_le _,by rw [Bool.false_or];rfl⟩ (by simp only [↓wR,RA,simprocAttr,TF,ae]<;>rfl) (by simp only [↓wR,RA,simprocAttr,TF,ae]<;>rfl) ?_
  rintro ⟨i,b⟩ ⟨hi,hx⟩
  simp only at hi hx
  simp only [↓wR,RA,simprocAttr,TF,ae]
  rw [tv];refine ⟨fun h=>?_,fun h=>?_⟩
  ·obtain ⟨c,hc,hd1,hlt⟩:=dw h
   have hcs:=hz.set c (List.mem_of_getElem? hc)
   rw [ag4 hd1] at hx
   simp only [↓wR,RA,simprocAttr,TF,ae,h,hc]
   rw [tv];refine ⟨fun h2=>?_,fun h2=>?_⟩
   ·have e2:(c.type.toNat:Int)=2:=by simpa using h2
    rw [decide_eq_true e2,Bool.true_and] at hx
    simp only [↓wR,RA,simprocAttr,TF,ae,h2]
    refine jq [0,2,7,8,9,17,19] ?_
    simp only [↓wR,RA,simprocAttr,TF,ae,j9,gi]
    cases b with
    |true=>
     simp only [↓wR,RA,simprocAttr,TF,ae];repeat (simp (disch:=omega) only [ah,b9,bu,bw,bz];try simp only [↓wR,RA,simprocAttr,TF,ae])
     exact ⟨(i+1,true),⟨hlt,by rw [hx];rfl⟩,by simp;omega,by (first|rfl|trivial|omega|((try (simp (disch:=omega) only [ah]));(try (simp only [FB]));first|done|rfl|omega)),by (first|rfl|trivial|omega|((try (simp (disch:=omega) only [ah]));(try (simp only [FB]));first|done|rfl|omega))⟩
    |false=>
     simp only [↓wR,RA,simprocAttr,TF,ae,fm,hcs.owner,hz.origin];repeat (simp (disch:=omega) only [ah,b9,bu,bw,bz];try simp only [↓wR,RA,simprocAttr,TF,ae,fm,hcs.owner,hz.origin])
     exact ⟨(i+1,ef c.owner z.origin),⟨hlt,by rw [hx,Bool.false_or]⟩,by simp;omega,by (first|rfl|trivial|omega|((try (simp (disch:=omega) only [ah]));(try (simp only [FB]));first|done|rfl|omega)),by (first|rfl|trivial|omega|((try (simp (disch:=omega) only [ah]));(try (simp only [FB]));first|done|rfl|omega))⟩
   ·have e2:¬ (c.type.toNat:Int)=2:=by simpa using h2
    rw [decide_eq_false e2,Bool.false_and,Bool.false_or] at hx
    simp only [↓wR,RA,simprocAttr,TF,ae,h2];repeat (simp (disch:=omega) only [ah,b9,bu,bw,bz];try simp only [↓wR,RA,simprocAttr,TF,ae,h2])
    exact ⟨(i+1,b),⟨hlt,hx⟩,by simp;omega,by (first|rfl|trivial|omega|((try (simp (disch:=omega) only [ah]));(try (simp only [FB]));first|done|rfl|omega)),by (first|rfl|trivial|omega|((try (simp (disch:=omega) only [ah]));(try (simp only [FB]));first|done|rfl|omega))⟩
  rw [dz h] at hx
  have hb:b=iq z:=by rw [hx];simp [Ku]
  simp only [↓wR,RA,simprocAttr,TF,ae,h]
  rw [hb]
  clear h hx hb
  refine ea (fun r st'=>r = .fv []∧st'=br [some (.row [.vl false 1 (z.origin.map (aq.val false)),.vl false 5 (z.aj.map (an.val false))] 0 2 26),some (.row [.vl false 1 (z.origin.map (aq.val false)),.vl false 5 (z.aj.map (an.val false)),.sc (.int .i64 (da (iq z) 264 (n5 z)))] 0 2 180),some (.row [.sc (.bool (iq z))] 0 2 4),some (.row [.vl false 1 (z.origin.map (aq.val false)),.vl false 5 (z.aj.map (an.val false))] 0 2 26),some (.row [.sc (.int .u16 2)] 0 2 28)]) rfl ?_ ?_
  ·refine bo (T:=[ek,dv,g5,jy,jz,j0,jd,l6,pv,l7]) ok mixed Tryz.func126 rfl (by kernel_rfl) (by kernel_rfl) (by kernel_rfl) (by kernel_rfl) ?_;unfold Tryz.f126
   simp only [↓wR,RA,simprocAttr,TF,ae]
   rw [cz];refine ⟨fun ⟨hn1,en1⟩=>?_,fun ⟨hn1,en1⟩=>?_⟩
   ·simp only [↓wR,RA,simprocAttr,TF,ae,hn1]
    rw [bm];refine ⟨fun hn2=>?_,fun hn2=>?_⟩
    ·have hb:(iq z)=false:=by simpa only [Bool.not_eq_true'] using hn2
     have hv:da (iq z) 264 (n5 z)=264:=by unfold da;rw [if_pos ⟨en1,hb⟩]
     simp only [↓wR,RA,simprocAttr,TF,ae,hn1,hn2,jf,iz,il]
     try rw [hv]
    ·have hb:(iq z)=true:=by simpa only [Bool.not_eq_false'] using hn2
     have hv:da (iq z) 264 (n5 z)=n5 z:=by unfold da;rw [if_neg (fun q=>by rw [hb] at q;cases q.2)]
     simp only [↓wR,RA,simprocAttr,TF,ae,hn1,hn2,jf,iz,il]
     try rw [hv]
   ·have hv:da (iq z) 264 (n5 z)=n5 z:=by unfold da;rw [if_neg (fun q=>en1 q.1)]
    simp only [↓wR,RA,simprocAttr,TF,ae,hn1,jf,iz,il]
    try rw [hv]
  rintro _ _ ⟨rfl,rfl⟩
  rw [show da (iq z) 264 (n5 z)=F8 z from rfl]
  simp only [↓wR,RA,simprocAttr,TF,ae,ia]
  obtain ⟨e0,he0⟩:∃ e0,F8 z=e0:=⟨_,rfl⟩
  rw [he0]
  refine ea (fun r st'=>r = .fv []∧st'=br [some (.row [.vl false 1 (z.origin.map (aq.val false)),.vl false 5 (z.aj.map (an.val false))] 0 2 26),some (.row [.vl false 1 (z.origin.map (aq.val false)),.vl false 5 (z.aj.map (an.val false)),.sc (.int .i64 (gm 265 (jm z) 0 z.aj e0))] 0 2 180),some (.row [.sc (.bool (iq z))] 0 2 4),some (.row [.vl false 1 (z.origin.map (aq.val false)),.vl false 5 (z.aj.map (an.val false))] 0 2 26),some (.row [.sc (.int .u16 2)] 0 2 28)]) rfl ?_ ?_
  ·refine bo (T:=[ek,dv,g5,jy,jz,j0,jd,l6,pv,l7]) ok mixed Tryz.func121 rfl (by kernel_rfl) (by kernel_rfl) (by kernel_rfl) (by kernel_rfl) ?_;unfold Tryz.f121
   simp only [↓wR,RA,simprocAttr,TF,ae]
   refine dh [0,1,2,12,13,14] (fun (x:Nat × Int)=>[.ptr 1 0,.sc (.int .i64 (265)),.fn (.func 128) [.ptr 1 0] [],.vl false 5 (z.aj.map (an.val false)),.sc (.int .i64 (z.aj.length)),.sc (.int .i64 (x.1))]) (fun x=>[some (.row [.vl false 1 (z.origin.map (aq.val false)),.vl false 5 (z.aj.map (an.val false))] 0 2 26),some (.row [.vl false 1 (z.origin.map (aq.val false)),.vl false 5 (z.aj.map (an.val false)),.sc (.int .i64 (x.2))] 0 2 180),some (.row [.sc (.bool (iq z))] 0 2 4),some (.row [.vl false 1 (z.origin.map (aq.val false)),.vl false 5 (z.aj.map (an.val false))] 0 2 26),some (.row [.sc (.int .u16 2)] 0 2 28)]) (fun x=>x.1≤z.aj.length∧gm 265 (jm z) 0 z.aj e0=gm 265 (jm z) x.1 (z.aj.drop x.1) x.2) (fun x=>z.aj.length - x.1) (0,e0) ⟨Nat.zero_le _,rfl⟩ (by simp only [↓wR,RA,simprocAttr,TF,ae]<;>rfl) (by simp only [↓wR,RA,simprocAttr,TF,ae]<;>rfl) ?_
   rintro ⟨i,e⟩ ⟨hi,hx⟩
   simp only at hi hx
   simp only [↓wR,RA,simprocAttr,TF,ae]
   rw [bj];refine ⟨fun h=>?_,fun h=>?_⟩
   ·obtain ⟨c,hc,hd1,hlt⟩:=dw (decide_eq_true h)
    rw [u4 hd1] at hx
    have hcs:=hz.set c (List.mem_of_getElem? hc)
    have hi2:(0:Int)≤i∧(i:Int)≤z.aj.length:=by omega
    simp only [↓wR,RA,simprocAttr,TF,ae,h,hc]
    rw [je];refine ⟨fun ⟨h1,e1⟩=>?_,fun ⟨h1,e1⟩=>?_⟩
    ·rw [if_pos e1] at hx
     simp only [↓wR,RA,simprocAttr,TF,ae,h1,jf,iz,il]
     rw [hx]
    ·rw [if_neg (by omega)] at hx
     simp only [↓wR,RA,simprocAttr,TF,ae,h1,hcs,hz,hi2,E6]
     refine ea (fun r st'=>r = .fv []∧st'=br [some (.row [.vl false 1 (z.origin.map (aq.val false)),.vl false 5 (z.aj.map (an.val false))] 0 2 26),some (.row [.vl false 1 (z.origin.map (aq.val false)),.vl false 5 (z.aj.map (an.val false)),.sc (.int .i64 (da ((jm z) i c) 265 e))] 0 2 180),some (.row [.sc (.bool (iq z))] 0 2 4),some (.row [.vl false 1 (z.origin.map (aq.val false)),.vl false 5 (z.aj.map (an.val false))] 0 2 26),some (.row [.sc (.int .u16 2)] 0 2 28),some (.row [.vl false 1 (c.owner.map (aq.val false)),.sc (.int .u16 c.type.toNat),.sc (.int .u16 c.cls.toNat),.sc (.int .u32 c.pr.toNat),.vl false 4 (c.data.map (cf.val false))] 0 2 40)]) rfl ?_ ?_
     ·refine bo (T:=[ek,dv,g5,jy,jz,j0,jd,l6,pv,l7]) ok mixed Tryz.func126 rfl (by kernel_rfl) (by kernel_rfl) (by kernel_rfl) (by kernel_rfl) ?_;unfold Tryz.f126
      simp only [↓wR,RA,simprocAttr,TF,ae,e1]
      rw [bm];refine ⟨fun hn2=>?_,fun hn2=>?_⟩
      ·have hb:((jm z) i c)=false:=by simpa only [Bool.not_eq_true'] using hn2
       have hv:da ((jm z) i c) 265 0=265:=by unfold da;rw [if_pos ⟨rfl,hb⟩]
       simp only [↓wR,RA,simprocAttr,TF,ae,hn2,jf,iz,il]
       try rw [hv]
      ·have hb:((jm z) i c)=true:=by simpa only [Bool.not_eq_false'] using hn2
       have hv:da ((jm z) i c) 265 0=0:=by unfold da;rw [if_neg (fun q=>by rw [hb] at q;cases q.2)]
       simp only [↓wR,RA,simprocAttr,TF,ae,hn2,jf,iz,il]
       try rw [hv]
     rintro _ _ ⟨rfl,rfl⟩
     simp only [↓wR,RA,simprocAttr,TF,ae,ia];repeat (simp (disch:=omega) only [ah,b9,bu,bw,bz];try simp only [↓wR,RA,simprocAttr,TF,ae,ia])
     exact ⟨(i+1,da ((jm z) i c) 265 e),⟨hlt,hx⟩,by simp;omega,by (first|rfl|trivial|omega|((try (simp (disch:=omega) only [ah]));(try (simp only [FB]));first|done|rfl|omega)),by (first|rfl|trivial|omega|((try (simp (disch:=omega) only [ah]));(try (simp only [FB]));first|done|rfl|omega))⟩
   ·rw [dz (decide_eq_false h)] at hx
    simp only [↓wR,RA,simprocAttr,TF,ae,h,jf,iz,il]
    rw [hx];rfl
  rintro _ _ ⟨rfl,rfl⟩
  rw [← he0]
  clear he0
  simp only [↓wR,RA,simprocAttr,TF,ae,ia]
  rw [show gm 265 (jm z) 0 z.aj (F8 z)=Gi z from rfl]
  obtain ⟨e0,he0⟩:∃ e0,Gi z=e0:=⟨_,rfl⟩
  rw [he0]
  refine ea (fun r st'=>r = .fv []∧st'=br [some (.row [.vl false 1 (z.origin.map (aq.val false)),.vl false 5 (z.aj.map (an.val false))] 0 2 26),some (.row [.vl false 1 (z.origin.map (aq.val false)),.vl false 5 (z.aj.map (an.val false)),.sc (.int .i64 (gm 266 (fun _ s=>lx s) 0 z.aj e0))] 0 2 180),some (.row [.sc (.bool (iq z))] 0 2 4),some (.row [.vl false 1 (z.origin.map (aq.val false)),.vl false 5 (z.aj.map (an.val false))] 0 2 26),some (.row [.sc (.int .u16 2)] 0 2 28)]) rfl ?_ ?_
  ·refine bo (T:=[ek,dv,g5,jy,jz,j0,jd,l6,pv,l7]) ok mixed Tryz.func121 rfl (by kernel_rfl) (by kernel_rfl) (by kernel_rfl) (by kernel_rfl) ?_;unfold Tryz.f121
   simp only [↓wR,RA,simprocAttr,TF,ae]
   refine dh [0,1,2,12,13,14] (fun (x:Nat × Int)=>[.ptr 1 0,.sc (.int .i64 (266)),.sc (.func (.func 129) #[] #[]),.vl false 5 (z.aj.map (an.val false)),.sc (.int .i64 (z.aj.length)),.sc (.int .i64 (x.1))]) (fun x=>[some (.row [.vl false 1 (z.origin.map (aq.val false)),.vl false 5 (z.aj.map (an.val false))] 0 2 26),some (.row [.vl false 1 (z.origin.map (aq.val false)),.vl false 5 (z.aj.map (an.val false)),.sc (.int .i64 (x.2))] 0 2 180),some (.row [.sc (.bool (iq z))] 0 2 4),some (.row [.vl false 1 (z.origin.map (aq.val false)),.vl false 5 (z.aj.map (an.val false))] 0 2 26),some (.row [.sc (.int .u16 2)] 0 2 28)]) (fun x=>x.1≤z.aj.length∧gm 266 (fun _ s=>lx s) 0 z.aj e0=gm 266 (fun _ s=>lx s) x.1 (z.aj.drop x.1) x.2) (fun x=>z.aj.length - x.1) (0,e0) ⟨Nat.zero_le _,rfl⟩ (by simp only [↓wR,RA,simprocAttr,TF,ae]<;>rfl) (by simp only [↓wR,RA,simprocAttr,TF,ae]<;>rfl) ?_
   rintro ⟨i,e⟩ ⟨hi,hx⟩
   simp only at hi hx
   simp only [↓wR,RA,simprocAttr,TF,ae]
   rw [bj];refine ⟨fun h=>?_,fun h=>?_⟩
   ·obtain ⟨c,hc,hd1,hlt⟩:=dw (decide_eq_true h)
    rw [u4 hd1] at hx
    have hcs:=hz.set c (List.mem_of_getElem? hc)
    have hi2:(0:Int)≤i∧(i:Int)≤z.aj.length:=by omega
    simp only [↓wR,RA,simprocAttr,TF,ae,h,hc]
    rw [je];refine ⟨fun ⟨h1,e1⟩=>?_,fun ⟨h1,e1⟩=>?_⟩
    ·rw [if_pos e1] at hx
     simp only [↓wR,RA,simprocAttr,TF,ae,h1,jf,iz,il]
     rw [hx]
    ·rw [if_neg (by omega)] at hx
     simp only [↓wR,RA,simprocAttr,TF,ae,h1,hcs,hz,hi2,I2]
     refine ea (fun r st'=>r = .fv []∧st'=br [some (.row [.vl false 1 (z.origin.map (aq.val false)),.vl false 5 (z.aj.map (an.val false))] 0 2 26),some (.row [.vl false 1 (z.origin.map (aq.val false)),.vl false 5 (z.aj.map (an.val false)),.sc (.int .i64 (da ((fun _ s=>lx s) i c) 266 e))] 0 2 180),some (.row [.sc (.bool (iq z))] 0 2 4),some (.row [.vl false 1 (z.origin.map (aq.val false)),.vl false 5 (z.aj.map (an.val false))] 0 2 26),some (.row [.sc (.int .u16 2)] 0 2 28),some (.row [.vl false 1 (c.owner.map (aq.val false)),.sc (.int .u16 c.type.toNat),.sc (.int .u16 c.cls.toNat),.sc (.int .u32 c.pr.toNat),.vl false 4 (c.data.map (cf.val false))] 0 2 40)]) rfl ?_ ?_
     ·refine bo (T:=[ek,dv,g5,jy,jz,j0,jd,l6,pv,l7]) ok mixed Tryz.func126 rfl (by kernel_rfl) (by kernel_rfl) (by kernel_rfl) (by kernel_rfl) ?_;unfold Tryz.f126
      simp only [↓wR,RA,simprocAttr,TF,ae,e1]
      rw [bm];refine ⟨fun hn2=>?_,fun hn2=>?_⟩
      ·have hb:((fun _ s=>lx s) i c)=false:=by simpa only [Bool.not_eq_true'] using hn2
       have hv:da ((fun _ s=>lx s) i c) 266 0=266:=by unfold da;rw [if_pos ⟨rfl,hb⟩]
       simp only [↓wR,RA,simprocAttr,TF,ae,hn2,jf,iz,il]
       try rw [hv]
      ·have hb:((fun _ s=>lx s) i c)=true:=by simpa only [Bool.not_eq_false'] using hn2
       have hv:da ((fun _ s=>lx s) i c) 266 0=0:=by unfold da;rw [if_neg (fun q=>by rw [hb] at q;cases q.2)]
       simp only [↓wR,RA,simprocAttr,TF,ae,hn2,jf,iz,il]
       try rw [hv]
     rintro _ _ ⟨rfl,rfl⟩
     simp only [↓wR,RA,simprocAttr,TF,ae,ia];repeat (simp (disch:=omega) only [ah,b9,bu,bw,bz];try simp only [↓wR,RA,simprocAttr,TF,ae,ia])
     exact ⟨(i+1,da ((fun _ s=>lx s) i c) 266 e),⟨hlt,hx⟩,by simp;omega,by (first|rfl|trivial|omega|((try (simp (disch:=omega) only [ah]));(try (simp only [FB]));first|done|rfl|omega)),by (first|rfl|trivial|omega|((try (simp (disch:=omega) only [ah]));(try (simp only [FB]));first|done|rfl|omega))⟩
   ·rw [dz (decide_eq_false h)] at hx
    simp only [↓wR,RA,simprocAttr,TF,ae,h,jf,iz,il]
    rw [hx];rfl
  rintro _ _ ⟨rfl,rfl⟩
  rw [← he0]
  clear he0
  simp only [↓wR,RA,simprocAttr,TF,ae,ia]
  rw [show gm 266 (fun _ s=>lx s) 0 z.aj (Gi z)=Nf z from rfl]
  obtain ⟨e0,he0⟩:∃ e0,Nf z=e0:=⟨_,rfl⟩
  rw [he0]
  refine ea (fun r st'=>r = .fv []∧st'=br [some (.row [.vl false 1 (z.origin.map (aq.val false)),.vl false 5 (z.aj.map (an.val false))] 0 2 26),some (.row [.vl false 1 (z.origin.map (aq.val false)),.vl false 5 (z.aj.map (an.val false)),.sc (.int .i64 (gm 267 (fun _ s=>qo z s) 0 z.aj e0))] 0 2 180),some (.row [.sc (.bool (iq z))] 0 2 4),some (.row [.vl false 1 (z.origin.map (aq.val false)),.vl false 5 (z.aj.map (an.val false))] 0 2 26),some (.row [.sc (.int .u16 2)] 0 2 28)]) rfl ?_ ?_
  ·refine bo (T:=[ek,dv,g5,jy,jz,j0,jd,l6,pv,l7]) ok mixed Tryz.func121 rfl (by kernel_rfl) (by kernel_rfl) (by kernel_rfl) (by kernel_rfl) ?_;unfold Tryz.f121
   simp only [↓wR,RA,simprocAttr,TF,ae]
   refine dh [0,1,2,12,13,14] (fun (x:Nat × Int)=>[.ptr 1 0,.sc (.int .i64 (267)),.fn (.func 130) [] [.ptr 0 0],.vl false 5 (z.aj.map (an.val false)),.sc (.int .i64 (z.aj.length)),.sc (.int .i64 (x.1))]) (fun x=>[some (.row [.vl false 1 (z.origin.map (aq.val false)),.vl false 5 (z.aj.map (an.val false))] 0 2 26),some (.row [.vl false 1 (z.origin.map (aq.val false)),.vl false 5 (z.aj.map (an.val false)),.sc (.int .i64 (x.2))] 0 2 180),some (.row [.sc (.bool (iq z))] 0 2 4),some (.row [.vl false 1 (z.origin.map (aq.val false)),.vl false 5 (z.aj.map (an.val false))] 0 2 26),some (.row [.sc (.int .u16 2)] 0 2 28)]) (fun x=>x.1≤z.aj.length∧gm 267 (fun _ s=>qo z s) 0 z.aj e0=gm 267 (fun _ s=>qo z s) x.1 (z.aj.drop x.1) x.2) (fun x=>z.aj.length - x.1) (0,e0) ⟨Nat.zero_le _,rfl⟩ (by simp only [↓wR,RA,simprocAttr,TF,ae]<;>rfl) (by simp only [↓wR,RA,simprocAttr,TF,ae]<;>rfl) ?_
   rintro ⟨i,e⟩ ⟨hi,hx⟩
   simp only at hi hx
   simp only [↓wR,RA,simprocAttr,TF,ae]
   rw [bj];refine ⟨fun h=>?_,fun h=>?_⟩
   ·obtain ⟨c,hc,hd1,hlt⟩:=dw (decide_eq_true h)
    rw [u4 hd1] at hx
    have hcs:=hz.set c (List.mem_of_getElem? hc)
    have hi2:(0:Int)≤i∧(i:Int)≤z.aj.length:=by omega
    simp only [↓wR,RA,simprocAttr,TF,ae,h,hc]
    rw [je];refine ⟨fun ⟨h1,e1⟩=>?_,fun ⟨h1,e1⟩=>?_⟩
    ·rw [if_pos e1] at hx
     simp only [↓wR,RA,simprocAttr,TF,ae,h1,jf,iz,il]
     rw [hx]
    ·rw [if_neg (by omega)] at hx
     simp only [↓wR,RA,simprocAttr,TF,ae,h1,hcs,hz,hi2,P2]
     refine ea (fun r st'=>r = .fv []∧st'=br [some (.row [.vl false 1 (z.origin.map (aq.val false)),.vl false 5 (z.aj.map (an.val false))] 0 2 26),some (.row [.vl false 1 (z.origin.map (aq.val false)),.vl false 5 (z.aj.map (an.val false)),.sc (.int .i64 (da ((fun _ s=>qo z s) i c) 267 e))] 0 2 180),some (.row [.sc (.bool (iq z))] 0 2 4),some (.row [.vl false 1 (z.origin.map (aq.val false)),.vl false 5 (z.aj.map (an.val false))] 0 2 26),some (.row [.sc (.int .u16 2)] 0 2 28),some (.row [.vl false 1 (c.owner.map (aq.val false)),.sc (.int .u16 c.type.toNat),.sc (.int .u16 c.cls.toNat),.sc (.int .u32 c.pr.toNat),.vl false 4 (c.data.map (cf.val false))] 0 2 40)]) rfl ?_ ?_
     ·refine bo (T:=[ek,dv,g5,jy,jz,j0,jd,l6,pv,l7]) ok mixed Tryz.func126 rfl (by kernel_rfl) (by kernel_rfl) (by kernel_rfl) (by kernel_rfl) ?_;unfold Tryz.f126
      simp only [↓wR,RA,simprocAttr,TF,ae,e1]
      rw [bm];refine ⟨fun hn2=>?_,fun hn2=>?_⟩
      ·have hb:((fun _ s=>qo z s) i c)=false:=by simpa only [Bool.not_eq_true'] using hn2
       have hv:da ((fun _ s=>qo z s) i c) 267 0=267:=by unfold da;rw [if_pos ⟨rfl,hb⟩]
       simp only [↓wR,RA,simprocAttr,TF,ae,hn2,jf,iz,il]
       try rw [hv]
      ·have hb:((fun _ s=>qo z s) i c)=true:=by simpa only [Bool.not_eq_false'] using hn2
       have hv:da ((fun _ s=>qo z s) i c) 267 0=0:=by unfold da;rw [if_neg (fun q=>by rw [hb] at q;cases q.2)]
       simp only [↓wR,RA,simprocAttr,TF,ae,hn2,jf,iz,il]
       try rw [hv]
     rintro _ _ ⟨rfl,rfl⟩
     simp only [↓wR,RA,simprocAttr,TF,ae,ia];repeat (simp (disch:=omega) only [ah,b9,bu,bw,bz];try simp only [↓wR,RA,simprocAttr,TF,ae,ia])
     exact ⟨(i+1,da ((fun _ s=>qo z s) i c) 267 e),⟨hlt,hx⟩,by simp;omega,by (first|rfl|trivial|omega|((try (simp (disch:=omega) only [ah]));(try (simp only [FB]));first|done|rfl|omega)),by (first|rfl|trivial|omega|((try (simp (disch:=omega) only [ah]));(try (simp only [FB]));first|done|rfl|omega))⟩
   ·rw [dz (decide_eq_false h)] at hx
    simp only [↓wR,RA,simprocAttr,TF,ae,h,jf,iz,il]
    rw [hx];rfl
  rintro _ _ ⟨rfl,rfl⟩
  rw [← he0]
  clear he0
  simp only [↓wR,RA,simprocAttr,TF,ae,ia]
  rfl
 ·simp only [↓wR,RA,simprocAttr,TF,ae,hs1]
  have hbf:(decide ((gw z).1=1) && decide ((gw z).2=1))=false:=by rw [decide_eq_false (show ¬ (gw z).1=1 by omega),Bool.false_and]
  refine ea (fun r st'=>r = .fv []∧st'=br [some (.row [.vl false 1 (z.origin.map (aq.val false)),.vl false 5 (z.aj.map (an.val false))] 0 2 26),some (.row [.vl false 1 (z.origin.map (aq.val false)),.vl false 5 (z.aj.map (an.val false)),.sc (.int .i64 (da (decide ((gw z).1=1) && decide ((gw z).2=1)) 263 (sr z)))] 0 2 180)]) rfl ?_ ?_
  ·refine bo (T:=[ek,dv,g5,jy,jz,j0,jd,l6,pv,l7]) ok mixed Tryz.func126 rfl (by kernel_rfl) (by kernel_rfl) (by kernel_rfl) (by kernel_rfl) ?_;unfold Tryz.f126
   simp only [↓wR,RA,simprocAttr,TF,ae]
   rw [cz];refine ⟨fun ⟨hn1,en1⟩=>?_,fun ⟨hn1,en1⟩=>?_⟩
   ·have hv:da (decide ((gw z).1=1) && decide ((gw z).2=1)) 263 (sr z)=263:=by unfold da;rw [if_pos ⟨en1,hbf⟩]
    simp only [↓wR,RA,simprocAttr,TF,ae,hn1,jf,iz,il]
    try rw [hv]
   ·have hv:da (decide ((gw z).1=1) && decide ((gw z).2=1)) 263 (sr z)=sr z:=by unfold da;rw [if_neg (fun q=>en1 q.1)]
    simp only [↓wR,RA,simprocAttr,TF,ae,hn1,jf,iz,il]
    try rw [hv]
  rintro _ _ ⟨rfl,rfl⟩
  rw [show da (decide ((gw z).1=1) && decide ((gw z).2=1)) 263 (sr z)=n5 z from rfl]
  simp only [↓wR,RA,simprocAttr,TF,ae,ia]
  refine bo (T:=[]) (ak.nil PP) mixed Tryz.func127 rfl (by kernel_rfl) (by kernel_rfl) (by kernel_rfl) (by kernel_rfl) ?_;unfold Tryz.f127
  simp only [↓wR,RA,simprocAttr,TF,ae]
  refine ⟨[1,3,6,45],?_⟩
  have hib:sy PP 154=some (Tryz.f154.ntmps,Tryz.f154.body.getD .skip):=by kernel_rfl
  simp only [↓wR,RA,simprocAttr,TF,ae,hib]
  refine ⟨by kernel_rfl,fun l=>?_⟩
  unfold Tryz.f154
  simp only [↓wR,RA,simprocAttr,TF,ae]
  refine Hd [0,2,7,8,9] (fun (x:Nat × Bool)=>[.sc (.func (.yield l) #[] #[]),.ptr 4 0,.vl false 5 (z.aj.map (an.val false)),.sc (.int .i64 (z.aj.length)),.sc (.int .i64 (x.1))]) (fun x=>[some (.row [.vl false 1 (z.origin.map (aq.val false)),.vl false 5 (z.aj.map (an.val false))] 0 2 26),some (.row [.vl false 1 (z.origin.map (aq.val false)),.vl false 5 (z.aj.map (an.val false)),.sc (.int .i64 (n5 z))] 0 2 180),some (.row [.sc (.bool (x.2))] 0 2 4),some (.row [.vl false 1 (z.origin.map (aq.val false)),.vl false 5 (z.aj.map (an.val false))] 0 2 26),some (.row [.sc (.int .u16 2)] 0 2 28)]) (fun x=>x.1≤z.aj.length∧iq z=(x.2 || Ku z (z.aj.drop x.1))) (fun x=>z.aj.length - x.1) (0,false) ⟨Nat.zero_le _,by rw [Bool.false_or];rfl⟩ (by simp only [↓wR,RA,simprocAttr,TF,ae]<;>rfl) (by simp only [↓wR,RA,simprocAttr,TF,ae]<;>rfl) ?_
  rintro ⟨i,b⟩ ⟨hi,hx⟩
  simp only at hi hx
  simp only [↓wR,RA,simprocAttr,TF,ae]
  rw [tv];refine ⟨fun h=>?_,fun h=>?_⟩
  ·obtain ⟨c,hc,hd1,hlt⟩:=dw h
   have hcs:=hz.set c (List.mem_of_getElem? hc)
   rw [ag4 hd1] at hx
   simp only [↓wR,RA,simprocAttr,TF,ae,h,hc]
   rw [tv];refine ⟨fun h2=>?_,fun h2=>?_⟩
   ·have e2:(c.type.toNat:Int)=2:=by simpa using h2
    rw [decide_eq_true e2,Bool.true_and] at hx
    simp only [↓wR,RA,simprocAttr,TF,ae,h2]
    refine jq [0,2,7,8,9,17,19] ?_
    simp only [↓wR,RA,simprocAttr,TF,ae,j9,gi]
    cases b with
    |true=>
     simp only [↓wR,RA,simprocAttr,TF,ae];repeat (simp (disch:=omega) only [ah,b9,bu,bw,bz];try simp only [↓wR,RA,simprocAttr,TF,ae])
     exact ⟨(i+1,true),⟨hlt,by rw [hx];rfl⟩,by simp;omega,by (first|rfl|trivial|omega|((try (simp (disch:=omega) only [ah]));(try (simp only [FB]));first|done|rfl|omega)),by (first|rfl|trivial|omega|((try (simp (disch:=omega) only [ah]));(try (simp only [FB]));first|done|rfl|omega))⟩
    |false=>
     simp only [↓wR,RA,simprocAttr,TF,ae,fm,hcs.owner,hz.origin];repeat (simp (disch:=omega) only [ah,b9,bu,bw,bz];try simp only [↓wR,RA,simprocAttr,TF,ae,fm,hcs.owner,hz.origin])
     exact ⟨(i+1,ef c.owner z.origin),⟨hlt,by rw [hx,Bool.false_or]⟩,by simp;omega,by (first|rfl|trivial|omega|((try (simp (disch:=omega) only [ah]));(try (simp only [FB]));first|done|rfl|omega)),by (first|rfl|trivial|omega|((try (simp (disch:=omega) only [ah]));(try (simp only [FB]));first|done|rfl|omega))⟩
   ·have e2:¬ (c.type.toNat:Int)=2:=by simpa using h2
    rw [decide_eq_false e2,Bool.false_and,Bool.false_or] at hx
    simp only [↓wR,RA,simprocAttr,TF,ae,h2];repeat (simp (disch:=omega) only [ah,b9,bu,bw,bz];try simp only [↓wR,RA,simprocAttr,TF,ae,h2])
    exact ⟨(i+1,b),⟨hlt,hx⟩,by simp;omega,by (first|rfl|trivial|omega|((try (simp (disch:=omega) only [ah]));(try (simp only [FB]));first|done|rfl|omega)),by (first|rfl|trivial|omega|((try (simp (disch:=omega) only [ah]));(try (simp only [FB]));first|done|rfl|omega))⟩
  rw [dz h] at hx
  have hb:b=iq z:=by rw [hx];simp [Ku]
  simp only [↓wR,RA,simprocAttr,TF,ae,h]
  rw [hb]
  clear h hx hb
  refine ea (fun r st'=>r = .fv []∧st'=br [some (.row [.vl false 1 (z.origin.map (aq.val false)),.vl false 5 (z.aj.map (an.val false))] 0 2 26),some (.row [.vl false 1 (z.origin.map (aq.val false)),.vl false 5 (z.aj.map (an.val false)),.sc (.int .i64 (da (iq z) 264 (n5 z)))] 0 2 180),some (.row [.sc (.bool (iq z))] 0 2 4),some (.row [.vl false 1 (z.origin.map (aq.val false)),.vl false 5 (z.aj.map (an.val false))] 0 2 26),some (.row [.sc (.int .u16 2)] 0 2 28)]) rfl ?_ ?_
  ·refine bo (T:=[ek,dv,g5,jy,jz,j0,jd,l6,pv,l7]) ok mixed Tryz.func126 rfl (by kernel_rfl) (by kernel_rfl) (by kernel_rfl) (by kernel_rfl) ?_;unfold Tryz.f126
   simp only [↓wR,RA,simprocAttr,TF,ae]
   rw [cz];refine ⟨fun ⟨hn1,en1⟩=>?_,fun ⟨hn1,en1⟩=>?_⟩
   ·simp only [↓wR,RA,simprocAttr,TF,ae,hn1]
    rw [bm];refine ⟨fun hn2=>?_,fun hn2=>?_⟩
    ·have hb:(iq z)=false:=by simpa only [Bool.not_eq_true'] using hn2
     have hv:da (iq z) 264 (n5 z)=264:=by unfold da;rw [if_pos ⟨en1,hb⟩]
     simp only [↓wR,RA,simprocAttr,TF,ae,hn1,hn2,jf,iz,il]
     try rw [hv]
    ·have hb:(iq z)=true:=by simpa only [Bool.not_eq_false'] using hn2
     have hv:da (iq z) 264 (n5 z)=n5 z:=by unfold da;rw [if_neg (fun q=>by rw [hb] at q;cases q.2)]
     simp only [↓wR,RA,simprocAttr,TF,ae,hn1,hn2,jf,iz,il]
     try rw [hv]
   ·have hv:da (iq z) 264 (n5 z)=n5 z:=by unfold da;rw [if_neg (fun q=>en1 q.1)]
    simp only [↓wR,RA,simprocAttr,TF,ae,hn1,jf,iz,il]
    try rw [hv]
  rintro _ _ ⟨rfl,rfl⟩
  rw [show da (iq z) 264 (n5 z)=F8 z from rfl]
  simp only [↓wR,RA,simprocAttr,TF,ae,ia]
  obtain ⟨e0,he0⟩:∃ e0,F8 z=e0:=⟨_,rfl⟩
  rw [he0]
  refine ea (fun r st'=>r = .fv []∧st'=br [some (.row [.vl false 1 (z.origin.map (aq.val false)),.vl false 5 (z.aj.map (an.val false))] 0 2 26),some (.row [.vl false 1 (z.origin.map (aq.val false)),.vl false 5 (z.aj.map (an.val false)),.sc (.int .i64 (gm 265 (jm z) 0 z.aj e0))] 0 2 180),some (.row [.sc (.bool (iq z))] 0 2 4),some (.row [.vl false 1 (z.origin.map (aq.val false)),.vl false 5 (z.aj.map (an.val false))] 0 2 26),some (.row [.sc (.int .u16 2)] 0 2 28)]) rfl ?_ ?_
  ·refine bo (T:=[ek,dv,g5,jy,jz,j0,jd,l6,pv,l7]) ok mixed Tryz.func121 rfl (by kernel_rfl) (by kernel_rfl) (by kernel_rfl) (by kernel_rfl) ?_;unfold Tryz.f121
   simp only [↓wR,RA,simprocAttr,TF,ae]
   refine dh [0,1,2,12,13,14] (fun (x:Nat × Int)=>[.ptr 1 0,.sc (.int .i64 (265)),.fn (.func 128) [.ptr 1 0] [],.vl false 5 (z.aj.map (an.val false)),.sc (.int .i64 (z.aj.length)),.sc (.int .i64 (x.1))]) (fun x=>[some (.row [.vl false 1 (z.origin.map (aq.val false)),.vl false 5 (z.aj.map (an.val false))] 0 2 26),some (.row [.vl false 1 (z.origin.map (aq.val false)),.vl false 5 (z.aj.map (an.val false)),.sc (.int .i64 (x.2))] 0 2 180),some (.row [.sc (.bool (iq z))] 0 2 4),some (.row [.vl false 1 (z.origin.map (aq.val false)),.vl false 5 (z.aj.map (an.val false))] 0 2 26),some (.row [.sc (.int .u16 2)] 0 2 28)]) (fun x=>x.1≤z.aj.length∧gm 265 (jm z) 0 z.aj e0=gm 265 (jm z) x.1 (z.aj.drop x.1) x.2) (fun x=>z.aj.length - x.1) (0,e0) ⟨Nat.zero_le _,rfl⟩ (by simp only [↓wR,RA,simprocAttr,TF,ae]<;>rfl) (by simp only [↓wR,RA,simprocAttr,TF,ae]<;>rfl) ?_
   rintro ⟨i,e⟩ ⟨hi,hx⟩
   simp only at hi hx
   simp only [↓wR,RA,simprocAttr,TF,ae]
   rw [bj];refine ⟨fun h=>?_,fun h=>?_⟩
   ·obtain ⟨c,hc,hd1,hlt⟩:=dw (decide_eq_true h)
    rw [u4 hd1] at hx
    have hcs:=hz.set c (List.mem_of_getElem? hc)
    have hi2:(0:Int)≤i∧(i:Int)≤z.aj.length:=by omega
    simp only [↓wR,RA,simprocAttr,TF,ae,h,hc]
    rw [je];refine ⟨fun ⟨h1,e1⟩=>?_,fun ⟨h1,e1⟩=>?_⟩
    ·rw [if_pos e1] at hx
     simp only [↓wR,RA,simprocAttr,TF,ae,h1,jf,iz,il]
     rw [hx]
    ·rw [if_neg (by omega)] at hx
     simp only [↓wR,RA,simprocAttr,TF,ae,h1,hcs,hz,hi2,E6]
     refine ea (fun r st'=>r = .fv []∧st'=br [some (.row [.vl false 1 (z.origin.map (aq.val false)),.vl false 5 (z.aj.map (an.val false))] 0 2 26),some (.row [.vl false 1 (z.origin.map (aq.val false)),.vl false 5 (z.aj.map (an.val false)),.sc (.int .i64 (da ((jm z) i c) 265 e))] 0 2 180),some (.row [.sc (.bool (iq z))] 0 2 4),some (.row [.vl false 1 (z.origin.map (aq.val false)),.vl false 5 (z.aj.map (an.val false))] 0 2 26),some (.row [.sc (.int .u16 2)] 0 2 28),some (.row [.vl false 1 (c.owner.map (aq.val false)),.sc (.int .u16 c.type.toNat),.sc (.int .u16 c.cls.toNat),.sc (.int .u32 c.pr.toNat),.vl false 4 (c.data.map (cf.val false))] 0 2 40)]) rfl ?_ ?_
     ·refine bo (T:=[ek,dv,g5,jy,jz,j0,jd,l6,pv,l7]) ok mixed Tryz.func126 rfl (by kernel_rfl) (by kernel_rfl) (by kernel_rfl) (by kernel_rfl) ?_;unfold Tryz.f126
      simp only [↓wR,RA,simprocAttr,TF,ae,e1]
      rw [bm];refine ⟨fun hn2=>?_,fun hn2=>?_⟩
      ·have hb:((jm z) i c)=false:=by simpa only [Bool.not_eq_true'] using hn2
       have hv:da ((jm z) i c) 265 0=265:=by unfold da;rw [if_pos ⟨rfl,hb⟩]
       simp only [↓wR,RA,simprocAttr,TF,ae,hn2,jf,iz,il]
       try rw [hv]
      ·have hb:((jm z) i c)=true:=by simpa only [Bool.not_eq_false'] using hn2
       have hv:da ((jm z) i c) 265 0=0:=by unfold da;rw [if_neg (fun q=>by rw [hb] at q;cases q.2)]
       simp only [↓wR,RA,simprocAttr,TF,ae,hn2,jf,iz,il]
       try rw [hv]
     rintro _ _ ⟨rfl,rfl⟩
     simp only [↓wR,RA,simprocAttr,TF,ae,ia];repeat (simp (disch:=omega) only [ah,b9,bu,bw,bz];try simp only [↓wR,RA,simprocAttr,TF,ae,ia])
     exact ⟨(i+1,da ((jm z) i c) 265 e),⟨hlt,hx⟩,by simp;omega,by (first|rfl|trivial|omega|((try (simp (disch:=omega) only [ah]));(try (simp only [FB]));first|done|rfl|omega)),by (first|rfl|trivial|omega|((try (simp (disch:=omega) only [ah]));(try (simp only [FB]));first|done|rfl|omega))⟩
   ·rw [dz (decide_eq_false h)] at hx
    simp only [↓wR,RA,simprocAttr,TF,ae,h,jf,iz,il]
    rw [hx];rfl
  rintro _ _ ⟨rfl,rfl⟩
  rw [← he0]
  clear he0
  simp only [↓wR,RA,simprocAttr,TF,ae,ia]
  rw [show gm 265 (jm z) 0 z.aj (F8 z)=Gi z from rfl]
  obtain ⟨e0,he0⟩:∃ e0,Gi z=e0:=⟨_,rfl⟩
  rw [he0]
  refine ea (fun r st'=>r = .fv []∧st'=br [some (.row [.vl false 1 (z.origin.map (aq.val false)),.vl false 5 (z.aj.map (an.val false))] 0 2 26),some (.row [.vl false 1 (z.origin.map (aq.val false)),.vl false 5 (z.aj.map (an.val false)),.sc (.int .i64 (gm 266 (fun _ s=>lx s) 0 z.aj e0))] 0 2 180),some (.row [.sc (.bool (iq z))] 0 2 4),some (.row [.vl false 1 (z.origin.map (aq.val false)),.vl false 5 (z.aj.map (an.val false))] 0 2 26),some (.row [.sc (.int .u16 2)] 0 2 28)]) rfl ?_ ?_
  ·refine bo (T:=[ek,dv,g5,jy,jz,j0,jd,l6,pv,l7]) ok mixed Tryz.func121 rfl (by kernel_rfl) (by kernel_rfl) (by kernel_rfl) (by kernel_rfl) ?_;unfold Tryz.f121
   simp only [↓wR,RA,simprocAttr,TF,ae]
   refine dh [0,1,2,12,13,14] (fun (x:Nat × Int)=>[.ptr 1 0,.sc (.int .i64 (266)),.sc (.func (.func 129) #[] #[]),.vl false 5 (z.aj.map (an.val false)),.sc (.int .i64 (z.aj.length)),.sc (.int .i64 (x.1))]) (fun x=>[some (.row [.vl false 1 (z.origin.map (aq.val false)),.vl false 5 (z.aj.map (an.val false))] 0 2 26),some (.row [.vl false 1 (z.origin.map (aq.val false)),.vl false 5 (z.aj.map (an.val false)),.sc (.int .i64 (x.2))] 0 2 180),some (.row [.sc (.bool (iq z))] 0 2 4),some (.row [.vl false 1 (z.origin.map (aq.val false)),.vl false 5 (z.aj.map (an.val false))] 0 2 26),some (.row [.sc (.int .u16 2)] 0 2 28)]) (fun x=>x.1≤z.aj.length∧gm 266 (fun _ s=>lx s) 0 z.aj e0=gm 266 (fun _ s=>lx s) x.1 (z.aj.drop x.1) x.2) (fun x=>z.aj.length - x.1) (0,e0) ⟨Nat.zero_le _,rfl⟩ (by simp only [↓wR,RA,simprocAttr,TF,ae]<;>rfl) (by simp only [↓wR,RA,simprocAttr,TF,ae]<;>rfl) ?_
   rintro ⟨i,e⟩ ⟨hi,hx⟩
   simp only at hi hx
   simp only [↓wR,RA,simprocAttr,TF,ae]
   rw [bj];refine ⟨fun h=>?_,fun h=>?_⟩
   ·obtain ⟨c,hc,hd1,hlt⟩:=dw (decide_eq_true h)
    rw [u4 hd1] at hx
    have hcs:=hz.set c (List.mem_of_getElem? hc)
    have hi2:(0:Int)≤i∧(i:Int)≤z.aj.length:=by omega
    simp only [↓wR,RA,simprocAttr,TF,ae,h,hc]
    rw [je];refine ⟨fun ⟨h1,e1⟩=>?_,fun ⟨h1,e1⟩=>?_⟩
    ·rw [if_pos e1] at hx
     simp only [↓wR,RA,simprocAttr,TF,ae,h1,jf,iz,il]
     rw [hx]
    ·rw [if_neg (by omega)] at hx
     simp only [↓wR,RA,simprocAttr,TF,ae,h1,hcs,hz,hi2,I2]
     refine ea (fun r st'=>r = .fv []∧st'=br [some (.row [.vl false 1 (z.origin.map (aq.val false)),.vl false 5 (z.aj.map (an.val false))] 0 2 26),some (.row [.vl false 1 (z.origin.map (aq.val false)),.vl false 5 (z.aj.map (an.val false)),.sc (.int .i64 (da ((fun _ s=>lx s) i c) 266 e))] 0 2 180),some (.row [.sc (.bool (iq z))] 0 2 4),some (.row [.vl false 1 (z.origin.map (aq.val false)),.vl false 5 (z.aj.map (an.val false))] 0 2 26),some (.row [.sc (.int .u16 2)] 0 2 28),some (.row [.vl false 1 (c.owner.map (aq.val false)),.sc (.int .u16 c.type.toNat),.sc (.int .u16 c.cls.toNat),.sc (.int .u32 c.pr.toNat),.vl false 4 (c.data.map (cf.val false))] 0 2 40)]) rfl ?_ ?_
     ·refine bo (T:=[ek,dv,g5,jy,jz,j0,jd,l6,pv,l7]) ok mixed Tryz.func126 rfl (by kernel_rfl) (by kernel_rfl) (by kernel_rfl) (by kernel_rfl) ?_;unfold Tryz.f126
      simp only [↓wR,RA,simprocAttr,TF,ae,e1]
      rw [bm];refine ⟨fun hn2=>?_,fun hn2=>?_⟩
      ·have hb:((fun _ s=>lx s) i c)=false:=by simpa only [Bool.not_eq_true'] using hn2
       have hv:da ((fun _ s=>lx s) i c) 266 0=266:=by unfold da;rw [if_pos ⟨rfl,hb⟩]
       simp only [↓wR,RA,simprocAttr,TF,ae,hn2,jf,iz,il]
       try rw [hv]
      ·have hb:((fun _ s=>lx s) i c)=true:=by simpa only [Bool.not_eq_false'] using hn2
       have hv:da ((fun _ s=>lx s) i c) 266 0=0:=by unfold da;rw [if_neg (fun q=>by rw [hb] at q;cases q.2)]
       simp only [↓wR,RA,simprocAttr,TF,ae,hn2,jf,iz,il]
       try rw [hv]
     rintro _ _ ⟨rfl,rfl⟩
     simp only [↓wR,RA,simprocAttr,TF,ae,ia];repeat (simp (disch:=omega) only [ah,b9,bu,bw,bz];try simp only [↓wR,RA,simprocAttr,TF,ae,ia])
     exact ⟨(i+1,da ((fun _ s=>lx s) i c) 266 e),⟨hlt,hx⟩,by simp;omega,by (first|rfl|trivial|omega|((try (simp (disch:=omega) only [ah]));(try (simp only [FB]));first|done|rfl|omega)),by (first|rfl|trivial|omega|((try (simp (disch:=omega) only [ah]));(try (simp only [FB]));first|done|rfl|omega))⟩
   ·rw [dz (decide_eq_false h)] at hx
    simp only [↓wR,RA,simprocAttr,TF,ae,h,jf,iz,il]
    rw [hx];rfl
  rintro _ _ ⟨rfl,rfl⟩
  rw [← he0]
  clear he0
  simp only [↓wR,RA,simprocAttr,TF,ae,ia]
  rw [show gm 266 (fun _ s=>lx s) 0 z.aj (Gi z)=Nf z from rfl]
  obtain ⟨e0,he0⟩:∃ e0,Nf z=e0:=⟨_,rfl⟩
  rw [he0]
  refine ea (fun r st'=>r = .fv []∧st'=br [some (.row [.vl false 1 (z.origin.map (aq.val false)),.vl false 5 (z.aj.map (an.val false))] 0 2 26),some (.row [.vl false 1 (z.origin.map (aq.val false)),.vl false 5 (z.aj.map (an.val false)),.sc (.int .i64 (gm 267 (fun _ s=>qo z s) 0 z.aj e0))] 0 2 180),some (.row [.sc (.bool (iq z))] 0 2 4),some (.row [.vl false 1 (z.origin.map (aq.val false)),.vl false 5 (z.aj.map (an.val false))] 0 2 26),some (.row [.sc (.int .u16 2)] 0 2 28)]) rfl ?_ ?_
  ·refine bo (T:=[ek,dv,g5,jy,jz,j0,jd,l6,pv,l7]) ok mixed Tryz.func121 rfl (by kernel_rfl) (by kernel_rfl) (by kernel_rfl) (by kernel_rfl) ?_;unfold Tryz.f121
   simp only [↓wR,RA,simprocAttr,TF,ae]
   refine dh [0,1,2,12,13,14] (fun (x:Nat × Int)=>[.ptr 1 0,.sc (.int .i64 (267)),.fn (.func 130) [] [.ptr 0 0],.vl false 5 (z.aj.map (an.val false)),.sc (.int .i64 (z.aj.length)),.sc (.int .i64 (x.1))]) (fun x=>[some (.row [.vl false 1 (z.origin.map (aq.val false)),.vl false 5 (z.aj.map (an.val false))] 0 2 26),some (.row [.vl false 1 (z.origin.map (aq.val false)),.vl false 5 (z.aj.map (an.val false)),.sc (.int .i64 (x.2))] 0 2 180),some (.row [.sc (.bool (iq z))] 0 2 4),some (.row [.vl false 1 (z.origin.map (aq.val false)),.vl false 5 (z.aj.map (an.val false))] 0 2 26),some (.row [.sc (.int .u16 2)] 0 2 28)]) (fun x=>x.1≤z.aj.length∧gm 267 (fun _ s=>qo z s) 0 z.aj e0=gm 267 (fun _ s=>qo z s) x.1 (z.aj.drop x.1) x.2) (fun x=>z.aj.length - x.1) (0,e0) ⟨Nat.zero_le _,rfl⟩ (by simp only [↓wR,RA,simprocAttr,TF,ae]<;>rfl) (by simp only [↓wR,RA,simprocAttr,TF,ae]<;>rfl) ?_
   rintro ⟨i,e⟩ ⟨hi,hx⟩
   simp only at hi hx
   simp only [↓wR,RA,simprocAttr,TF,ae]
   rw [bj];refine ⟨fun h=>?_,fun h=>?_⟩
   ·obtain ⟨c,hc,hd1,hlt⟩:=dw (decide_eq_true h)
    rw [u4 hd1] at hx
    have hcs:=hz.set c (List.mem_of_getElem? hc)
    have hi2:(0:Int)≤i∧(i:Int)≤z.aj.length:=by omega
    simp only [↓wR,RA,simprocAttr,TF,ae,h,hc]
    rw [je];refine ⟨fun ⟨h1,e1⟩=>?_,fun ⟨h1,e1⟩=>?_⟩
    ·rw [if_pos e1] at hx
     simp only [↓wR,RA,simprocAttr,TF,ae,h1,jf,iz,il]
     rw [hx]
    ·rw [if_neg (by omega)] at hx
     simp only [↓wR,RA,simprocAttr,TF,ae,h1,hcs,hz,hi2,P2]
     refine ea (fun r st'=>r = .fv []∧st'=br [some (.row [.vl false 1 (z.origin.map (aq.val false)),.vl false 5 (z.aj.map (an.val false))] 0 2 26),some (.row [.vl false 1 (z.origin.map (aq.val false)),.vl false 5 (z.aj.map (an.val false)),.sc (.int .i64 (da ((fun _ s=>qo z s) i c) 267 e))] 0 2 180),some (.row [.sc (.bool (iq z))] 0 2 4),some (.row [.vl false 1 (z.origin.map (aq.val false)),.vl false 5 (z.aj.map (an.val false))] 0 2 26),some (.row [.sc (.int .u16 2)] 0 2 28),some (.row [.vl false 1 (c.owner.map (aq.val false)),.sc (.int .u16 c.type.toNat),.sc (.int .u16 c.cls.toNat),.sc (.int .u32 c.pr.toNat),.vl false 4 (c.data.map (cf.val false))] 0 2 40)]) rfl ?_ ?_
     ·refine bo (T:=[ek,dv,g5,jy,jz,j0,jd,l6,pv,l7]) ok mixed Tryz.func126 rfl (by kernel_rfl) (by kernel_rfl) (by kernel_rfl) (by kernel_rfl) ?_;unfold Tryz.f126
      simp only [↓wR,RA,simprocAttr,TF,ae,e1]
      rw [bm];refine ⟨fun hn2=>?_,fun hn2=>?_⟩
      ·have hb:((fun _ s=>qo z s) i c)=false:=by simpa only [Bool.not_eq_true'] using hn2
       have hv:da ((fun _ s=>qo z s) i c) 267 0=267:=by unfold da;rw [if_pos ⟨rfl,hb⟩]
       simp only [↓wR,RA,simprocAttr,TF,ae,hn2,jf,iz,il]
       try rw [hv]
      ·have hb:((fun _ s=>qo z s) i c)=true:=by simpa only [Bool.not_eq_false'] using hn2
       have hv:da ((fun _ s=>qo z s) i c) 267 0=0:=by unfold da;rw [if_neg (fun q=>by rw [hb] at q;cases q.2)]
       simp only [↓wR,RA,simprocAttr,TF,ae,hn2,jf,iz,il]
       try rw [hv]
     rintro _ _ ⟨rfl,rfl⟩
     simp only [↓wR,RA,simprocAttr,TF,ae,ia];repeat (simp (disch:=omega) only [ah,b9,bu,bw,bz];try simp only [↓wR,RA,simprocAttr,TF,ae,ia])
     exact ⟨(i+1,da ((fun _ s=>qo z s) i c) 267 e),⟨hlt,hx⟩,by simp;omega,by (first|rfl|trivial|omega|((try (simp (disch:=omega) only [ah]));(try (simp only [FB]));first|done|rfl|omega)),by (first|rfl|trivial|omega|((try (simp (disch:=omega) only [ah]));(try (simp only [FB]));first|done|rfl|omega))⟩
   ·rw [dz (decide_eq_false h)] at hx
    simp only [↓wR,RA,simprocAttr,TF,ae,h,jf,iz,il]
    rw [hx];rfl
  rintro _ _ ⟨rfl,rfl⟩
  rw [← he0]
  clear he0
  simp only [↓wR,RA,simprocAttr,TF,ae,ia]
  rfl
noncomputable def Cj (x:ba × Unit):Option AV:=if c7 x.1 then some ((r1 (au .i64)).E true (fy x.1)) else none
set_option maxRecDepth 2000000 in
theorem Ii (x:ba × Unit) (r:AV) (h:Cj x=some r):be PP 82 ((aC bg a0).E x) r:=by
 by_cases hc:c7 x.1
 case neg=>simp only [Cj,if_neg hc] at h;cases h
 simp only [Cj,if_pos hc] at h
 cases h
 exact bb (ak.cons (ai ld) (ak.cons (ai fg) (ak.cons (ai Lg) (ak.cons (ai Q3) (ak.cons (ai Q7) (ak.cons (ai Qy) (ak.cons (ai Me) (ak.cons (ai Wu) (ak.cons (ai Y3) (ak.cons (ai Wx) (ak.nil PP))))))))))) Tryz.func82 (by kernel_rfl) (by kernel_rfl) (by kernel_rfl) (Nat.le_of_ble_eq_true (by kernel_rfl)) (r1 (au .i64)) true (fy x.1) (ahk x.1 hc)
noncomputable abbrev adp:Nat × Bool × (List AV→M AV):=(82,true,dc (aC bg a0) Cj)
def aen (l:List bh):Bool:=l.all fun s=>!decide ((20:Int)<s.data.length)
def Mz (z:ba):Bool:=aen z.aj && decide ((z.aj.length:Int)≤40)
theorem aBb (z:ba) (hz:c7 z):wl PP [] 0 (Tryz.f9.body.getD .skip) (dp PP Tryz.f9.results.toList (fun r st=>(r1 bp).get true st.h r=some (Mz z))) (ca 0 [bg.val false z]) (br []):=by
 have hl:=hz.len
 unfold Tryz.f9
 simp only [ic]
 simp only [↓wR,RA,simprocAttr,TF,ae]
 refine dh [1,3] (fun (i:Nat)=>[.ptr 0 0,.sc (.int .i64 (i))]) (fun _=>[some (.row [.vl false 1 (z.origin.map (aq.val false)),.vl false 5 (z.aj.map (an.val false))] 0 2 26)]) (fun i=>i≤z.aj.length∧aen z.aj=aen (z.aj.drop i)) (fun i=>z.aj.length - i) 0 ⟨Nat.zero_le _,rfl⟩ (by simp only [↓wR,RA,simprocAttr,TF,ae]<;>rfl) (by simp only [↓wR,RA,simprocAttr,TF,ae]<;>rfl) ?_
 rintro i ⟨hi,hx⟩
 simp only [↓wR,RA,simprocAttr,TF,ae]
 rw [bj];refine ⟨fun h=>?_,fun h=>?_⟩
 ·obtain ⟨c,hc,hd1,hlt⟩:=dw (decide_eq_true h)
  have hx':aen z.aj=(!decide ((20:Int)<c.data.length) && aen (z.aj.drop (i+1))):=by rw [hx,hd1];rfl
  simp only [↓wR,RA,simprocAttr,TF,ae,h,hc];repeat (simp (disch:=omega) only [ah,b9,bu,bw,bz];try simp only [↓wR,RA,simprocAttr,TF,ae,h,hc])
  rw [bj];refine ⟨fun h2=>?_,fun h2=>?_⟩
  ·rw [decide_eq_true h2,Bool.not_true,Bool.false_and] at hx'
   simp only [↓wR,RA,simprocAttr,TF,ae,h2];repeat (simp (disch:=omega) only [ah,b9,bu,bw,bz];try simp only [↓wR,RA,simprocAttr,TF,ae,h2])
   rw [Mz,hx'];rfl
  ·rw [decide_eq_false h2,Bool.not_false,Bool.true_and] at hx'
   simp only [↓wR,RA,simprocAttr,TF,ae,h2];repeat (simp (disch:=omega) only [ah,b9,bu,bw,bz];try simp only [↓wR,RA,simprocAttr,TF,ae,h2])
   exact ⟨i+1,⟨hlt,hx'⟩,by omega,by (first|rfl|trivial|omega|((try (simp (disch:=omega) only [ah]));(try (simp only [FB]));first|done|rfl|omega))⟩
 ·rw [dz (decide_eq_false h)] at hx
  simp only [↓wR,RA,simprocAttr,TF,ae,h]
  rw [Mz,hx];rfl
noncomputable def Pv (x:ba × Unit):Option AV:=if c7 x.1 then some ((r1 bp).E true (Mz x.1)) else none
set_option maxRecDepth 2000000 in
theorem aqx (x:ba × Unit) (r:AV) (h:Pv x=some r):be PP 9 ((aC bg a0).E x) r:=by
 by_cases hc:c7 x.1
 case neg=>simp only [Pv,if_neg hc] at h;cases h
 simp only [Pv,if_pos hc] at h
 cases h
 exact bb (ak.nil PP) Tryz.func9 (by kernel_rfl) (by kernel_rfl) (by kernel_rfl) (Nat.le_of_ble_eq_true (by kernel_rfl)) (r1 bp) true (Mz x.1) (aBb x.1 hc)
noncomputable abbrev aFn:Nat × Bool × (List AV→M AV):=(9,true,dc (aC bg a0) Pv)
noncomputable def ik (z:ba) (n:Name):Int:=if fy z≠0 then fy z else if cg n≠0 then cg n else if dj n z.origin=false then 2 else 0
theorem av7 (z:ba) (n:Name) (hz:c7 z) (hn:bc n):wl PP [adp,ek,ug] 0 (Tryz.f107.body.getD .skip) (dp PP Tryz.f107.results.toList (fun r st=>(r1 (au .i64)).get true st.h r=some (ik z n))) (ca 0 [bg.val false z,ar.val false n]) (br []):=by
 unfold Tryz.f107
 simp only [ic,dm]
 simp only [↓wR,RA,simprocAttr,TF,ae,Cj,hz]
 unfold ik
 rw [bm];refine ⟨fun h=>?_,fun h=>?_⟩
 ·have he:fy z≠0:=by simpa using h
  rw [if_pos he]
  simp only [↓wR,RA,simprocAttr,TF,ae,h]
 have he:fy z=0:=by simpa using h
 rw [if_neg (by omega)]
 simp only [↓wR,RA,simprocAttr,TF,ae,h,mw,hn.fit]
 rw [bm];refine ⟨fun h2=>?_,fun h2=>?_⟩
 ·have he:cg n≠0:=by simpa using h2
  rw [if_pos he]
  simp only [↓wR,RA,simprocAttr,TF,ae,h2]
 have he2:cg n=0:=by simpa using h2
 rw [if_neg (by omega)]
 simp only [↓wR,RA,simprocAttr,TF,ae,h2,mo,hn,hz.origin]
 rw [bm];refine ⟨fun h3=>?_,fun h3=>?_⟩
 ·have h3':dj n z.origin=false:=by simpa only [Bool.not_eq_true'] using h3
  rw [if_pos h3']
  simp only [↓wR,RA,simprocAttr,TF,ae,h3]
 ·have h3':dj n z.origin=true:=by simpa only [Bool.not_eq_false'] using h3
  rw [if_neg (by rw [h3'];decide)]
  simp only [↓wR,RA,simprocAttr,TF,ae,h3]
noncomputable def Ja (x:ba × Name × Unit):Option AV:=if c7 x.1∧bc x.2.1 then some ((r1 (au .i64)).E true (ik x.1 x.2.1)) else none
set_option maxRecDepth 2000000 in
theorem aio (x:ba × Name × Unit) (r:AV) (h:Ja x=some r):be PP 107 ((aC bg (aC ar a0)).E x) r:=by
 by_cases hc:c7 x.1∧bc x.2.1
 case neg=>simp only [Ja,if_neg hc] at h;cases h
 simp only [Ja,if_pos hc] at h
 cases h
 exact bb (ak.cons (ai Ii) (ak.cons (ai ld) (ak.cons (ai nh) (ak.nil PP)))) Tryz.func107 (by kernel_rfl) (by kernel_rfl) (by kernel_rfl) (Nat.le_of_ble_eq_true (by kernel_rfl)) (r1 (au .i64)) true (ik x.1 x.2.1) (av7 x.1 x.2.1 hc.1 hc.2)
noncomputable abbrev aBq:Nat × Bool × (List AV→M AV):=(107,true,dc (aC bg (aC ar a0)) Ja)
def du (z:ba):Name→Name
 | []=>[]
 |a::r=>if sa z (a::r)=true then a::r else du z r
theorem Kc {z:ba} {m:Name} (hu:dj m z.origin=true) (hh:sa z m=false):∃ a r,m=a::r∧dj r z.origin=true∧du z m=du z r:=by
 have hs:ef m z.origin=false:=by
  unfold sa at hh
  rw [hu,Bool.true_and] at hh
  cases h:ef m z.origin with
  |false=>rfl
  |true=>rw [h] at hh;cases hh
 have hu':g8 z.origin <:+ g8 m:=by simpa [dj] using hu
 have hs':g8 m≠g8 z.origin:=by simpa [ef] using hs
 cases m with
 |nil=>exact (hs' (List.suffix_nil.1 (by simpa only [g8,List.map_nil] using hu')).symm).elim
 |cons a r=>
  refine ⟨a,r,rfl,?_,by rw [du,if_neg (by rw [hh];decide)]⟩
  have h2:g8 z.origin <:+ fold a::g8 r:=hu'
  rcases List.suffix_cons_iff.1 h2 with h3|h3
  ·exact (hs' h3.symm).elim
  ·simpa [dj] using h3
theorem Cn {z:ba} {m:Name} (hh:sa z m=true):du z m=m:=by
 cases m with
 |nil=>rfl
 |cons a r=>rw [du,if_pos hh]
theorem amo (z:ba) (n:Name) (hz:c7 z) (hn:bc n) (hu:dj n z.origin=true):wl PP [aAl,o9] 0 (Tryz.f108.body.getD .skip) (dp PP Tryz.f108.results.toList (fun r st=>(r1 ar).get true st.h r=some (du z n))) (ca 0 [bg.val false z,ar.val false n]) (br []):=by
 unfold Tryz.f108
 simp only [ic,dm]
 simp only [↓wR,RA,simprocAttr,TF,ae]
 refine dh [1,2] (fun (m:Name)=>[.vl false 1 (m.map (aq.val false)),.ptr 0 0]) (fun _=>[some (.row [.vl false 1 (z.origin.map (aq.val false)),.vl false 5 (z.aj.map (an.val false))] 0 2 26)]) (fun m=>bc m∧dj m z.origin=true∧du z n=du z m) (fun m=>m.length) n ⟨hn,hu,rfl⟩ (by simp only [↓wR,RA,simprocAttr,TF,ae]<;>rfl) (by simp only [↓wR,RA,simprocAttr,TF,ae]<;>rfl) ?_
 rintro m ⟨hm,hmu,hx⟩
 simp only [↓wR,RA,simprocAttr,TF,ae,P5,hz,hm]
 rw [bm];refine ⟨fun h=>?_,fun h=>?_⟩
 ·simp only [↓wR,RA,simprocAttr,TF,ae,h,gu,hm]
  rw [hx,Cn h]
 ·obtain ⟨a,r,rfl,hru,hcr⟩:=Kc hmu h
  have hr:bc r:=hm.drop 1
  rw [hcr] at hx
  simp only [↓wR,RA,simprocAttr,TF,ae,h]
  exact ⟨r,⟨hr,hru,hx⟩,by simp,rfl⟩
noncomputable def Da (x:ba × Name × Unit):Option AV:=if (c7 x.1∧bc x.2.1)∧dj x.2.1 x.1.origin=true then some ((r1 ar).E true (du x.1 x.2.1)) else none
set_option maxRecDepth 2000000 in
theorem ab9 (x:ba × Name × Unit) (r:AV) (h:Da x=some r):be PP 108 ((aC bg (aC ar a0)).E x) r:=by
 by_cases hc:(c7 x.1∧bc x.2.1)∧dj x.2.1 x.1.origin=true
 case neg=>simp only [Da,if_neg hc] at h;cases h
 simp only [Da,if_pos hc] at h
 cases h
 exact bb (ak.cons (ai Zg) (ak.cons (ai j8) (ak.nil PP))) Tryz.func108 (by kernel_rfl) (by kernel_rfl) (by kernel_rfl) (Nat.le_of_ble_eq_true (by kernel_rfl)) (r1 ar) true (du x.1 x.2.1) (amo x.1 x.2.1 hc.1.1 hc.1.2 hc.2)
noncomputable abbrev auv:Nat × Bool × (List AV→M AV):=(108,true,dc (aC bg (aC ar a0)) Da)
theorem B9 (z:ba) (n:Name):∃ k,du z n=n.drop k:=by
 induction n with
 |nil=>exact ⟨0,rfl⟩
 |cons a r ih=>
  unfold du
  split
  ·exact ⟨0,rfl⟩
  ·obtain ⟨k,hk⟩:=ih;exact ⟨k+1,by rw [hk];rfl⟩
theorem ab1 {z:ba} {n:Name} (hn:bc n):bc (du z n):=by
 obtain ⟨k,hk⟩:=B9 z n
 rw [hk];exact hn.drop k
theorem avq (n:Name) (hn:bc n):wl PP [] 0 (Tryz.f110.body.getD .skip) (dp PP Tryz.f110.results.toList (fun r st=>(r1 ar).get true st.h r=some (qq::n))) (ca 0 [ar.val false n]) (br []):=by
 have hl:=hn.lt
 have hlim:(n.length+1) * 16≤140737488355328:=by omega
 unfold Tryz.f110
 simp only [dm]
 simp only [↓wR,RA,simprocAttr,TF,ae,hlim,Nat.add_comm 1 n.length]
 rfl
noncomputable def It (x:Name × Unit):Option AV:=if bc x.1 then some ((r1 ar).E true (qq::x.1)) else none
set_option maxRecDepth 2000000 in
theorem aow (x:Name × Unit) (r:AV) (h:It x=some r):be PP 110 ((aC ar a0).E x) r:=by
 by_cases hc:bc x.1
 case neg=>simp only [It,if_neg hc] at h;cases h
 simp only [It,if_pos hc] at h
 cases h
 exact bb (ak.nil PP) Tryz.func110 (by kernel_rfl) (by kernel_rfl) (by kernel_rfl) (Nat.le_of_ble_eq_true (by kernel_rfl)) (r1 ar) true (qq::x.1) (avq x.1 hc)
noncomputable abbrev aDt:Nat × Bool × (List AV→M AV):=(110,true,dc (aC ar a0) It)
theorem abl (n:Name) (k:Nat):bt (n.drop k)≤bt n:=by
 have:=kh (n.take k) (n.drop k)
 rw [List.take_append_drop] at this
 have h1:=(ph (n.take k) 0).2
 omega
theorem W5 {z:ba} {n:Name} (h:cg n=0):bc (qq::du z n):=by
 obtain ⟨k,hk⟩:=B9 z n
 have h1:=abl n k
 have h2:=ig h
 have h3:=kh [qq] (du z n)
 have h4:bt [qq]=3:=rfl
 rw [hk] at h3 ⊢
 simp only [List.singleton_append] at h3
 unfold bc
 omega
theorem Gp {z:ba} {n:Name} (h:ik z n=0):fy z=0∧cg n=0∧dj n z.origin=true:=by
 unfold ik at h
 split at h
 ·contradiction
 split at h
 ·contradiction
 split at h
 ·cases h
 ·rename_i h1 h2 h3
  exact ⟨by omega,by omega,by simpa using h3⟩
noncomputable def ga (z:ba) (n:Name):C0 × Int:=
 if ik z n≠0 then (w4 0 [] [],ik z n)
 else match ke z n with
  |some c=>(w4 4 c [],0)
  |none=>
   if 0<(js z n).length then (w4 1 n (du z n),0)
   else if (du z n).length=n.length then (w4 2 [] (du z n),0)
   else if sa z (qq::du z n)=true then (w4 3 (qq::du z n) (du z n),0)
   else (w4 0 [] (du z n),0)
theorem ax9 (z:ba) (n:Name) (hz:c7 z) (hn:bc n):wl PP [aBq,avx,auv,zAt,o9,aDt,aAl] 0 (Tryz.f72.body.getD .skip) (dp PP Tryz.f72.results.toList (fun r st=>(r2 sg (au .i64)).get true st.h r=some (ga z n))) (ca 0 [bg.val false z,ar.val false n]) (br []):=by
 unfold Tryz.f72
 simp only [ic,dm]
 simp only [↓wR,RA,simprocAttr,TF,ae,Ja,hz,hn]
 unfold ga
 rw [bm];refine ⟨fun h=>?_,fun h=>?_⟩
 ·have he:ik z n≠0:=by simpa using h
  rw [if_pos he]
  simp only [↓wR,RA,simprocAttr,TF,ae,h]
 have he:ik z n=0:=by simpa using h
 obtain ⟨a1,a2,a3⟩:=Gp he
 rw [if_neg (by omega)]
 have hcs:=ab1 (z:=z) hn
 have hst:=W5 (z:=z) a2
 cases hc:ke z n with
 |some c=>
  simp only [↓wR,RA,simprocAttr,TF,ae,h,D9,hz,hn,hc]
 |none=>
  simp only [↓wR,RA,simprocAttr,TF,ae,h,D9,hz,hn,hc,Option.isSome_none,Da,a3,ae8]
  rw [bj];refine ⟨fun h1=>?_,fun h1=>?_⟩
  ·rw [if_pos (by omega)]
   simp only [↓wR,RA,simprocAttr,TF,ae,h1,gu,hn]
  rw [if_neg (by omega)]
  simp only [↓wR,RA,simprocAttr,TF,ae,h1]
  rw [cz];refine ⟨fun ⟨h2,e2⟩=>?_,fun ⟨h2,e2⟩=>?_⟩
  ·rw [if_pos (by omega)]
   simp only [↓wR,RA,simprocAttr,TF,ae,h2]
  rw [if_neg (by omega)]
  simp only [↓wR,RA,simprocAttr,TF,ae,h2]
  refine ⟨by kernel_rfl,.inl ?_⟩
  simp only [↓wR,RA,simprocAttr,TF,ae,It,hcs,P5,hz,hst]
  refine ⟨by kernel_rfl,?_⟩
  rw [bm];refine ⟨fun h3=>?_,fun h3=>?_⟩
  ·rw [if_pos h3]
   simp only [↓wR,RA,simprocAttr,TF,ae,h3,It,hcs]
  ·rw [if_neg (by rw [h3];decide)]
   simp only [↓wR,RA,simprocAttr,TF,ae,h3]
noncomputable def Ma (x:ba × Name × Unit):Option AV:=if c7 x.1∧bc x.2.1 then some ((r2 sg (au .i64)).E true (ga x.1 x.2.1)) else none
set_option maxRecDepth 2000000 in
theorem aox (x:ba × Name × Unit) (r:AV) (h:Ma x=some r):be PP 72 ((aC bg (aC ar a0)).E x) r:=by
 by_cases hc:c7 x.1∧bc x.2.1
 case neg=>simp only [Ma,if_neg hc] at h;cases h
 simp only [Ma,if_pos hc] at h
 cases h
 exact bb (ak.cons (ai aio) (ak.cons (ai Mi) (ak.cons (ai ab9) (ak.cons (ai auc) (ak.cons (ai j8) (ak.cons (ai aow) (ak.cons (ai Zg) (ak.nil PP)))))))) Tryz.func72 (by kernel_rfl) (by kernel_rfl) (by kernel_rfl) (Nat.le_of_ble_eq_true (by kernel_rfl)) (r2 sg (au .i64)) true (ga x.1 x.2.1) (ax9 x.1 x.2.1 hc.1 hc.2)
noncomputable abbrev aD5:Nat × Bool × (List AV→M AV):=(72,true,dc (aC bg (aC ar a0)) Ma)
end Go.Proofs.YtajammoepjpiiaaGreat
end
section
namespace Go.Proofs.YtajammoepjpiiaaGreat
open Go.Vm
theorem yh {err:Int} (he:err≠0) (p:Nat→bh→Bool):∀ (l:List bh) (i:Nat) (e:Int),gm err p i l e=0→e=0∧∀ k s,l[k]? = some s→p (i+k) s=true:=by
 intro l
 induction l with
 |nil=>intro i e h;exact ⟨h,fun k s hs=>by simp at hs⟩
 |cons a l ih=>
  intro i e h
  rw [gm] at h
  split at h
  ·contradiction
  ·rename_i h0
   have h0:e=0:=by omega
   obtain ⟨h1,h2⟩:=ih (i+1) _ h
   refine ⟨h0,fun k s hs=>?_⟩
   cases k with
   |zero=>
    simp at hs
    subst hs
    cases hp:p i a with
    |true=>simp [hp]
    |false=>rw [da,if_pos ⟨h0,hp⟩] at h1;exact (he h1).elim
   |succ k=>
    have:=h2 k s (by simpa using hs)
    rwa [show i+1+k=i+(k+1) from by omega] at this
theorem Xl {b:Bool} {err e:Int} (he:err≠0) (h:da b err e=0):e=0∧b=true:=by
 unfold da at h
 split at h
 ·exact (he h).elim
 ·rename_i hn
  refine ⟨h,?_⟩
  cases b with
  |true=>rfl
  |false=>exact (hn ⟨h,rfl⟩).elim
structure axm (z:ba):Prop where
 first:v9 z=0
 aGn:∀ k s,z.aj[k]? = some s→lg z k s=true
 cls:∀ s ∈ z.aj,oq s=true
 inside:∀ s ∈ z.aj,dj s.owner z.origin=true
 aAq:(gw z).1=1∧(gw z).2=1
 aGo:iq z=true
 alone:∀ k s,z.aj[k]? = some s→jm z k s=true
 star:∀ s ∈ z.aj,lx s=true
 occ:∀ s ∈ z.aj,qo z s=true
theorem Kp {z:ba} (h:fy z=0):axm z:=by
 unfold fy at h
 split at h
 ·contradiction
 rename_i h0
 obtain ⟨h7,p8⟩:=yh (by decide) _ _ _ _ h
 obtain ⟨h6,p7⟩:=yh (by decide) _ _ _ _ h7
 obtain ⟨h5,p6⟩:=yh (by decide) _ _ _ _ h6
 obtain ⟨h4,p5⟩:=Xl (by decide) h5
 obtain ⟨h3,p4⟩:=Xl (by decide) h4
 obtain ⟨h2,p3⟩:=yh (by decide) _ _ _ _ h3
 obtain ⟨h1,p2⟩:=yh (by decide) _ _ _ _ h2
 obtain ⟨_,p1⟩:=yh (by decide) _ _ _ _ h1
 have mem:∀ (p:bh→Bool),(∀ k s,z.aj[k]? = some s→p s=true)→∀ s ∈ z.aj,p s=true:=fun p hp s hs=>by
  obtain ⟨k,hk,rfl⟩:=List.getElem_of_mem hs
  exact hp k _ (List.getElem?_eq_getElem hk)
 simp only [Bool.and_eq_true,decide_eq_true_eq] at p4
 exact ⟨by omega,fun k s hs=>by simpa using p1 k s hs,mem _ p2,mem _ p3,p4,p5,fun k s hs=>by simpa using p6 k s hs,mem _ p7,mem _ p8⟩
theorem q9 {a b:Name}:ef a b=true↔g8 a=g8 b:=by simp [ef]
theorem ve {a b:Name}:dj a b=true↔g8 b <:+ g8 a:=by simp [dj]
theorem aoh {a b:Name} (h:ef a b=true):dj a b=true:=ve.2 (by rw [q9.1 h];exact List.suffix_refl _)
theorem aiy {a b c:Name} (h1:dj a b=true) (h2:dj b c=true):dj a c=true:=ve.2 ((ve.1 h2).trans (ve.1 h1))
theorem Ct {a a' b:Name} (h:ef a a'=true):dj a b=dj a' b:=by simp only [dj,q9.1 h]
theorem ard {z:ba} {n m:Name} (h:ef n m=true):ke z n=ke z m:=by
 have:gx z n=gx z m:=by funext b s;simp only [gx,Ct h]
 unfold ke;rw [this]
theorem aa3 (n:Name):(g8 n).length=n.length:=List.length_map _
theorem av2 {a b:Name} (h:ef a b=true):a.length=b.length:=by
 have:=congrArg List.length (q9.1 h)
 rwa [aa3,aa3] at this
theorem aab (a:Name):ef a a=true:=q9.2 rfl
theorem Wq (a:Name):dj a a=true:=ve.2 (List.suffix_refl _)
theorem anf (a:ByteArray) (n:Name):dj (a::n) n=true:=ve.2 (List.suffix_cons _ _)
theorem abt {z:ba}:∀ {n:Name},dj n z.origin=true→sa z (du z n)=true∧dj n (du z n)=true:=by
 intro n
 induction n with
 |nil=>
  intro hu
  cases hh:sa z [] with
  |true=>exact ⟨hh,Wq _⟩
  |false=>obtain ⟨a,r,h,_⟩:=Kc hu hh;cases h
 |cons a n ih=>
  intro hu
  cases hh:sa z (a::n) with
  |true=>rw [Cn hh];exact ⟨hh,Wq _⟩
  |false=>
   obtain ⟨a',r,h,hr,hc⟩:=Kc hu hh
   cases h
   rw [hc]
   obtain ⟨h1,h2⟩:=ih hr
   exact ⟨h1,aiy (anf a n) h2⟩
theorem anc {z:ba} {n:Name} (h:(du z n).length=n.length):du z n=n:=by
 obtain ⟨k,hk⟩:=B9 z n
 rw [hk] at h ⊢
 rw [List.length_drop] at h
 cases n with
 |nil=>exact List.drop_nil
 |cons a n=>
  have:k=0:=by simp at h;omega
  rw [this];rfl
theorem afc {z:ba} {n:Name} (h:(du z n).length≠n.length):sa z n=false:=by
 cases hh:sa z n with
 |false=>rfl
 |true=>rw [Cn hh] at h;exact (h rfl).elim
theorem aBw {z:ba} {n:Name} (hg:axm z) (hp : 0<(js z n).length):sa z n=true:=by
 obtain ⟨s,hs⟩:=List.exists_mem_of_length_pos hp
 obtain ⟨hs1,hs2⟩:=List.mem_filter.1 hs
 have hi:=hg.inside s hs1
 unfold sa
 rw [← Ct hs2,hi,Bool.true_and,Bool.or_eq_true]
 exact .inr (List.any_eq_true.2 ⟨s,hs1,aoh hs2⟩)
inductive aBo (z:ba) (n:Name):Prop
 |beyond (c:Name) (hc:ke z n=some c) (h:ga z n=(w4 4 c [],0))
 |exact (hc:ke z n=none) (hp : 0<(js z n).length) (hh:sa z n=true) (h:ga z n=(w4 1 n n,0))
 |empty (hc:ke z n=none) (hp:js z n=[]) (hh:sa z n=true) (h:ga z n=(w4 2 [] n,0))
 |aFz (hc:ke z n=none) (hp:js z n=[]) (hh:sa z n=false) (hs:sa z (qq::du z n)=true) (h:ga z n=(w4 3 (qq::du z n) (du z n),0))
 |none (hc:ke z n=none) (hp:js z n=[]) (hh:sa z n=false) (hs:sa z (qq::du z n)=false) (h:ga z n=(w4 0 [] (du z n),0))
theorem E7 {z:ba} {n:Name} (h:ik z n=0):aBo z n:=by
 obtain ⟨h1,h2,h3⟩:=Gp h
 have hg:=Kp h1
 have hf:ga z n=match ke z n with
  |some c=>(w4 4 c [],0)
  |none=>
   if 0<(js z n).length then (w4 1 n (du z n),0)
   else if (du z n).length=n.length then (w4 2 [] (du z n),0)
   else if sa z (qq::du z n)=true then (w4 3 (qq::du z n) (du z n),0)
   else (w4 0 [] (du z n),0):=by unfold ga;rw [if_neg (by omega)]<;>rfl
 cases hc:ke z n with
 |some c=>rw [hc] at hf;exact .beyond c hc hf
 |none=>
  rw [hc] at hf
  simp only at hf
  split at hf
  ·rename_i hp
   have hh:=aBw hg hp
   rw [Cn hh] at hf
   exact .exact hc hp hh hf
  rename_i hp
  have hp:js z n=[]:=List.eq_nil_of_length_eq_zero (by omega)
  split at hf
  ·rename_i hl
   have he:=anc hl
   have hh:=(abt h3).1
   rw [he] at hh hf
   exact .empty hc hp hh hf
  rename_i hl
  have hh:=afc hl
  split at hf
  ·rename_i hs;exact .aFz hc hp hh hs hf
  ·rename_i hs;exact .none hc hp hh (by simpa using hs) hf
theorem ad3 {z:ba} {n:Name} (h:ik z n≠0):ga z n=(w4 0 [] [],ik z n):=by unfold ga;rw [if_pos h]
end Go.Proofs.YtajammoepjpiiaaGreat
end
section
namespace Go.Proofs.YtajammoepjpiiaaGreat
open Go.Vm
set_option maxRecDepth 2000000
def Dp (l:List bh):Prop:=fu my l≤16777216
instance (l:List bh):Decidable (Dp l):=inferInstanceAs (Decidable (_≤_))
theorem Dp.mem {l:List bh} (h:Dp l):∀ s ∈ l,dr s:=fun s hs=>by
 have h1:my s<fu my l:=pc hs
 unfold Dp at h;unfold dr;omega
theorem Dp.len {l:List bh} (h:Dp l):l.length≤16777216:=Nat.le_trans (rm my l) h
theorem c7.aj {z:ba} (h:c7 z):Dp z.aj:=by unfold c7 vy at h;unfold Dp;omega
def O8 (l:List bh):Prop:=l.length≤281474976710656∧∀ s ∈ l,dr s
instance (l:List bh):Decidable (O8 l):=inferInstanceAs (Decidable (_∧_))
theorem c7.mid {z:ba} (h:c7 z):O8 z.aj:=⟨Nat.le_trans h.aj.len (by decide),h.aj.mem⟩
def se (n:Name) (t:UInt16) (s:bh):Bool:=decide ((s.type.toNat:Int)=t.toNat) && (decide ((s.cls.toNat:Int)=1) && ef s.owner n)
def ji (l:List bh) (n:Name) (t:UInt16):Option bh:=l.find? (se n t)
def m5:bh:=mkS [] 0 0 0 []
theorem Y2 {l:List bh} {p:bh→Bool} {i:Nat} {c:bh} (h:l.drop i=c::l.drop (i+1)):(l.drop i).find? p=if p c=true then some c else (l.drop (i+1)).find? p:=by
 rw [h,List.find?_cons];split<;>simp_all
theorem ar9 (l:List bh) (n:Name) (t:UInt16) (hl:O8 l) (hn:bc n):wl PP [dv,Ey] 0 (Tryz.f11.body.getD .skip) (dp PP Tryz.f11.results.toList (fun r st=>(r2 an bp).get true st.h r=some ((ji l n t).getD m5,(ji l n t).isSome))) (ca 0 [(cp an).val false l,ar.val false n,cw.val false t]) (br []):=by
 have hlen:=hl.1
 unfold Tryz.f11
 simp only [dm]
 simp only [↓wR,RA,simprocAttr,TF,ae]
 refine dh [1,2,6,10,11,12] (fun (i:Nat)=>[.vl false 1 (n.map (aq.val false)),.sc (.int .u16 t.toNat),.ptr 0 0,.vl false 5 (l.map (an.val false)),.sc (.int .i64 (l.length)),.sc (.int .i64 (i))]) (fun _=>[some (.row [.sc (.slice none 0 0),.sc (.int .u16 0),.sc (.int .u16 0),.sc (.int .u32 0),.sc (.slice none 0 0)] 0 2 40)]) (fun i=>i≤l.length∧ji l n t=(l.drop i).find? (se n t)) (fun i=>l.length - i) 0 ⟨Nat.zero_le _,rfl⟩ (by simp only [↓wR,RA,simprocAttr,TF,ae]<;>rfl) (by simp only [↓wR,RA,simprocAttr,TF,ae]<;>rfl) ?_
 rintro i ⟨hi,hx⟩
 simp only [↓wR,RA,simprocAttr,TF,ae]
 rw [bj];refine ⟨fun h=>?_,fun h=>?_⟩
 ·obtain ⟨c,hc,hd1,hlt⟩:=dw (decide_eq_true h)
  rw [Y2 hd1] at hx
  have hcs:=hl.2 c (List.mem_of_getElem? hc)
  simp only [↓wR,RA,simprocAttr,TF,ae,h,hc]
  rw [cz];refine ⟨fun ⟨h1,e1⟩=>?_,fun ⟨h1,e1⟩=>?_⟩
  ·simp only [↓wR,RA,simprocAttr,TF,ae,h1]
   rw [cz];refine ⟨fun ⟨h2,e2⟩=>?_,fun ⟨h2,e2⟩=>?_⟩
   ·simp only [↓wR,RA,simprocAttr,TF,ae,h2,fm,hcs.owner,hn]
    rw [bm];refine ⟨fun h3=>?_,fun h3=>?_⟩
    ·have hp:se n t c=true:=by simp [se,e1,e2,h3]
     rw [if_pos hp] at hx
     simp only [↓wR,RA,simprocAttr,TF,ae,h3,ta,hcs,hx];repeat (simp (disch:=omega) only [ah,b9,bu,bw,bz];try simp only [↓wR,RA,simprocAttr,TF,ae,h3,ta,hcs,hx])
    ·have hp:se n t c=false:=by simp [se,h3]
     rw [hp,if_neg (by decide)] at hx
     simp only [↓wR,RA,simprocAttr,TF,ae,h3];repeat (simp (disch:=omega) only [ah,b9,bu,bw,bz];try simp only [↓wR,RA,simprocAttr,TF,ae,h3])
     exact ⟨i+1,⟨hlt,hx⟩,by omega,by (first|rfl|trivial|omega|((try (simp (disch:=omega) only [ah]));(try (simp only [FB]));first|done|rfl|omega))⟩
   ·have hp:se n t c=false:=by simp [se,e2]
    rw [hp,if_neg (by decide)] at hx
    simp only [↓wR,RA,simprocAttr,TF,ae,h2];repeat (simp (disch:=omega) only [ah,b9,bu,bw,bz];try simp only [↓wR,RA,simprocAttr,TF,ae,h2])
    exact ⟨i+1,⟨hlt,hx⟩,by omega,by (first|rfl|trivial|omega|((try (simp (disch:=omega) only [ah]));(try (simp only [FB]));first|done|rfl|omega))⟩
  ·have hp:se n t c=false:=by simp [se,e1]
   rw [hp,if_neg (by decide)] at hx
   simp only [↓wR,RA,simprocAttr,TF,ae,h1];repeat (simp (disch:=omega) only [ah,b9,bu,bw,bz];try simp only [↓wR,RA,simprocAttr,TF,ae,h1])
   exact ⟨i+1,⟨hlt,hx⟩,by omega,by (first|rfl|trivial|omega|((try (simp (disch:=omega) only [ah]));(try (simp only [FB]));first|done|rfl|omega))⟩
 ·rw [dz (decide_eq_false h),List.find?_nil] at hx
  simp only [↓wR,RA,simprocAttr,TF,ae,h,hx]
  rfl
noncomputable def tt (x:List bh × Name × UInt16 × Unit):Option AV:=if O8 x.1∧bc x.2.1 then some ((r2 an bp).E true (((ji x.1 x.2.1 x.2.2.1).getD m5,(ji x.1 x.2.1 x.2.2.1).isSome))) else none
set_option maxRecDepth 2000000 in
theorem te (x:List bh × Name × UInt16 × Unit) (r:AV) (h:tt x=some r):be PP 11 ((aC (cp an) (aC ar (aC cw a0))).E x) r:=by
 by_cases hc:O8 x.1∧bc x.2.1
 case neg=>simp only [tt,if_neg hc] at h;cases h
 simp only [tt,if_pos hc] at h
 cases h
 exact bb (ak.cons (ai fg) (ak.cons (ai A8) (ak.nil PP))) Tryz.func11 (by kernel_rfl) (by kernel_rfl) (by kernel_rfl) (Nat.le_of_ble_eq_true (by kernel_rfl)) (r2 an bp) true (((ji x.1 x.2.1 x.2.2.1).getD m5,(ji x.1 x.2.1 x.2.2.1).isSome)) (ar9 x.1 x.2.1 x.2.2.1 hc.1 hc.2)
noncomputable abbrev Bd:Nat × Bool × (List AV→M AV):=(11,true,dc (aC (cp an) (aC ar (aC cw a0))) tt)
theorem anj (fr h):cw.fp fr h (.sc (.int .u16 1))=some 1:=xu fr h 1
theorem axy (fr h):cw.fp fr h (.sc (.int .u16 2))=some 2:=xu fr h 2
theorem axz (fr h):cw.fp fr h (.sc (.int .u16 5))=some 5:=xu fr h 5
theorem aw3 (fr h):cw.fp fr h (.sc (.int .u16 6))=some 6:=xu fr h 6
theorem ark (fr h):cw.fp fr h (.sc (.int .u16 28))=some 28:=xu fr h 28
theorem J9:type_of% @anj∧type_of% @axy∧type_of% @axz∧type_of% @aw3∧type_of% @ark:=⟨@anj,@axy,@axz,@aw3,@ark⟩
theorem Mj (fr h k st et) (s:bh):og an fr h 0 1 (.row [.vl true 1 (s.owner.map (aq.val false)),.sc (.int .u16 s.type.toNat),.sc (.int .u16 s.cls.toNat),.sc (.int .u32 s.pr.toNat),.vl true 4 (s.data.map (cf.val true))] k st et)=some [s]:=A1 an fr h true [s] k st et 1 rfl rfl
theorem me.aAf {az:Nat} {vs vs':List AV} {os os':List (Option bf)} (hp:az≤1000) (hV:AV.dg.go (fun o=>idx (ud az vs os) o 0) vs=vs') (hO:i4 (br os).h (fun o=>idx (ud az vs os) o 0) (ud az vs os)=os'):me az vs os vs' os':=by
 subst hV hO;exact me.canon hp
noncomputable def qm (z:ba) (n:Name) (t:UInt16):C0 × Int:=
 if (ga z n).2=0∧((t.toNat:Int)=0∨(t.toNat:Int)=41) then (w4 0 [] [],6) else ga z n
theorem ari (z:ba) (n:Name) (t:UInt16) (hz:c7 z) (hn:bc n):wl PP [aD5] 0 (Tryz.f35.body.getD .skip) (dp PP Tryz.f35.results.toList (fun r st=>(r2 sg (au .i64)).get true st.h r=some (qm z n t))) (ca 0 [bg.val false z,ar.val false n,cw.val false t]) (br []):=by
 unfold Tryz.f35
 simp only [ic,dm]
 unfold qm
 rcases hf:ga z n with ⟨⟨k,nd,cl⟩,e⟩
 simp only [↓wR,RA,simprocAttr,TF,ae,Ma,hz,hn,hf]
 rw [cz];refine ⟨fun ⟨h1,e1⟩=>?_,fun ⟨h1,e1⟩=>?_⟩
 ·simp only [↓wR,RA,simprocAttr,TF,ae,h1]
  rw [cz];refine ⟨fun ⟨h2,e2⟩=>?_,fun ⟨h2,e2⟩=>?_⟩
  ·rw [if_pos ⟨e1,.inl e2⟩]
   simp only [↓wR,RA,simprocAttr,TF,ae,h2]
  ·simp only [↓wR,RA,simprocAttr,TF,ae,h2]
   rw [cz];refine ⟨fun ⟨h3,e3⟩=>?_,fun ⟨h3,e3⟩=>?_⟩
   ·rw [if_pos ⟨e1,.inr e3⟩]
    simp only [↓wR,RA,simprocAttr,TF,ae,h3]
   ·rw [if_neg (fun q=>q.2.elim e2 e3)]
    simp only [↓wR,RA,simprocAttr,TF,ae,h3]
    rfl
 ·rw [if_neg (fun q=>e1 q.1)]
  simp only [↓wR,RA,simprocAttr,TF,ae,h1]
  rfl
noncomputable def E5 (x:ba × Name × UInt16 × Unit):Option AV:=if c7 x.1∧bc x.2.1 then some ((r2 sg (au .i64)).E true (qm x.1 x.2.1 x.2.2.1)) else none
set_option maxRecDepth 2000000 in
theorem ais (x:ba × Name × UInt16 × Unit) (r:AV) (h:E5 x=some r):be PP 35 ((aC bg (aC ar (aC cw a0))).E x) r:=by
 by_cases hc:c7 x.1∧bc x.2.1
 case neg=>simp only [E5,if_neg hc] at h;cases h
 simp only [E5,if_pos hc] at h
 cases h
 exact bb (ak.cons (ai aox) (ak.nil PP)) Tryz.func35 (by kernel_rfl) (by kernel_rfl) (by kernel_rfl) (Nat.le_of_ble_eq_true (by kernel_rfl)) (r2 sg (au .i64)) true (qm x.1 x.2.1 x.2.2.1) (ari x.1 x.2.1 x.2.2.1 hc.1 hc.2)
noncomputable abbrev aAs:Nat × Bool × (List AV→M AV):=(35,true,dc (aC bg (aC ar (aC cw a0))) E5)
theorem Hy {s:bh} (h:oy s=0):∃ d,s.data[0]? = some d∧fl s.type d=0:=by
 unfold oy at h
 split at h
 ·contradiction
 split at h
 ·cases h
 rename_i _ q
 split at h
 ·cases h
 cases hd:s.data with
 |nil=>exact (q (by rw [hd];rfl)).elim
 |cons d r=>
  rw [hd,s8] at h
  split at h
  ·contradiction
  ·rename_i q;exact ⟨d,rfl,by omega⟩
theorem K5 {s:bh} (h:oy s=0):∀ d ∈ s.data,fl s.type d=0:=by
 have key:∀ (l pre:List db),s8 s.type pre l=0→∀ d ∈ l,fl s.type d=0:=by
  intro l
  induction l with
  |nil=>intro pre _ d hd;cases hd
  |cons a l ih=>
   intro pre h d hd
   rw [s8] at h
   split at h
   ·contradiction
   split at h
   ·cases h
   rcases List.mem_cons.1 hd with rfl|hd
   ·omega
   ·exact ih _ h d hd
 unfold oy at h
 split at h
 ·contradiction
 split at h
 ·cases h
 split at h
 ·cases h
 exact key _ _ h
theorem D6 {t:UInt16} {d:db} (h:fl t d=0):(d.names.length:Int)=(jn t).names∧(d.nums.length:Int)=(jn t).nums:=by
 have hf:Ah (jn t) t d=true:=by
  unfold fl at h
  split at h
  ·cases h
  split at h
  ·cases h
  ·rename_i q;simpa using q
 unfold Ah at hf
 split at hf
 ·cases hf
 ·rename_i q
  exact ⟨Decidable.byContradiction fun e=>q (.inl e),Decidable.byContradiction fun e=>q (.inr (.inl e))⟩
theorem au0 {s:bh} (h:oy s=0) (ht:(s.type.toNat:Int)=5):∃ d n,s.data[0]? = some d∧d.names[0]? = some n:=by
 obtain ⟨d,hd,he⟩:=Hy h
 have h1:=(D6 he).1
 have h2:(jn s.type).names=1:=by
  unfold jn;rw [ht];rfl
 rw [h2] at h1
 have : 0<d.names.length:=by omega
 exact ⟨d,d.names[0],hd,List.getElem?_eq_getElem this⟩
theorem aA8 {s:bh} (h:oy s=0) (ht:(s.type.toNat:Int)=6):∃ d k,s.data[0]? = some d∧d.nums[4]? = some k:=by
 obtain ⟨d,hd,he⟩:=Hy h
 have h1:=(D6 he).2
 have h2:(jn s.type).nums=5:=by
  unfold jn;rw [ht];rfl
 rw [h2] at h1
 have : 4<d.nums.length:=by omega
 exact ⟨d,d.nums[4],hd,List.getElem?_eq_getElem this⟩
theorem xw {z:ba} (h:fy z=0):∀ s ∈ z.aj,oy s=0:=by
 have hf:=(Kp h).first
 unfold v9 at hf
 split at hf
 ·contradiction
 have key:∀ (l:List bh) (e:Int),Cy l e=0→e=0∧∀ s ∈ l,oy s=0:=by
  intro l
  induction l with
  |nil=>intro e h;exact ⟨h,fun s hs=>by cases hs⟩
  |cons a l ih=>
   intro e h
   rw [Cy] at h
   obtain ⟨h1,h2⟩:=ih _ h
   split at h1
   ·rename_i e0
    exact ⟨e0,fun s hs=>(List.mem_cons.1 hs).elim (fun q=>q ▸ h1) (h2 s)⟩
   ·rename_i e0;exact (e0 h1).elim
 exact (key _ _ hf).2
theorem A4 {l:List bh} {n:Name} {t:UInt16} {s:bh} (h:ji l n t=some s):s ∈ l∧(s.type.toNat:Int)=t.toNat∧(s.cls.toNat:Int)=1∧ef s.owner n=true:=by
 have h1:=List.mem_of_find?_eq_some h
 have h2:=List.find?_some h
 simp only [se,Bool.and_eq_true,decide_eq_true_eq] at h2
 exact ⟨h1,h2.1,h2.2.1,h2.2.2⟩
def wx (n:Name) (s:bh):bh:=mkS n s.type s.cls s.pr s.data
theorem ate {xs:List bh} {i:Nat} {c:bh} (n:Name) (k:Nat) (et:TypeId) (id:Nat) (hc:xs[i]? = some c) :
 zg id (i * 5) 1 [ar.val true n] (.row (cellsOf an true xs) 0 k et)=(jg id (.row (cellsOf an true (xs.take i++wx n c::xs.drop (i+1))) 0 k et)).bind fun _=>.pure (.sc undef):=by
 obtain ⟨hi,rfl⟩:=List.getElem?_eq_some_iff.1 hc
 have h0:xs=xs.take i++xs[i]::xs.drop (i+1):=by rw [← List.drop_eq_getElem_cons hi,List.take_append_drop]
 have hl:(cellsOf an true xs).length=xs.length * 5:=yn an true xs
 have h1:(cellsOf an true xs).take (i * 5)=cellsOf an true (xs.take i):=ag2 an true xs i
 have h2:(cellsOf an true xs).drop (i * 5)=cellsOf an true (xs.drop i):=agz an true xs i
 have h3:(cellsOf an true xs).drop (i * 5+1)=(an.cells true xs[i]).drop 1++cellsOf an true (xs.drop (i+1)):=by
  rw [← List.drop_drop,h2,List.drop_eq_getElem_cons hi,Ni];rfl
 have hlt:i * 5+1≤xs.length * 5:=by omega
 have h4:(cellsOf an true xs).take (i * 5)++[ar.val true n]++(cellsOf an true xs).drop (i * 5+1)=cellsOf an true (xs.take i++wx n xs[i]::xs.drop (i+1)):=by
  rw [h1,h3,C4,Ni,List.append_assoc];rfl
 have hone:[ar.val true n].all AV.one=true:=rfl
 unfold zg
 simp only [hl,Nat.ble_eq_true_of_le hlt,h4,hone]
 rfl
end Go.Proofs.YtajammoepjpiiaaGreat
end
